import Derived.Test.YtkcbaokljkalcaaGreatBy2C4
import Derived.Test.YtkcbaokljkalcaaGreatBy2C1
import Derived.Test.YtkcbaokljkalcaaGreatBy2C2
set_option linter.unusedVariables false
set_option linter.unusedSimpArgs false
set_option linter.defProp false
namespace Go.AX
open Go.Proofs Go.RowKit
set_option maxRecDepth 1000000
set_option maxHeartbeats 40000000
set_option linter.unusedSimpArgs false
set_option linter.unusedVariables false
def okO:AO→Bool
 | .cells _ el _=>!(Nat.beq el 29||Nat.beq el 34)
 | _=>true
def Fx (b:Nat) (s s':St):Prop:=s.nx≤s'.nx∧(∀ i o,s.h.get i=some o→okO o=true→s'.h.get i=some o)∧∀ i,i < b→s'.h.get i=s.h.get i
theorem Fx.refl {b:Nat} (s:St):Fx b s s:=⟨Nat.le_refl _,fun _ _ h _=>h,fun _ _=>rfl⟩
theorem Fx.trans {b:Nat} {s s' s'':St} (h:Fx b s s') (h':Fx b s' s''):Fx b s s'':=⟨Nat.le_trans h.1 h'.1,fun i o e k=>h'.2.1 i o (h.2.1 i o e k) k,fun i hi=>(h'.2.2 i hi).trans (h.2.2 i hi)⟩
theorem Fx.of {b:Nat} {s s':St} (hb:b≤s.nx) (hB:qc s) (h:Ext s s'):Fx b s s':=⟨h.1,fun i o e _=>(h.2 i (hB _ _ e)).trans e,fun i hi=>h.2 i (by omega)⟩
theorem RepT.fx {b:Nat} {s s':St} {T:QH} (h:RepT s T) (f:Fx b s s'):RepT s' T:=fun i nd hi=>⟨f.2.1 _ _ (h i nd hi).1 rfl,f.2.1 _ _ (h i nd hi).2 rfl⟩
theorem SlV.fx {b:Nat} {s s':St} {V:AV} {names:List (List Nat)} (h:SlV s V names) (f:Fx b s s'):SlV s' V names:=by
 rcases h with h|h|⟨id,off,ci,cap,ex,cs,fz,h1,h2,h3⟩
 ·exact Or.inl h
 ·exact Or.inr (Or.inl h)
 ·exact Or.inr (Or.inr ⟨id,off,ci,cap,ex,cs,fz,h1,f.2.1 _ _ h2 rfl,h3⟩)
abbrev En:=List Nat × Int × Int × List Nat
def ql5 (p:List Nat) (nd:Nd):En:=(p,nd.kind,nd.mode,nd.data)
def Q8:List En→List AV
 | []=>[]
 | e::l=>.str e.1::.raw (.int .i64 e.2.1)::.raw (.int .i64 e.2.2.1)::.str e.2.2.2::Q8 l
theorem qfc:∀ {l:List En},(Q8 l).length=l.length * 4
 | []=>rfl
 | e::l=>by simp only[Q8,List.length_cons,qfc (l:=l)];omega
theorem qdl:∀ {l r:List En},Q8 (l++r)=Q8 l++Q8 r
 | [],_=>rfl
 | e::l,r=>by simp only[List.cons_append,Q8,qdl (l:=l)]
def Er (s:St) (V:AV) (acc:List En):Prop:=(V=nilS∧acc=[])∨∃ id,V=.slice id 0 acc.length 0 acc.length false∧s.h.get id=some (.cells (Q8 acc) 34 8)
def ErB (b:Nat) (s:St) (V:AV) (acc:List En):Prop:=(V=nilS∧acc=[])∨∃ id,b≤id∧V=.slice id 0 acc.length 0 acc.length false∧s.h.get id=some (.cells (Q8 acc) 34 8)
theorem ErB.er {b:Nat} {s:St} {V:AV} {acc:List En} (h:ErB b s V acc):Er s V acc:=by
 rcases h with h|⟨id,_,h1,h2⟩
 ·exact Or.inl h
 ·exact Or.inr ⟨id,h1,h2⟩
noncomputable def elE:TI:=(TE.info 34).getD default
theorem qo7:elE.size=4:=by kernel_rfl
theorem qjg:elE.bytes=48:=by kernel_rfl
theorem qug {s:St} {V X:AV}:zO TE s [29,29] [V,X]=(match K5 X with
 | none=>none
 | some n =>
  match zI s 4 n X with
  | none=>none
  | some new=>bif Nat.beq new.length (n * 4)&&new.all AV.one then ZZ s 34 elE V n new else none):=by kernel_rfl
theorem qte {b:Nat} {s:St} (hb:b≤s.nx) (hB:qc s) {V:AV} {acc:List En} (h:ErB b s V acc) (hl:acc.length≤20000) {e:En} {q:Nat} (hq:s.h.get q=some (.cells (Q8 [e]) 34 0)) :
  ∃ V' s',zO TE s [29,29] [V,.slice q 0 1 0 1 true]=some (V',s')∧ErB b s' V' (acc++[e])∧Fx b s s'∧qc s'∧(∀ i o,s.h.get i=some o→(match o with | .cells _ el _=>Nat.beq el 34|_=>false)=false→s'.h.get i=some o)∧V'.cells=[V']∧V'.one=true:=by
 have e0:zI s 4 1 (.slice q 0 1 0 1 true)=some (Q8 [e]):=by simp[zI,Zv hq,Q8,ZF,ZB,ZJ]
 have e1:(Q8 [e]).all AV.one=true:=rfl
 rw[qug]
 simp only[K5,e0,e1]
 show ∃ V' s',ZZ s 34 elE V 1 (Q8 [e])=some (V',s')∧_
 rcases h with⟨rfl,rfl⟩|⟨id,hbi,rfl,hg⟩
 ·refine⟨.slice s.nx 0 1 0 1 false,s.alloc (.cells (Q8 [e]) 34 8),?_,Or.inr ⟨s.nx,hb,rfl,qu⟩,Fx.of hb hB (Ext.alloc s _),?_,fun i o hi _=>(zg (by have:=hB _ _ hi;omega)).trans hi,rfl,rfl⟩
  ·simp only[nilS,ZZ,qo7,qjg]
   rfl
  ·intro i x hx
   show i < s.nx+1
   by_cases e:i=s.nx
   ·omega
   ·have:=hB _ _ ((zg e).symm.trans hx)
    omega
 ·have b1:Nat.ble (acc.length+1) acc.length=false:=by rw[← Bool.not_eq_true,Nat.ble_eq];omega
  have b2:Nat.ble ((acc.length+1) * 48) 134217728=true:=Nat.ble_eq.mpr (by omega)
  have b3:Nat.ble (acc.length+1) 1048576=true:=Nat.ble_eq.mpr (by omega)
  have b4:ZF 0 (acc.length * 4) (Q8 acc)=some (Q8 acc):=by rw[← qfc];exact ZC (Nat.le_refl _) |>.trans (by rw[List.take_length])
  have hid:=hB _ _ hg
  refine⟨.slice s.nx 0 (acc.length+1) 0 (acc.length+1) false,{ h:=(s.h.del id).set s.nx (.cells (Q8 acc++Q8 [e]) 34 8),nx:=s.nx+1 },?_,Or.inr ⟨s.nx,hb,by simp,?_⟩,?_,?_,?_,rfl,rfl⟩
  ·simp only[ZZ,Zv hg,b1,cond_false,qo7,qjg,b2,b3,b4,Bool.and_self,cond_true,Nat.zero_mul]
   rfl
  ·rw[qdl]
   exact hs_same
  ·refine⟨Nat.le_succ _,fun i o hi ho=>?_,fun i hi=>?_⟩
   ·have hi':=hB _ _ hi
    have n1:i≠id:=by
     intro e
     subst e
     rw[hg] at hi
     cases hi
     cases ho
    show ((s.h.del id).set s.nx _).get i=_
    rw[qe (by omega),Tr.get_del,if_neg n1]
    exact hi
   ·show ((s.h.del id).set s.nx _).get i=_
    rw[qe (by omega),Tr.get_del,if_neg (by omega)]
  ·intro i x hx
   show i < s.nx+1
   by_cases e:i=s.nx
   ·omega
   ·have hx':((s.h.del id).set s.nx (.cells (Q8 acc++Q8 [_]) 34 8)).get i=some x:=hx
    rw[qe e,Tr.get_del] at hx'
    by_cases e2:i=id
    ·rw[if_pos e2] at hx'
     cases hx'
    ·rw[if_neg e2] at hx'
     have:=hB _ _ hx'
     omega
  ·intro i o hi ho
   have hi':=hB _ _ hi
   have n1:i≠id:=by
    intro e
    subst e
    rw[hg] at hi
    cases hi
    cases ho
   show ((s.h.del id).set s.nx _).get i=_
   rw[qe (by omega),Tr.get_del,if_neg n1]
   exact hi
theorem q6p {p d:List Nat} {k m:Int}:Qb TE 34 [(0,.str p),(1,.raw (.int .i64 k)),(2,.raw (.int .i64 m)),(3,.str d)]=some (.agg [.str p,.raw (.int .i64 k),.raw (.int .i64 m),.str d]):=by kernel_rfl
theorem qze {s:St} {p d:List Nat} {k m:Int}:zq TE s 29 1 [(0,.agg [.str p,.raw (.int .i64 k),.raw (.int .i64 m),.str d])]=some (.slice s.nx 0 1 0 1 true,s.alloc (.cells [.str p,.raw (.int .i64 k),.raw (.int .i64 m),.str d] 34 0)):=by kernel_rfl
def qp6 (T:QH) (below:Nat→List Nat→Option (List En)) (kids:List (List Nat × Nat)) (p:List Nat):List (List Nat)→Option (List En)
 | []=>some []
 | nm::l=>match qM nm kids with
  | none=>none
  | some j=>bif Nat.ble (p.length+nm.length) 1000000 then (match T j with
   | none=>none
   | some nd=>match below j (YP p nm) with
    | none=>none
    | some es=>match qp6 T below kids p l with
     | none=>none
     | some r=>some (ql5 (YP p nm) nd::(es++r)))
   else none
def qh0 (T:QH):Nat→Nat→List Nat→Option (List En)
 | 0,_,_=>none
 | f+1,i,p=>match T i with
  | none=>none
  | some nd=>match qlb nd.kids with
   | none=>none
   | some names=>qp6 T (qh0 T f) nd.kids p names
theorem World.fx {b:Nat} {s s':St} {x:Nat} {M:Md} {L:List (Nat × AO)} (h:World s x M L) (hL:∀ q∈L,okO q.2=true) (f:Fx b s s') (hB':qc s'):World s' x M L:=by
 obtain⟨hB,ι,μ,R,hq⟩:=h
 refine⟨hB',ι,μ,⟨fun k nd hk=>⟨f.2.1 _ _ (R.nd k nd hk).1 rfl,f.2.1 _ _ (R.nd k nd hk).2 rfl⟩,f.2.1 _ _ R.tr rfl,R.ij,R.mj,R.kd,R.up,R.rt,R.cw,R.f8,R.fd,R.mn,R.da⟩,fun q hm=>⟨f.2.1 _ _ (hq q hm).1 (hL q hm),(hq q hm).2⟩⟩
theorem qq7 {b:List Nat} {i c:Nat} (h:b[i]?=some c):Xg TE 9 (.str b) (.raw (.int .i64 (i:Int)))=some (.raw (.int .u8 (c:Int))):=by
 have e:Xg TE 9 (.str b) (.raw (.int .i64 (i:Int)))=(match b[i]? with|some c=>some (.raw (.int .u8 (.ofNat c)))|none=>none):=by kernel_rfl
 rw[e,h]
 rfl
def Q9 (b:List Nat) (c:Nat):Nat→Int
 | 0=>-1
 | n+1=>bif (match b[n]? with|some x=>Nat.beq x c|none=>false) then (n:Int) else Q9 b c n
theorem q3z {s:St} (H:Ok TE Tryz.prog pr3) {b:List Nat} {c:Nat} (hb:b.length≤1000000) {kr kp:AV→St→Bool} (hk:kr (.raw (.int .i64 (Q9 b c b.length))) s=true) :
  (sem Tryz.prog).call 129 [.str b,.raw (.int .u8 (c:Int))] s kr kp=true:=by
 refine qp H 19 q3k rfl rfl ?_
 have e0:IntKind.i64.wrap ((b.length:Int) - 1)=(b.length:Int) - 1:=Go.IntWalk.i64_in _ (by omega)
 repeat (first|with_reducible (refine q9 H ?_;constructor)|simp only[rB,rP,rQ,q8,qa,q7,qb,reduceIte,reduceCtorEq,Nat.reduceAdd,Nat.reduceLT,Nat.reduceEqDiff,UInt8.reduceToNat,pe3,pf3,ql,zf,e0])
 refine qB H (fun n t s'=>n≤b.length∧s'=s∧tg t 0=.str b∧tg t 1=.raw (.int .u8 (c:Int))∧tg t 5=.raw (.int .i64 ((n:Int) - 1))∧Q9 b c b.length=Q9 b c n) (n:=b.length)
  ⟨Nat.le_refl _,rfl,by simp only[rB,rP,rQ,q8,qa,q7,qb,reduceIte,reduceCtorEq,Nat.reduceAdd,Nat.reduceLT,Nat.reduceEqDiff,UInt8.reduceToNat],by simp only[rB,rP,rQ,q8,qa,q7,qb,reduceIte,reduceCtorEq,Nat.reduceAdd,Nat.reduceLT,Nat.reduceEqDiff,UInt8.reduceToNat],by simp only[rB,rP,rQ,q8,qa,q7,qb,reduceIte,reduceCtorEq,Nat.reduceAdd,Nat.reduceLT,Nat.reduceEqDiff,UInt8.reduceToNat],rfl⟩ ?_
 rintro n t s' ih ⟨hn,rfl,t0,t1,t5,hl⟩
 cases n with
 | zero =>
  have g0:decide (((0:Nat):Int) - 1 ≥ 0)=false:=rfl
  rw[hl] at hk
  repeat (first|with_reducible (refine q9 H ?_;constructor)|simp only[rB,rP,rQ,q8,qa,q7,qb,reduceIte,reduceCtorEq,Nat.reduceAdd,Nat.reduceLT,Nat.reduceEqDiff,UInt8.reduceToNat,pe3,pf3,t0,t1,t5,Y3,g0,Tryz.results129])
  exact hk
 | succ n =>
  have e1:((n+1:Nat):Int) - 1=(n:Int):=by omega
  rw[e1] at t5
  have g0:decide ((n:Int) ≥ 0)=true:=by rw[decide_eq_true_eq];omega
  have hx:b[n]?=some b[n]:=List.getElem?_eq_getElem (by omega)
  generalize b[n]=x at hx
  have ix:=qq7 hx
  simp only[Q9,hx] at hl
  cases hc:Nat.beq x c with
  | true =>
   have hxc:=Nat.eq_of_beq_eq_true hc
   subst hxc
   rw[hc,cond_true] at hl
   rw[hl] at hk
   repeat (first|with_reducible (refine q9 H ?_;constructor)|simp only[rB,rP,rQ,q8,qa,q7,qb,reduceIte,reduceCtorEq,Nat.reduceAdd,Nat.reduceLT,Nat.reduceEqDiff,UInt8.reduceToNat,pe3,pf3,t0,t1,t5,Y3,g0,ix,qr,beq_self_eq_true,Tryz.results129])
   exact hk
  | false =>
   rw[hc,cond_false] at hl
   have g1:((x:Int)==(c:Int))=false:=by
    rw[beq_eq_false_iff_ne]
    intro e
    have:x=c:=by omega
    rw[this,Nat.beq_refl] at hc
    cases hc
   have e2:IntKind.i64.wrap ((n:Int) - 1)=(n:Int) - 1:=Go.IntWalk.i64_in _ (by omega)
   repeat (first|with_reducible (refine q9 H ?_;constructor)|simp only[rB,rP,rQ,q8,qa,q7,qb,reduceIte,reduceCtorEq,Nat.reduceAdd,Nat.reduceLT,Nat.reduceEqDiff,UInt8.reduceToNat,pe3,pf3,t0,t1,t5,Y3,g0,ix,qr,g1,zf,e2])
   exact ih n _ _ (Nat.lt_succ_self n) ⟨by omega,rfl,by simp only[rB,rP,rQ,q8,qa,q7,qb,reduceIte,reduceCtorEq,Nat.reduceAdd,Nat.reduceLT,Nat.reduceEqDiff,UInt8.reduceToNat,t0],by simp only[rB,rP,rQ,q8,qa,q7,qb,reduceIte,reduceCtorEq,Nat.reduceAdd,Nat.reduceLT,Nat.reduceEqDiff,UInt8.reduceToNat,t1],by simp only[rB,rP,rQ,q8,qa,q7,qb,reduceIte,reduceCtorEq,Nat.reduceAdd,Nat.reduceLT,Nat.reduceEqDiff,UInt8.reduceToNat],hl⟩
theorem qhz {s:St} (H:Ok TE Tryz.prog pr3) {b:List Nat} {c:Nat} (hb:b.length≤1000000) {kr kp:AV→St→Bool} (hk:kr (.raw (.int .i64 (Q9 b c b.length))) s=true) :
  (sem Tryz.prog).call 92 [.str b,.raw (.int .u8 (c:Int))] s kr kp=true:=by
 refine qp H 8 q8q rfl rfl ?_
 repeat (first|with_reducible (refine q9 H ?_;constructor)|simp only[rB,rP,rQ,q8,qa,q7,qb,reduceIte,reduceCtorEq,Nat.reduceAdd,Nat.reduceLT,Nat.reduceEqDiff,UInt8.reduceToNat,pe3,pf3])
 refine q3z H hb ?_
 repeat (first|with_reducible (refine q9 H ?_;constructor)|simp only[rB,rP,rQ,q8,qa,q7,qb,reduceIte,reduceCtorEq,Nat.reduceAdd,Nat.reduceLT,Nat.reduceEqDiff,UInt8.reduceToNat,pe3,pf3,Tryz.results92])
 exact hk
def qpq (a b:List Nat):Int:=bif ltB a b then -1 else bif !(ltB a b||eqB a b) then 1 else 0
theorem qvc {a b:List Nat}:qE .lss (.str a) (.str b)=some (q8 (ltB a b)):=(rfl)
theorem q30 {a b:List Nat}:qE .gtr (.str a) (.str b)=some (q8 (!(ltB a b||eqB a b))):=(rfl)
theorem q1z {s:St} (H:Ok TE Tryz.prog pr3) {a:List Nat} {kr kp:AV→St→Bool} (hk:kr (.raw (.bool false)) s=true):(sem Tryz.prog).call 180 [.str a] s kr kp=true:=by
 refine qp H 6 q3g rfl rfl ?_
 have e:qE .neq (.str a) (.str a)=some (.raw (.bool false)):=by
  show some (q8 (!eqB a a))=_
  rw[qS]
  rfl
 repeat (first|with_reducible (refine q9 H ?_;constructor)|simp only[rB,rP,rQ,q8,qa,q7,qb,reduceIte,reduceCtorEq,Nat.reduceAdd,Nat.reduceLT,Nat.reduceEqDiff,UInt8.reduceToNat,pe3,pf3,e,Tryz.results180])
 exact hk
theorem q4j {s:St} (H:Ok TE Tryz.prog pr3) {a b:List Nat} {kr kp:AV→St→Bool} (hk:kr (.raw (.int .i64 (qpq a b))) s=true):(sem Tryz.prog).call 164 [.str a,.str b] s kr kp=true:=by
 refine qp H 20 q28 rfl rfl ?_
 unfold qpq at hk
 repeat (first|with_reducible (refine q9 H ?_;constructor)|simp only[rB,rP,rQ,q8,qa,q7,qb,reduceIte,reduceCtorEq,Nat.reduceAdd,Nat.reduceLT,Nat.reduceEqDiff,UInt8.reduceToNat,pe3,pf3])
 refine q1z H ?_
 repeat (first|with_reducible (refine q9 H ?_;constructor)|simp only[rB,rP,rQ,q8,qa,q7,qb,reduceIte,reduceCtorEq,Nat.reduceAdd,Nat.reduceLT,Nat.reduceEqDiff,UInt8.reduceToNat,pe3,pf3])
 refine q1z H ?_
 cases h1:ltB a b with
 | true =>
  rw[h1] at hk
  repeat (first|with_reducible (refine q9 H ?_;constructor)|simp only[rB,rP,rQ,q8,qa,q7,qb,reduceIte,reduceCtorEq,Nat.reduceAdd,Nat.reduceLT,Nat.reduceEqDiff,UInt8.reduceToNat,pe3,pf3,qvc,h1,Tryz.results164])
  exact hk
 | false =>
  rw[h1] at hk
  cases h2:eqB a b with
  | true =>
   rw[h2] at hk
   repeat (first|with_reducible (refine q9 H ?_;constructor)|simp only[rB,rP,rQ,q8,qa,q7,qb,reduceIte,reduceCtorEq,Nat.reduceAdd,Nat.reduceLT,Nat.reduceEqDiff,UInt8.reduceToNat,pe3,pf3,qvc,q30,h1,h2,Bool.or_true,Bool.false_or,Bool.not_true,Tryz.results164])
   exact hk
  | false =>
   rw[h2] at hk
   repeat (first|with_reducible (refine q9 H ?_;constructor)|simp only[rB,rP,rQ,q8,qa,q7,qb,reduceIte,reduceCtorEq,Nat.reduceAdd,Nat.reduceLT,Nat.reduceEqDiff,UInt8.reduceToNat,pe3,pf3,qvc,q30,h1,h2,Bool.or_false,Bool.false_or,Bool.not_false,Tryz.results164])
   exact hk
def qpp:List (List Nat)→List (List Nat)→Int
 | [],[]=>0
 | [],_::_=>-1
 | _::_,[]=>1
 | a::x,b::y=>bif qpq a b==0 then qpp x y else qpq a b
theorem q33 {s:St} (H:Ok TE Tryz.prog pr3) {V1 V2:AV} {l1 l2:List (List Nat)} (h1:SlV s V1 l1) (h2:SlV s V2 l2) (n1:l1.length≤1000000) (n2:l2.length≤1000000) {kr kp:AV→St→Bool} (hk:kr (.raw (.int .i64 (qpp l1 l2))) s=true) :
  (sem Tryz.prog).call 140 [V1,V2] s kr kp=true:=by
 refine qp H 36 q2y rfl rfl ?_
 have v1:=h1.len
 have v2:=h2.len
 have d1:=h1.ids
 have d2:=h2.ids
 repeat (first|with_reducible (refine q9 H ?_;constructor)|simp only[rB,rP,rQ,q8,qa,q7,qb,reduceIte,reduceCtorEq,Nat.reduceAdd,Nat.reduceLT,Nat.reduceEqDiff,UInt8.reduceToNat,pe3,pf3,v1,v2,d1,d2])
 refine qB H (fun n t s'=>∃ (k:Nat),n+k=l1.length∧k≤l2.length∧s'=s∧tg t 0=V1∧tg t 1=V2∧tg t 9=V1∧tg t 10=.raw (.int .i64 (l1.length:Int))∧tg t 11=.raw (.int .i64 (k:Int))∧qpp l1 l2=qpp (l1.drop k) (l2.drop k)) (n:=l1.length)
  ⟨0,rfl,Nat.zero_le _,rfl,by simp only[rB,rP,rQ,q8,qa,q7,qb,reduceIte,reduceCtorEq,Nat.reduceAdd,Nat.reduceLT,Nat.reduceEqDiff,UInt8.reduceToNat],by simp only[rB,rP,rQ,q8,qa,q7,qb,reduceIte,reduceCtorEq,Nat.reduceAdd,Nat.reduceLT,Nat.reduceEqDiff,UInt8.reduceToNat],by simp only[rB,rP,rQ,q8,qa,q7,qb,reduceIte,reduceCtorEq,Nat.reduceAdd,Nat.reduceLT,Nat.reduceEqDiff,UInt8.reduceToNat],by simp only[rB,rP,rQ,q8,qa,q7,qb,reduceIte,reduceCtorEq,Nat.reduceAdd,Nat.reduceLT,Nat.reduceEqDiff,UInt8.reduceToNat],by simp only[rB,rP,rQ,q8,qa,q7,qb,reduceIte,reduceCtorEq,Nat.reduceAdd,Nat.reduceLT,Nat.reduceEqDiff,UInt8.reduceToNat];rfl,rfl⟩ ?_
 rintro n t s' ih ⟨k,hn,hk2,rfl,t0,t1,t9,t10,t11,hc⟩
 cases n with
 | zero =>
  have g0:decide ((k:Int) < (l1.length:Int))=false:=by rw[decide_eq_false_iff_not];omega
  rw[List.drop_eq_nil_of_le (by omega:l1.length≤k)] at hc
  rw[hc] at hk
  by_cases hl:l1.length < l2.length
  ·have g1:decide ((l1.length:Int) < (l2.length:Int))=true:=by rw[decide_eq_true_eq];omega
   rw[List.drop_eq_getElem_cons (by omega:k < l2.length)] at hk
   repeat (first|with_reducible (refine q9 H ?_;constructor)|simp only[rB,rP,rQ,q8,qa,q7,qb,reduceIte,reduceCtorEq,Nat.reduceAdd,Nat.reduceLT,Nat.reduceEqDiff,UInt8.reduceToNat,pe3,pf3,t0,t1,t9,t10,t11,zJ,g0,g1,v1,v2,d1,d2,Tryz.results140])
   exact hk
  ·have g1:decide ((l1.length:Int) < (l2.length:Int))=false:=by rw[decide_eq_false_iff_not];omega
   rw[List.drop_eq_nil_of_le (by omega:l2.length≤k)] at hk
   repeat (first|with_reducible (refine q9 H ?_;constructor)|simp only[rB,rP,rQ,q8,qa,q7,qb,reduceIte,reduceCtorEq,Nat.reduceAdd,Nat.reduceLT,Nat.reduceEqDiff,UInt8.reduceToNat,pe3,pf3,t0,t1,t9,t10,t11,zJ,g0,g1,v1,v2,d1,d2,Tryz.results140])
   exact hk
 | succ n =>
  have hlt:k < l1.length:=by omega
  have g0:decide ((k:Int) < (l1.length:Int))=true:=by rw[decide_eq_true_eq];omega
  rw[List.drop_eq_getElem_cons hlt] at hc
  obtain⟨id,o,x1,x2,ob,x3⟩:=h1.idx (p:=l1[k]) (j:=k) (List.getElem?_eq_getElem hlt)
  have x2':ldO (s'.h.get id) o=some (.str l1[k]):=by rw[← qdt];exact x2
  have x4:∀ b,inO (s'.h.get id) b=b:=fun b=>by rw[x3];rfl
  generalize l1[k]=a at *
  by_cases hl2:k < l2.length
  ·have g1:decide ((k:Int) ≥ (l2.length:Int))=false:=by rw[decide_eq_false_iff_not];omega
   rw[List.drop_eq_getElem_cons hl2] at hc
   obtain⟨id',o',y1,y2,ob',y3⟩:=h2.idx (p:=l2[k]) (j:=k) (List.getElem?_eq_getElem hl2)
   have y2':ldO (s'.h.get id') o'=some (.str l2[k]):=by rw[← qdt];exact y2
   have y4:∀ b,inO (s'.h.get id') b=b:=fun b=>by rw[y3];rfl
   generalize l2[k]=b at *
   simp only[qpp] at hc
   repeat (first|with_reducible (refine q9 H ?_;constructor)|simp only[rB,rP,rQ,q8,qa,q7,qb,reduceIte,reduceCtorEq,Nat.reduceAdd,Nat.reduceLT,Nat.reduceEqDiff,UInt8.reduceToNat,pe3,pf3,t0,t1,t9,t10,t11,zJ,Y3,g0,g1,v1,v2,d1,d2,x1,x2',x4,y1,y2',y4,qD])
   refine q4j H ?_
   cases hz:qpq a b==0 with
   | true =>
    rw[hz,cond_true] at hc
    have g2:(qpq a b != 0)=false:=by simp[bne,hz]
    have ew:IntKind.i64.wrap ((k:Int)+1)=((k+1:Nat):Int):=by
     rw[show (k:Int)+1=((k+1:Nat):Int) from by simp]
     exact qU (by omega)
    repeat (first|with_reducible (refine q9 H ?_;constructor)|simp only[rB,rP,rQ,q8,qa,q7,qb,reduceIte,reduceCtorEq,Nat.reduceAdd,Nat.reduceLT,Nat.reduceEqDiff,UInt8.reduceToNat,pe3,pf3,t0,t1,t9,t10,t11,qH,g2,qI,ew])
    exact ih n _ _ (Nat.lt_succ_self n) ⟨k+1,by omega,hl2,rfl,by simp only[rB,rP,rQ,q8,qa,q7,qb,reduceIte,reduceCtorEq,Nat.reduceAdd,Nat.reduceLT,Nat.reduceEqDiff,UInt8.reduceToNat,t0],by simp only[rB,rP,rQ,q8,qa,q7,qb,reduceIte,reduceCtorEq,Nat.reduceAdd,Nat.reduceLT,Nat.reduceEqDiff,UInt8.reduceToNat,t1],by simp only[rB,rP,rQ,q8,qa,q7,qb,reduceIte,reduceCtorEq,Nat.reduceAdd,Nat.reduceLT,Nat.reduceEqDiff,UInt8.reduceToNat,t9],by simp only[rB,rP,rQ,q8,qa,q7,qb,reduceIte,reduceCtorEq,Nat.reduceAdd,Nat.reduceLT,Nat.reduceEqDiff,UInt8.reduceToNat,t10],by simp only[rB,rP,rQ,q8,qa,q7,qb,reduceIte,reduceCtorEq,Nat.reduceAdd,Nat.reduceLT,Nat.reduceEqDiff,UInt8.reduceToNat],hc⟩
   | false =>
    rw[hz,cond_false] at hc
    have g2:(qpq a b != 0)=true:=by simp[bne,hz]
    rw[hc] at hk
    repeat (first|with_reducible (refine q9 H ?_;constructor)|simp only[rB,rP,rQ,q8,qa,q7,qb,reduceIte,reduceCtorEq,Nat.reduceAdd,Nat.reduceLT,Nat.reduceEqDiff,UInt8.reduceToNat,pe3,pf3,t0,t1,t9,t10,t11,qH,g2,Tryz.results140])
    exact hk
  ·have g1:decide ((k:Int) ≥ (l2.length:Int))=true:=by rw[decide_eq_true_eq];omega
   rw[List.drop_eq_nil_of_le (by omega:l2.length≤k)] at hc
   rw[hc] at hk
   repeat (first|with_reducible (refine q9 H ?_;constructor)|simp only[rB,rP,rQ,q8,qa,q7,qb,reduceIte,reduceCtorEq,Nat.reduceAdd,Nat.reduceLT,Nat.reduceEqDiff,UInt8.reduceToNat,pe3,pf3,t0,t1,t9,t10,t11,zJ,Y3,g0,g1,v1,v2,d1,d2,x1,x2',x4,qD,Tryz.results140])
   exact hk
def YF (a b:List Nat):Int:=qpp (qq a) (qq b)
theorem KQ {s:St} (H:Ok TE Tryz.prog pr3) (hB:qc s) {a b:List Nat} (ha:a.length≤1000) (hb:b.length≤1000) (na:(qq a).length≤1000000) (nb:(qq b).length≤1000000) {kr kp:AV→St→Bool} (hk:∀ s',Ext s s'→qc s'→kr (.raw (.int .i64 (YF a b))) s'=true) :
  (sem Tryz.prog).call 121 [.str a,.str b] s kr kp=true:=by
 refine qp H 10 q2v rfl rfl ?_
 have pa:=fun {r a' dst k kp}=>qbh (r:=r) (a:=a') (dst:=dst) (s:=s) (k:=k) (kp:=kp) ha
 have h1:=SlV.mk (s:=s) (names:=qq a)
 have e1:=Ju (s:=s) (names:=qq a)
 have b1:=Zi (names:=qq a) hB
 generalize (JA 9 (qq a) s).1=V1 at *
 generalize (JA 9 (qq a) s).2=s1 at *
 have pb:=fun {r a' dst k kp}=>qbh (r:=r) (a:=a') (dst:=dst) (s:=s1) (k:=k) (kp:=kp) hb
 have h2:=SlV.mk (s:=s1) (names:=qq b)
 have e2:=Ju (s:=s1) (names:=qq b)
 have b2:=Zi (names:=qq b) b1
 generalize (JA 9 (qq b) s1).1=V2 at *
 generalize (JA 9 (qq b) s1).2=s2 at *
 repeat (first|with_reducible (refine q9 H ?_;constructor)|simp only[rB,rP,rQ,q8,qa,q7,qb,reduceIte,reduceCtorEq,Nat.reduceAdd,Nat.reduceLT,Nat.reduceEqDiff,UInt8.reduceToNat,pe3,pf3,pa,pb])
 refine q33 H (h1.ext b1 e2) h2 na nb ?_
 repeat (first|with_reducible (refine q9 H ?_;constructor)|simp only[rB,rP,rQ,q8,qa,q7,qb,reduceIte,reduceCtorEq,Nat.reduceAdd,Nat.reduceLT,Nat.reduceEqDiff,UInt8.reduceToNat,pe3,pf3,Tryz.results121])
 exact hk s2 (e1.trans e2) b2
theorem qp1 {s:St} (H:Ok TE Tryz.prog pr3) (hB:qc s) {a b:List Nat} (ha:a.length≤1000) (hb:b.length≤1000) (na:(qq a).length≤1000000) (nb:(qq b).length≤1000000) {kr kp:AV→St→Bool} (hk:∀ s',Ext s s'→qc s'→kr (.raw (.bool (decide (YF a b < 0)))) s'=true) :
  (sem Tryz.prog).call 91 [.str a,.str b] s kr kp=true:=by
 refine qp H 9 q8k rfl rfl ?_
 repeat (first|with_reducible (refine q9 H ?_;constructor)|simp only[rB,rP,rQ,q8,qa,q7,qb,reduceIte,reduceCtorEq,Nat.reduceAdd,Nat.reduceLT,Nat.reduceEqDiff,UInt8.reduceToNat,pe3,pf3])
 refine KQ H hB ha hb na nb (fun s' hE hB'=>?_)
 repeat (first|with_reducible (refine q9 H ?_;constructor)|simp only[rB,rP,rQ,q8,qa,q7,qb,reduceIte,reduceCtorEq,Nat.reduceAdd,Nat.reduceLT,Nat.reduceEqDiff,UInt8.reduceToNat,pe3,pf3,zJ,Tryz.results91])
 exact hk s' hE hB'
def hpB (p q:List Nat):Bool:=bif decide ((p.length:Int) ≥ (q.length:Int)) then eqB (p.take q.length) q else false
theorem q85 {s:St} (H:Ok TE Tryz.prog pr3) {p q:List Nat} {kr kp:AV→St→Bool} (hk:kr (.raw (.bool (hpB p q))) s=true):(sem Tryz.prog).call 150 [.str p,.str q] s kr kp=true:=by
 refine qp H 18 q12 rfl rfl ?_
 unfold hpB at hk
 cases hd:decide ((p.length:Int) ≥ (q.length:Int)) with
 | false =>
  rw[hd] at hk
  repeat (first|with_reducible (refine q9 H ?_;constructor)|simp only[rB,rP,rQ,q8,qa,q7,qb,reduceIte,reduceCtorEq,Nat.reduceAdd,Nat.reduceLT,Nat.reduceEqDiff,UInt8.reduceToNat,pe3,pf3,ql,Y3,hd,Tryz.results150])
  exact hk
 | true =>
  rw[hd] at hk
  have hle:q.length≤p.length:=by have:=of_decide_eq_true hd;omega
  have sl:qF TE 9 (.str p) none (some (.raw (.int .i64 (q.length:Int)))) none=some (.str (p.take q.length)):=by
   rw[Ym,Xz zC hle]
   simp
  repeat (first|with_reducible (refine q9 H ?_;constructor)|simp only[rB,rP,rQ,q8,qa,q7,qb,reduceIte,reduceCtorEq,Nat.reduceAdd,Nat.reduceLT,Nat.reduceEqDiff,UInt8.reduceToNat,pe3,pf3,ql,Y3,zz,hd,sl,Tryz.results150])
  exact hk
def qg8 (p q:List Nat):List Nat:=bif hpB p q then p.drop q.length else p
theorem WP {s:St} (H:Ok TE Tryz.prog pr3) {p q:List Nat} {kr kp:AV→St→Bool} (hk:kr (.str (qg8 p q)) s=true):(sem Tryz.prog).call 94 [.str p,.str q] s kr kp=true:=by
 refine qp H 8 q7i rfl rfl ?_
 repeat (first|with_reducible (refine q9 H ?_;constructor)|simp only[rB,rP,rQ,q8,qa,q7,qb,reduceIte,reduceCtorEq,Nat.reduceAdd,Nat.reduceLT,Nat.reduceEqDiff,UInt8.reduceToNat,pe3,pf3])
 refine qp H 13 q00 rfl rfl ?_
 repeat (first|with_reducible (refine q9 H ?_;constructor)|simp only[rB,rP,rQ,q8,qa,q7,qb,reduceIte,reduceCtorEq,Nat.reduceAdd,Nat.reduceLT,Nat.reduceEqDiff,UInt8.reduceToNat,pe3,pf3])
 refine q85 H ?_
 unfold qg8 at hk
 cases hd:hpB p q with
 | false =>
  rw[hd] at hk
  repeat (first|with_reducible (refine q9 H ?_;constructor)|simp only[rB,rP,rQ,q8,qa,q7,qb,reduceIte,reduceCtorEq,Nat.reduceAdd,Nat.reduceLT,Nat.reduceEqDiff,UInt8.reduceToNat,pe3,pf3,Tryz.results130,Tryz.results94])
  exact hk
 | true =>
  rw[hd] at hk
  have hle:q.length≤p.length:=by
   unfold hpB at hd
   cases h:decide ((p.length:Int) ≥ (q.length:Int)) with
   | false=>rw[h] at hd;cases hd
   | true=>have:=of_decide_eq_true h;omega
  have sl:qF TE 9 (.str p) (some (.raw (.int .i64 (q.length:Int)))) none none=some (.str (p.drop q.length)):=by
   rw[Ym,qbd zC hle (Nat.le_refl _)]
   simp only
   rw[List.take_of_length_le (by simp)]
  repeat (first|with_reducible (refine q9 H ?_;constructor)|simp only[rB,rP,rQ,q8,qa,q7,qb,reduceIte,reduceCtorEq,Nat.reduceAdd,Nat.reduceLT,Nat.reduceEqDiff,UInt8.reduceToNat,pe3,pf3,ql,sl,Tryz.results130,Tryz.results94])
  exact hk
def agE (e:En):AV:=.agg [.str e.1,.raw (.int .i64 e.2.1),.raw (.int .i64 e.2.2.1),.str e.2.2.2]
def Zd (p:List Nat):Bool:=match Qf [] (47::p) with|(q,c)=>bif Nat.beq c 0 then bif eqB p [] then false else eqB q p else false
def ZW (e:En):Bool:=bif e.2.1==1 then (bif decide (e.2.2.1 ≥ 0) then bif decide (e.2.2.1≤511) then eqB e.2.2.2 [] else false else false)
 else bif e.2.1==2 then (bif decide (e.2.2.1 ≥ 0) then bif decide (e.2.2.1≤511) then decide ((e.2.2.2.length:Int)≤1024) else false else false)
 else bif e.2.1==3 then (bif e.2.2.1==511 then J5 e.2.2.2 else false) else false
def YW (e:En):Bool:=bif Zd e.1 then ZW e else false
theorem Z7 {a b:List Nat}:qE .neq (.str a) (.str b)=some (q8 (!eqB a b)):=(rfl)
theorem qg {x:Nat}:qk TE 34 (.ptr x 0) 0=some (.ptr x 0):=by kernel_rfl
theorem qh {x:Nat}:qk TE 34 (.ptr x 0) 1=some (.ptr x 1):=by kernel_rfl
theorem qi {x:Nat}:qk TE 34 (.ptr x 0) 2=some (.ptr x 2):=by kernel_rfl
theorem qj {x:Nat}:qk TE 34 (.ptr x 0) 3=some (.ptr x 3):=by kernel_rfl
theorem q6w {s:St} (H:Ok TE Tryz.prog pr3) (hB:qc s) {e:En} (hp:e.1.length≤1048575) {kr kp:AV→St→Bool} (hk:∀ s',Ext s s'→qc s'→kr (.raw (.bool (YW e))) s'=true) :
  (sem Tryz.prog).call 90 [agE e] s kr kp=true:=by
 refine qp H 68 q8e rfl rfl ?_
 obtain⟨p,kd,md,d⟩:=e
 simp only at hp
 have hk:=hk (s.alloc (.cells [.str p,.raw (.int .i64 kd),.raw (.int .i64 md),.str d] 34 0)) (Ext.alloc s _) (by
  intro i y hy
  show i < s.nx+1
  by_cases e:i=s.nx
  ·omega
  ·have:=hB _ _ ((zg e).symm.trans hy)
   omega)
 unfold YW Zd ZW at hk
 simp only at hk
 unfold agE
 have f1:qE .add (.str [47]) (.str p)=some (.str (47::p)):=JJ (by simp;omega)
 have ec:=fun {r a dst s k kp}=>qbj (r:=r) (a:=a) (dst:=dst) (s:=s) (k:=k) (kp:=kp) (x:=[]) (y:=47::p) (by simp) rfl rfl
 generalize Qf [] (47::p)=x at ec hk
 obtain⟨q,c⟩:=x
 simp only at hk
 by_cases hc:c=0
 ·subst hc
  have g0:(((0:Nat):Int) != 0)=false:=rfl
  cases h1:eqB p [] with
  | true =>
   rw[h1] at hk
   repeat (first|with_reducible (refine q9 H ?_;constructor)|simp only[rB,rP,rQ,q8,qa,q7,qb,reduceIte,reduceCtorEq,Nat.reduceAdd,Nat.reduceLT,Nat.reduceEqDiff,UInt8.reduceToNat,pe3,pf3,qf,qg,qh,qi,qj,qD,qK,f1,ec,VX,qH,g0,zz,h1,Tryz.results90])
   exact hk
  | false =>
   rw[h1] at hk
   cases h2:eqB q p with
   | false =>
    rw[h2] at hk
    repeat (first|with_reducible (refine q9 H ?_;constructor)|simp only[rB,rP,rQ,q8,qa,q7,qb,reduceIte,reduceCtorEq,Nat.reduceAdd,Nat.reduceLT,Nat.reduceEqDiff,UInt8.reduceToNat,pe3,pf3,qf,qg,qh,qi,qj,qD,qK,f1,ec,VX,qH,g0,zz,Z7,h1,h2,Bool.not_false,Tryz.results90])
    exact hk
   | true =>
    rw[h2] at hk
    by_cases k1:kd=1
    ·subst k1
     have e1:((1:Int)==1)=true:=rfl
     rw[e1] at hk
     cases m1:decide (md ≥ 0) with
     | false =>
      rw[m1] at hk
      repeat (first|with_reducible (refine q9 H ?_;constructor)|simp only[rB,rP,rQ,q8,qa,q7,qb,reduceIte,reduceCtorEq,Nat.reduceAdd,Nat.reduceLT,Nat.reduceEqDiff,UInt8.reduceToNat,pe3,pf3,qf,qg,qh,qi,qj,qD,qK,f1,ec,VX,qH,g0,zz,Z7,h1,h2,Bool.not_true,qr,e1,Y3,YL,m1,Tryz.results90])
      exact hk
     | true =>
      rw[m1] at hk
      cases m2:decide (md≤511) with
      | false =>
       rw[m2] at hk
       repeat (first|with_reducible (refine q9 H ?_;constructor)|simp only[rB,rP,rQ,q8,qa,q7,qb,reduceIte,reduceCtorEq,Nat.reduceAdd,Nat.reduceLT,Nat.reduceEqDiff,UInt8.reduceToNat,pe3,pf3,qf,qg,qh,qi,qj,qD,qK,f1,ec,VX,qH,g0,zz,Z7,h1,h2,Bool.not_true,qr,e1,Y3,YL,m1,m2,Tryz.results90])
       exact hk
      | true =>
       rw[m2] at hk
       repeat (first|with_reducible (refine q9 H ?_;constructor)|simp only[rB,rP,rQ,q8,qa,q7,qb,reduceIte,reduceCtorEq,Nat.reduceAdd,Nat.reduceLT,Nat.reduceEqDiff,UInt8.reduceToNat,pe3,pf3,qf,qg,qh,qi,qj,qD,qK,f1,ec,VX,qH,g0,zz,Z7,h1,h2,Bool.not_true,qr,e1,Y3,YL,m1,m2,Tryz.results90])
       exact hk
    have e1:(kd==1)=false:=by rw[beq_eq_false_iff_ne];exact k1
    rw[e1] at hk
    by_cases k2:kd=2
    ·subst k2
     have e2:((2:Int)==2)=true:=rfl
     rw[e2] at hk
     cases m1:decide (md ≥ 0) with
     | false =>
      rw[m1] at hk
      repeat (first|with_reducible (refine q9 H ?_;constructor)|simp only[rB,rP,rQ,q8,qa,q7,qb,reduceIte,reduceCtorEq,Nat.reduceAdd,Nat.reduceLT,Nat.reduceEqDiff,UInt8.reduceToNat,pe3,pf3,qf,qg,qh,qi,qj,qD,qK,f1,ec,VX,qH,g0,zz,Z7,h1,h2,Bool.not_true,qr,e1,e2,Y3,YL,m1,ql,Tryz.results90])
      exact hk
     | true =>
      rw[m1] at hk
      cases m2:decide (md≤511) with
      | false =>
       rw[m2] at hk
       repeat (first|with_reducible (refine q9 H ?_;constructor)|simp only[rB,rP,rQ,q8,qa,q7,qb,reduceIte,reduceCtorEq,Nat.reduceAdd,Nat.reduceLT,Nat.reduceEqDiff,UInt8.reduceToNat,pe3,pf3,qf,qg,qh,qi,qj,qD,qK,f1,ec,VX,qH,g0,zz,Z7,h1,h2,Bool.not_true,qr,e1,e2,Y3,YL,m1,m2,ql,Tryz.results90])
       exact hk
      | true =>
       rw[m2] at hk
       repeat (first|with_reducible (refine q9 H ?_;constructor)|simp only[rB,rP,rQ,q8,qa,q7,qb,reduceIte,reduceCtorEq,Nat.reduceAdd,Nat.reduceLT,Nat.reduceEqDiff,UInt8.reduceToNat,pe3,pf3,qf,qg,qh,qi,qj,qD,qK,f1,ec,VX,qH,g0,zz,Z7,h1,h2,Bool.not_true,qr,e1,e2,Y3,YL,m1,m2,ql,Tryz.results90])
       exact hk
    have e2:(kd==2)=false:=by rw[beq_eq_false_iff_ne];exact k2
    rw[e2] at hk
    by_cases k3:kd=3
    ·subst k3
     have e3:((3:Int)==3)=true:=rfl
     rw[e3] at hk
     cases m1:md==511 with
     | false =>
      rw[m1] at hk
      repeat (first|with_reducible (refine q9 H ?_;constructor)|simp only[rB,rP,rQ,q8,qa,q7,qb,reduceIte,reduceCtorEq,Nat.reduceAdd,Nat.reduceLT,Nat.reduceEqDiff,UInt8.reduceToNat,pe3,pf3,qf,qg,qh,qi,qj,qD,qK,f1,ec,VX,qH,g0,zz,Z7,h1,h2,Bool.not_true,qr,e1,e2,e3,m1,Tryz.results90])
      exact hk
     | true =>
      rw[m1] at hk
      repeat (first|with_reducible (refine q9 H ?_;constructor)|simp only[rB,rP,rQ,q8,qa,q7,qb,reduceIte,reduceCtorEq,Nat.reduceAdd,Nat.reduceLT,Nat.reduceEqDiff,UInt8.reduceToNat,pe3,pf3,qf,qg,qh,qi,qj,qD,qK,f1,ec,VX,qH,g0,zz,Z7,h1,h2,Bool.not_true,qr,e1,e2,e3,m1,Tryz.results90]|(with_reducible refine qrm H ?_))
      exact hk
    have e3:(kd==3)=false:=by rw[beq_eq_false_iff_ne];exact k3
    rw[e3] at hk
    repeat (first|with_reducible (refine q9 H ?_;constructor)|simp only[rB,rP,rQ,q8,qa,q7,qb,reduceIte,reduceCtorEq,Nat.reduceAdd,Nat.reduceLT,Nat.reduceEqDiff,UInt8.reduceToNat,pe3,pf3,qf,qg,qh,qi,qj,qD,qK,f1,ec,VX,qH,g0,zz,Z7,h1,h2,Bool.not_true,qr,e1,e2,e3,Tryz.results90])
    exact hk
 ·have g0:((c:Int) != 0)=true:=by simp;omega
  rw[QN hc] at hk
  repeat (first|with_reducible (refine q9 H ?_;constructor)|simp only[rB,rP,rQ,q8,qa,q7,qb,reduceIte,reduceCtorEq,Nat.reduceAdd,Nat.reduceLT,Nat.reduceEqDiff,UInt8.reduceToNat,pe3,pf3,qf,qg,qh,qi,qj,qD,qK,f1,ec,VX,qH,g0,Tryz.results90])
  exact hk
def VP (M:Md) (u:Nat) (ud:Nd) (nm:List Nat) (nw:Nd):Md:={ M with nodes:=M.nodes.set u { ud with kids:=setK nm M.nodes.length ud.kids }++[nw] }
def VQ (ι:Nat→Nat) (n N:Nat):Nat→Nat:=fun j=>if j=n then N else ι j
theorem qqo {s s':St} {x:Nat} {M:Md} {ι μ:Nat→Nat} (R:RepM s x M ι μ) (hB:qc s) {k:Nat} {ud:Nd} (hk:M.T k=some ud)
  {kind mode:Int} {data nm:List Nat} {N mp:Nat} (hd:data.length≤40000) (hN:s.nx≤N)
  (hmap:s'.h.get (μ k)=some (.map (zQ (setK nm N (zk ι ud.kids))))) (fr:∀ j,j < s.nx→j≠μ k→s'.h.get j=s.h.get j)
  (hn:qvb s' N ⟨kind,mode,data,[],some (ι k),nm,mp⟩) (hmp:s.nx≤mp) (hne:mp≠N):RepM s' x (VP M k ud nm ⟨kind,mode,data,[],some k,nm,0⟩) (VQ ι M.nodes.length N) (VQ μ M.nodes.length mp):=by
 have hkl:=Y1 hk
 have hlen:(VP M k ud nm ⟨kind,mode,data,[],some k,nm,0⟩).nodes.length=M.nodes.length+1:=by simp[VP]
 let ι':Nat→Nat:=VQ ι M.nodes.length N
 let μ':Nat→Nat:=VQ μ M.nodes.length mp
 have i1:ι' M.nodes.length=N:=if_pos rfl
 have i2:∀ j,j < M.nodes.length→ι' j=ι j:=fun j hj=>if_neg (by omega)
 have m1:μ' M.nodes.length=mp:=if_pos rfl
 have m2:∀ j,j < M.nodes.length→μ' j=μ j:=fun j hj=>if_neg (by omega)
 have htr:s'.h.get x=some (trA (ι M.root) (ι M.cwd) (qnu ι M.fds) M.many):=(fr x (R.lx hB) (fun e=>R.xm hkl e.symm)).trans R.tr
 have hT:∀ j jd,(VP M k ud nm ⟨kind,mode,data,[],some k,nm,0⟩).T j=some jd→(j=M.nodes.length∧jd=⟨kind,mode,data,[],some k,nm,0⟩)∨(j=k∧jd={ ud with kids:=setK nm M.nodes.length ud.kids })∨(j≠k∧M.T j=some jd):=by
  intro j jd h
  unfold Md.T VP at h
  simp only at h
  by_cases hj:j < M.nodes.length
  ·rw[List.getElem?_append_left (by simpa using hj),List.getElem?_set] at h
   by_cases hjk:k=j
   ·rw[if_pos hjk,if_pos hkl] at h
    cases h
    exact Or.inr (Or.inl ⟨hjk.symm,rfl⟩)
   ·rw[if_neg hjk] at h
    exact Or.inr (Or.inr ⟨fun e=>hjk e.symm,h⟩)
  ·have hj2:=(List.getElem?_eq_some_iff.mp h).1
   have hj3:j=M.nodes.length:=by simp at hj2;omega
   subst hj3
   rw[List.getElem?_append_right (by simp)] at h
   simp at h
   exact Or.inl ⟨rfl,h.symm⟩
 show RepM s' x _ ι' μ'
 refine⟨?_,?_,?_,?_,?_,?_,?_,?_,R.f8,?_,?_,?_⟩
 ·intro j jd h
  rcases hT j jd h with⟨rfl,rfl⟩|⟨rfl,rfl⟩|⟨hjk,hj⟩
  ·rw[i1,m1]
   have e:Nd.to ι' mp ⟨kind,mode,data,[],some k,nm,0⟩=⟨kind,mode,data,[],some (ι k),nm,mp⟩:=by
    unfold Nd.to
    simp only[zk,List.map_nil,Option.map_some,i2 k hkl]
   rw[e]
   exact hn
  ·rw[i2 j hkl,m2 j hkl]
   have old:=R.nd j ud hk
   have e1:zk ι' ud.kids=zk ι ud.kids:=Jf fun q hq=>i2 _ (R.kd j ud hk q hq)
   have e2:ud.up.map ι'=ud.up.map ι:=by
    cases hu:ud.up with
    | none=>rfl
    | some u=>simp only[Option.map_some,i2 u (R.up j ud u hk hu)]
   refine⟨?_,?_⟩
   ·have:s'.h.get (ι j)=some (ndA (ud.to ι (μ j))):=(fr _ (R.li hB hkl) (R.im hkl hkl)).trans old.1
    rw[this]
    unfold ndA Nd.to
    simp only[e2]
   ·rw[qz5,qby,hmap]
    simp only
    rw[← qhn,i1,e1]
  ·have hjl:=Y1 hj
   rw[i2 j hjl,m2 j hjl,qqn (fun q hq=>i2 _ (R.kd j jd hj q hq)) (fun u hu=>i2 _ (R.up j jd u hj hu))]
   have old:=R.nd j jd hj
   exact⟨(fr _ (R.li hB hjl) (R.im hjl hkl)).trans old.1,(fr _ (R.lm hB hjl) (fun e=>hjk (R.mj _ _ hjl hkl e))).trans old.2⟩
 ·have e:qnu ι' M.fds=qnu ι M.fds:=by
   unfold qnu
   refine List.map_congr_left fun o ho=>?_
   cases o with
   | none=>rfl
   | some u=>simp only[Option.map_some,i2 u (R.fd _ ho u rfl)]
  show s'.h.get x=some (trA (ι' M.root) (ι' M.cwd) (qnu ι' M.fds) M.many)
  rw[i2 _ R.rt,i2 _ R.cw,e]
  exact htr
 ·intro a b ha hb e
  rw[hlen] at ha hb
  by_cases h1:a=M.nodes.length
  ·by_cases h2:b=M.nodes.length
   ·rw[h1,h2]
   ·have hb':b < M.nodes.length:=by omega
    rw[h1,i1,i2 b hb'] at e
    have:=R.li hB hb'
    omega
  ·have ha':a < M.nodes.length:=by omega
   by_cases h2:b=M.nodes.length
   ·rw[h2,i1,i2 a ha'] at e
    have:=R.li hB ha'
    omega
   ·have hb':b < M.nodes.length:=by omega
    rw[i2 a ha',i2 b hb'] at e
    exact R.ij _ _ ha' hb' e
 ·intro a b ha hb e
  rw[hlen] at ha hb
  by_cases h1:a=M.nodes.length
  ·by_cases h2:b=M.nodes.length
   ·rw[h1,h2]
   ·have hb':b < M.nodes.length:=by omega
    rw[h1,m1,m2 b hb'] at e
    have:=R.lm hB hb'
    omega
  ·have ha':a < M.nodes.length:=by omega
   by_cases h2:b=M.nodes.length
   ·rw[h2,m1,m2 a ha'] at e
    have:=R.lm hB ha'
    omega
   ·have hb':b < M.nodes.length:=by omega
    rw[m2 a ha',m2 b hb'] at e
    exact R.mj _ _ ha' hb' e
 ·intro j jd h q hq
  rw[hlen]
  rcases hT j jd h with⟨rfl,rfl⟩|⟨rfl,rfl⟩|⟨hjk,hj⟩
  ·cases hq
  ·rcases qcs hq with e|e
   ·omega
   ·have:=R.kd j ud hk q e
    omega
  ·have:=R.kd j jd hj q hq
   omega
 ·intro j jd u h hu
  rw[hlen]
  rcases hT j jd h with⟨rfl,rfl⟩|⟨rfl,rfl⟩|⟨hjk,hj⟩
  ·cases hu
   omega
  ·have:=R.up j ud u hk hu
   omega
  ·have:=R.up j jd u hj hu
   omega
 ·rw[hlen];have:=R.rt;show M.root < _;omega
 ·rw[hlen];have:=R.cw;show M.cwd < _;omega
 ·intro o ho u hu
  rw[hlen]
  have:=R.fd o ho u hu
  omega
 ·exact R.mn
 ·intro j jd h
  rcases hT j jd h with⟨rfl,rfl⟩|⟨rfl,rfl⟩|⟨hjk,hj⟩
  ·exact hd
  ·exact R.da j ud hk
  ·exact R.da j jd hj
def MZ:Md:=⟨[⟨1,493,[],[],none,[],0⟩],0,0,[none,none,none,none,none,none,none,none],0⟩
theorem qsj {m:Nat}:Qb TE 117 [(0,.raw (.int .i64 1)),(1,.raw (.int .i64 493)),(3,.map m)]=some (.agg [.raw (.int .i64 1),.raw (.int .i64 493),.str [],.map m,.raw (.pointer none),.str []]):=by kernel_rfl
theorem qqm {r:Nat}:Qb TE 120 [(0,.ptr r 0),(1,.ptr r 0)]=some (.agg [.ptr r 0,.ptr r 0,.raw (.pointer none),.raw (.pointer none),.raw (.pointer none),.raw (.pointer none),.raw (.pointer none),.raw (.pointer none),.raw (.pointer none),.raw (.pointer none),.raw (.int .i64 0)]):=by kernel_rfl
theorem qx {s:St} (hB:qc s) (o:AO):qc (s.alloc o):=by
 intro i y hy
 show i < s.nx+1
 by_cases e:i=s.nx
 ·omega
 ·have:=hB _ _ ((zg e).symm.trans hy)
  omega
theorem qzu {s:St} (H:Ok TE Tryz.prog pr3) (hB:qc s) {kr kp:AV→St→Bool} (hk:∀ s',Ext s s'→qc s'→s'.nx=s.nx+3→RepM s' (s.nx+2) MZ (fun _=>s.nx+1) (fun _=>s.nx)→kr (.ptr (s.nx+2) 0) s'=true) :
  (sem Tryz.prog).call 89 [] s kr kp=true:=by
 refine qp H 9 q6l rfl rfl ?_
 repeat (first|with_reducible (refine q9 H ?_;constructor)|simp only[rB,rP,rQ,q8,qa,q7,qb,reduceIte,reduceCtorEq,Nat.reduceAdd,Nat.reduceLT,Nat.reduceEqDiff,UInt8.reduceToNat,pe3,pf3,qsj,qqm,qf,Tryz.results89])
 have zero:∀ {k:Nat} {nd:Nd},MZ.T k=some nd→k=0:=fun h=>by have:=Y1 h;simp[MZ] at this;exact this
 have len:∀ {k:Nat},k < MZ.nodes.length→k=0:=fun h=>by simp[MZ] at h;exact h
 refine hk _ ((Ext.alloc s _).trans ((Ext.alloc _ _).trans (Ext.alloc _ _))) (qx (qx (qx hB _) _) _) rfl ⟨?_,?_,?_,?_,?_,?_,?_,?_,rfl,?_,?_,?_⟩
 ·intro k nd h
  obtain rfl:=zero h
  cases h
  exact⟨(zg (by show s.nx+1≠s.nx+1+1;omega)).trans qu,(zg (by show s.nx≠s.nx+1+1;omega)).trans ((zg (by show s.nx≠s.nx+1;omega)).trans qu)⟩
 ·exact qu
 ·intro j k hj hk _
  rw[len hj,len hk]
 ·intro j k hj hk _
  rw[len hj,len hk]
 ·intro k nd h q hq
  obtain rfl:=zero h
  cases h
  cases hq
 ·intro k nd u h hu
  obtain rfl:=zero h
  cases h
  cases hu
 ·decide
 ·decide
 ·intro o ho k hk
  have:o=none:=by simpa [MZ] using ho
  rw[this] at hk
  cases hk
 ·decide
 ·intro k nd h
  obtain rfl:=zero h
  cases h
  decide
def Z8 (p:List Nat):Nat:=(Q9 p 47 p.length).toNat
def Yz (p:List Nat):List Nat:=qg8 (p.drop (Z8 p)) [47]
def Zc:List En→Md→List (List Nat × Nat)→Option (List Nat)→Option Md
 | [],M,_,_=>some M
 | e::l,M,K,pv=>bif YW e then (bif (match pv with|none=>true|some p=>decide (YF p e.1 < 0)) then (match qM (e.1.take (Z8 e.1)) K with
   | none=>none
   | some u=>match M.T u with
    | none=>none
    | some ud=>bif ud.kind != 1 then none else Zc l (VP M u ud (Yz e.1) ⟨e.2.1,e.2.2.1,e.2.2.2,[],some u,Yz e.1,0⟩) (setK e.1 M.nodes.length K) (some e.1)) else none) else none
def ofT (es:List En):Option Md:=bif decide ((es.length:Int) > 128) then none else match Zc es MZ [([],0)] none with
 | none=>none
 | some M=>some { M with many:=(es.length:Int) }
theorem Xd {b:List Nat} {c:Nat}:∀ {n:Nat},Q9 b c n < (n:Int)∧-1≤Q9 b c n
 | 0=>by simp[Q9]
 | n+1=>by
  have:=Xd (b:=b) (c:=c) (n:=n)
  have key:∀ z:Bool,(bif z then (n:Int) else Q9 b c n) < ((n+1:Nat):Int)∧-1≤(bif z then (n:Int) else Q9 b c n):=fun z=>by cases z <;> simp only[cond_true,cond_false] <;> omega
  exact key _
theorem qbx {p:List Nat}:Z8 p≤p.length:=by
 have:=Xd (b:=p) (c:=47) (n:=p.length)
 unfold Z8
 omega
theorem JR {p:List Nat}:(if Q9 p 47 p.length > 0 then Q9 p 47 p.length else 0)=(Z8 p:Int):=by
 unfold Z8
 split <;> omega
theorem XR {e:En} (h:YW e=true):e.1.length≤140∧e.2.2.2.length≤1024:=by
 unfold YW at h
 cases h1:Zd e.1 with
 | false=>rw[h1] at h;cases h
 | true =>
  rw[h1,cond_true] at h
  refine⟨?_,?_⟩
  ·unfold Zd at h1
   have hl:=X6 (x:=[]) (y:=47::e.1)
   generalize Qf [] (47::e.1)=x at h1 hl
   obtain⟨q,c⟩:=x
   simp only at h1 hl
   cases hc:Nat.beq c 0 with
   | false=>rw[hc] at h1;cases h1
   | true =>
    rw[hc,cond_true] at h1
    cases h2:eqB e.1 [] with
    | true=>rw[h2] at h1;cases h1
    | false =>
     rw[h2,cond_false,qG] at h1
     rw[← of_decide_eq_true h1]
     exact hl
  ·unfold ZW at h
   cases h2:e.2.1==1 with
   | true =>
    rw[h2,cond_true] at h
    cases h3:decide (e.2.2.1 ≥ 0) with
    | false=>rw[h3] at h;cases h
    | true =>
     rw[h3,cond_true] at h
     cases h4:decide (e.2.2.1≤511) with
     | false=>rw[h4] at h;cases h
     | true =>
      rw[h4,cond_true,qG] at h
      rw[of_decide_eq_true h]
      simp
   | false =>
    rw[h2,cond_false] at h
    cases h3:e.2.1==2 with
    | true =>
     rw[h3,cond_true] at h
     cases h4:decide (e.2.2.1 ≥ 0) with
     | false=>rw[h4] at h;cases h
     | true =>
      rw[h4,cond_true] at h
      cases h5:decide (e.2.2.1≤511) with
      | false=>rw[h5] at h;cases h
      | true =>
       rw[h5,cond_true] at h
       have:=of_decide_eq_true h
       omega
    | false =>
     rw[h3,cond_false] at h
     cases h4:e.2.1==3 with
     | false=>rw[h4] at h;cases h
     | true =>
      rw[h4,cond_true] at h
      cases h5:e.2.2.1==511 with
      | false=>rw[h5] at h;cases h
      | true =>
       rw[h5,cond_true] at h
       unfold J5 at h
       simp only[Bool.and_eq_true] at h
       have:=Nat.le_of_ble_eq_true h.2.1
       omega
theorem ZN {b:List Nat}:(qq b).length≤b.length+1:=by
 cases b with
 | nil=>simp[qq]
 | cons x l=>exact Y8 (x::l)
def celE (e:En):List AV:=[.str e.1,.raw (.int .i64 e.2.1),.raw (.int .i64 e.2.2.1),.str e.2.2.2]
def EsV (s:St) (V:AV) (es:List En):Prop:=((∃ a c,V=.raw (.slice a 0 c))∧es=[])∨(∃ id off ci l z,V=.esl id off ci l z∧es=[]) ∨
 ∃ id off ci cap ex cs ob,V=.slice id off es.length ci cap ex∧s.h.get id=some ob∧((∃ fz,ob=.cells cs 34 fz)∨ob=.old cs)∧Zr cs cs=true∧∀ k e,es[k]?=some e→ZF (off+k * 4) 4 cs=some (celE e)
theorem EsV.len {s:St} {V:AV} {es:List En} (h:EsV s V es):∀ s',Q5 TE s' [29] [V]=some (.raw (.int .i64 (es.length:Int))):=by
 intro s'
 rcases h with⟨⟨a,c,rfl⟩,rfl⟩|⟨id,off,ci,l,z,rfl,rfl⟩|⟨id,off,ci,cap,ex,cs,fz,rfl,_⟩ <;> kernel_rfl
theorem EsV.ids {s:St} {V:AV} {es:List En} (h:EsV s V es):QG V=[]:=by
 rcases h with⟨⟨a,c,rfl⟩,rfl⟩|⟨id,off,ci,l,z,rfl,rfl⟩|⟨id,off,ci,cap,ex,cs,fz,rfl,_⟩ <;> rfl
theorem qe0:(match TE.info 34 with|some ti=>Qv ti.desc&&Nat.beq ti.size 4|none=>false)=true:=by kernel_rfl
theorem qlx {t n x o fz el:Nat} {s:St} {cs l:List AV} (hs:(match TE.info t with|some ti=>Qv ti.desc&&Nat.beq ti.size n|none=>false)=true) (hg:s.h.get x=some (.cells cs el fz)) (hc:ZF o n cs=some l):Q3 TE s t (.ptr x o)=some (.agg l):=by
 cases ht:TE.info t with
 | none=>rw[ht] at hs;cases hs
 | some ti =>
  rw[ht] at hs
  simp only[Bool.and_eq_true] at hs
  have h2:=Nat.eq_of_beq_eq_true hs.2
  simp only[Q3,ht,qY,hg,hs.1,cond_true,h2,hc]
theorem qgw {t n x o:Nat} {s:St} {cs l:List AV} (hs:(match TE.info t with|some ti=>Qv ti.desc&&Nat.beq ti.size n|none=>false)=true) (hg:s.h.get x=some (.old cs)) (hc:ZF o n cs=some l):Q3 TE s t (.ptr x o)=some (.agg l):=by
 cases ht:TE.info t with
 | none=>rw[ht] at hs;cases hs
 | some ti =>
  rw[ht] at hs
  simp only[Bool.and_eq_true] at hs
  have h2:=Nat.eq_of_beq_eq_true hs.2
  simp only[Q3,ht,qY,qp9,hg,hs.1,cond_true,h2,hc]
theorem q2r {id off n ci cap k:Nat} {ex:Bool} (h:k < n):qL TE 29 (.slice id off n ci cap ex) (.raw (.int .i64 (k:Int)))=some (.ptr id (off+k * 4)):=by
 have e:qL TE 29 (.slice id off n ci cap ex) (.raw (.int .i64 (k:Int)))=(bif Nat.blt k n then some (.ptr id (off+k * 4)) else none):=by kernel_rfl
 rw[e,Nat.blt_eq.mpr h]
 rfl
theorem Q6 {x o:Nat}:qk TE 34 (.ptr x o) 0=some (.ptr x (o+0)):=by kernel_rfl
theorem qgz:∀ {l:List AV} {o n:Nat} {r:List AV} {x:AV} {t:List AV},ZF o n l=some r→r=x::t→l[o]?=some x:=by
 intro l o n r x t h hr
 subst hr
 induction l generalizing o with
 | nil =>
  cases o with
  | zero=>cases n <;> simp[ZF,ZB,ZJ] at h
  | succ o=>simp[ZF,ZB] at h
 | cons y l ih =>
  cases o with
  | zero =>
   cases n with
   | zero=>simp[ZF,ZB,ZJ] at h
   | succ n =>
    simp only[ZF,ZB,ZJ] at h
    cases ht:ZJ n l with
    | none=>rw[ht] at h;cases h
    | some q=>rw[ht] at h;cases h;rfl
  | succ o =>
   have:ZF o n l=some (x::t):=by simpa [ZF,ZB] using h
   simpa using ih this
theorem EsV.idx {s:St} {V:AV} {es:List En} (h:EsV s V es) {k:Nat} {e:En} (hk:es[k]?=some e):∃ id o,qL TE 29 V (.raw (.int .i64 (k:Int)))=some (.ptr id o)∧Q3 TE s 34 (.ptr id o)=some (agE e)∧ldO (s.h.get id) (o+0)=some (.str e.1)∧(∀ b,inO (s.h.get id) b=b)∧∃ ob,s.h.get id=some ob∧WA ob ob=true:=by
 rcases h with⟨⟨a,c,rfl⟩,rfl⟩|⟨id,off,ci,l,z,rfl,rfl⟩|⟨id,off,ci,cap,ex,cs,ob,rfl,hg,ho,hbq,hc⟩
 ·simp at hk
 ·simp at hk
 ·have hlt:=(List.getElem?_eq_some_iff.mp hk).1
  have h1:=hc k e hk
  rcases ho with⟨fz,rfl⟩|rfl
  ·refine⟨id,off+k * 4,q2r hlt,qlx qe0 hg h1,?_,fun b=>by rw[hg];rfl,_,hg,by simp[WA,hbq]⟩
   rw[hg,Nat.add_zero]
   exact qgz h1 rfl
  ·refine⟨id,off+k * 4,q2r hlt,qgw qe0 hg h1,?_,fun b=>by rw[hg];rfl,_,hg,by simp[WA,hbq]⟩
   rw[hg,Nat.add_zero]
   exact qgz h1 rfl
theorem EsV.keep {s s':St} {V:AV} {es:List En} (h:EsV s V es) (hk:∀ i o cs,((∃ fz,o=.cells cs 34 fz)∨o=.old cs)→s.h.get i=some o→s'.h.get i=some o):EsV s' V es:=by
 rcases h with h|h|⟨id,off,ci,cap,ex,cs,ob,h1,h2,h3,h4⟩
 ·exact Or.inl h
 ·exact Or.inr (Or.inl h)
 ·exact Or.inr (Or.inr ⟨id,off,ci,cap,ex,cs,ob,h1,hk _ _ _ h3 h2,h3,h4⟩)
theorem EsV.ext {s s':St} {V:AV} {es:List En} (h:EsV s V es) (hB:qc s) (hE:Ext s s'):EsV s' V es:=h.keep (fun i o cs _ hi=>(hE.2 i (hB _ _ hi)).trans hi)
set_option maxHeartbeats 400000000
theorem qx3:qez TE 34=4:=by kernel_rfl
theorem YK {s:St}:Z5 TE s 34=some (.ptr s.nx 0,s.alloc (.cells [.str [],.raw (.int .i64 0),.raw (.int .i64 0),.str []] 34 0)):=by
 have:zt TE 34=some (.agg [.str [],.raw (.int .i64 0),.raw (.int .i64 0),.str []]):=by kernel_rfl
 simp only[Z5,this];rfl
theorem VN {s:St} {x:Nat} {e:En}:Qu TE s 34 (.ptr x 0) (agE e)=stA s x (s.h.get x) (celE e):=by
 have hs:=qx3
 unfold qez at hs
 cases ht:TE.info 34 with
 | none=>rw[ht] at hs;cases hs
 | some ti =>
  rw[ht] at hs
  simp only at hs
  have hall:(celE e).all AV.one=true:=rfl
  have hl:(celE e).length=4:=rfl
  simp only[Qu,ht,hs,agE,qf,zj]
  show (bif true then (match qY s x with
   | some (cs,el,fz)=>bif (celE e).all AV.one then (match JW cs 0 (celE e) with|some cs'=>some { s with h:=s.h.set x (.cells cs' el fz) } | none=>none) else none
   | none=>none) else none)=_
  rw[hall]
  simp only[cond_true,stA,qY]
  cases s.h.get x with
  | none=>rfl
  | some y=>cases y <;> rfl
theorem YI {s:St} {x el fz:Nat} {a0 a1 a2 a3:AV} {e:En}:stA s x (some (.cells [a0,a1,a2,a3] el fz)) (celE e)=some { s with h:=s.h.set x (.cells (celE e) el fz) }:=(rfl)
theorem QM {s:St} {x:Nat}:Q3 TE s 34 (.ptr x 0)=ldG 4 (s.h.get x):=KJ qe0
theorem Qe {e:En} {el fz:Nat}:ldG 4 (some (.cells (celE e) el fz))=some (agE e):=(rfl)
theorem zm {e:En} {el fz:Nat}:ldO (some (.cells (celE e) el fz)) 0=some (.str e.1):=(rfl)
theorem zR {e:En} {el fz:Nat}:ldO (some (.cells (celE e) el fz)) 1=some (.raw (.int .i64 e.2.1)):=(rfl)
theorem Qo {e:En} {el fz:Nat}:ldO (some (.cells (celE e) el fz)) 2=some (.raw (.int .i64 e.2.2.1)):=(rfl)
theorem Qm {e:En} {el fz:Nat}:ldO (some (.cells (celE e) el fz)) 3=some (.str e.2.2.2):=(rfl)
theorem Wq {k m:Int} {d:List Nat} {mp:Nat}:Qb TE 117 [(0,.raw (.int .i64 k)),(1,.raw (.int .i64 m)),(2,.str d),(3,.map mp)]=some (.agg [.raw (.int .i64 k),.raw (.int .i64 m),.str d,.map mp,.raw (.pointer none),.str []]):=by kernel_rfl
theorem q7y {x:Nat}:qk TE 120 (.ptr x 0) 0=some (.ptr x 0):=by kernel_rfl
theorem q7e {x:Nat}:qk TE 120 (.ptr x 0) 3=some (.ptr x 10):=by kernel_rfl
theorem qN {e:En}:Zr (celE e) (celE e)=true:=by
 unfold celE
 simp only[qod,qtv,qpi,qi0,Bool.and_self]
theorem RepM.manyS {s:St} {x:Nat} {M:Md} {ι μ:Nat→Nat} (R:RepM s x M ι μ) (hB:qc s) {m:Int} (hm:-1000000≤m∧m≤1000000):RepM { s with h:=s.h.set x (trA (ι M.root) (ι M.cwd) (qnu ι M.fds) m) } x { M with many:=m } ι μ:=by
 have ne:∀ {i:Nat} {o:AO},i≠x→s.h.get i=some o→(s.h.set x (trA (ι M.root) (ι M.cwd) (qnu ι M.fds) m)).get i=some o:=fun hi h=>(qe hi).trans h
 exact⟨fun k nd hk=>⟨ne (R.xi (Y1 hk)) (R.nd k nd hk).1,ne (R.xm (Y1 hk)) (R.nd k nd hk).2⟩,hs_same,R.ij,R.mj,R.kd,R.up,R.rt,R.cw,R.f8,R.fd,hm,R.da⟩
theorem Q7 {s:St} {o o':AO}:Ext s { h:=(s.alloc o).h.set s.nx o',nx:=s.nx+1 }:=by
 refine⟨Nat.le_succ _,fun i hi=>?_⟩
 have:i≠s.nx:=by omega
 show ((s.h.set s.nx o).set s.nx o').get i=_
 rw[Tr.get_set,if_neg this,Tr.get_set,if_neg this]
theorem zy {s:St} {o o':AO} (hB:qc s):qc { h:=(s.alloc o).h.set s.nx o',nx:=s.nx+1 }:=by
 intro i x hx
 show i < s.nx+1
 by_cases e:i=s.nx
 ·omega
 ·have:((s.h.set s.nx o).set s.nx o').get i=some x:=hx
  rw[Tr.get_set,if_neg e,Tr.get_set,if_neg e] at this
  have:=hB _ _ this
  omega
theorem RepM.extS {s s':St} {x:Nat} {M:Md} {ι μ:Nat→Nat} (R:RepM s x M ι μ) (hB:qc s) (hE:Ext s s'):RepM s' x M ι μ:=by
 have f:∀ {i:Nat} {o:AO},s.h.get i=some o→s'.h.get i=some o:=fun h=>(hE.2 _ (hB _ _ h)).trans h
 exact⟨fun k nd hk=>⟨f (R.nd k nd hk).1,f (R.nd k nd hk).2⟩,f R.tr,R.ij,R.mj,R.kd,R.up,R.rt,R.cw,R.f8,R.fd,R.mn,R.da⟩
theorem ze {e:En}:(celE e)[0]?=some (.str e.1):=(rfl)
theorem zo {e:En}:(celE e)[1]?=some (.raw (.int .i64 e.2.1)):=(rfl)
theorem zM {e:En}:(celE e)[2]?=some (.raw (.int .i64 e.2.2.1)):=(rfl)
theorem zP {e:En}:(celE e)[3]?=some (.str e.2.2.2):=(rfl)
theorem qbk {p:List Nat} {n:Nat}:∀ {K:List (List Nat × Nat)} {u:Nat},(∀ q∈K,q.2 < n)→qM p K=some u→u < n
 | [],_,_,h=>by cases h
 | (q,j)::l,u,hK,h=>by
  simp only[qM] at h
  cases hq:eqB p q with
  | true =>
   rw[hq] at h
   cases h
   exact hK (q,j) (List.mem_cons_self ..)
  | false =>
   rw[hq] at h
   exact qbk (fun r hr=>hK r (List.mem_cons_of_mem _ hr)) h
theorem RepM.setO {s:St} {x:Nat} {M:Md} {ι μ:Nat→Nat} (R:RepM s x M ι μ) {i:Nat} {o:AO} (h1:i≠x) (h2:∀ j,j < M.nodes.length→ι j≠i∧μ j≠i):RepM { s with h:=s.h.set i o } x M ι μ:=by
 have ne:∀ {j:Nat} {y:AO},j≠i→s.h.get j=some y→(s.h.set i o).get j=some y:=fun hj h=>(qe hj).trans h
 exact⟨fun k nd hk=>⟨ne (h2 k (Y1 hk)).1 (R.nd k nd hk).1,ne (h2 k (Y1 hk)).2 (R.nd k nd hk).2⟩,ne (fun e=>h1 e.symm) R.tr,R.ij,R.mj,R.kd,R.up,R.rt,R.cw,R.f8,R.fd,R.mn,R.da⟩
theorem XM {s S s6:St} {x am u:Nat} {M:Md} {ι μ:Nat→Nat} {K:List (List Nat × Nat)} {ud:Nd} {e:En} {nm:List Nat} (R:RepM S x M ι μ) (hB:qc S) (hE:Ext s S) (hx:s.nx≤x) (hxa:am≠x) (ha:s.nx≤am) (hat:S.h.get am=some (.map (zQ (zk ι K))))
  (hown:∀ j,j < M.nodes.length→s.nx≤ι j∧s.nx≤μ j∧ι j≠am∧μ j≠am) (hud:M.T u=some ud) (hld:e.2.2.2.length≤1024) (hK:∀ q∈K,q.2 < M.nodes.length)
  (hnx:s6.nx=S.nx+2) (hC:Chg ((S.alloc (.map [])).alloc (ndA ⟨e.2.1,e.2.2.1,e.2.2.2,[],none,[],S.nx⟩)) s6 [(S.nx+1,ndA ⟨e.2.1,e.2.2.1,e.2.2.2,[],some (ι u),nm,S.nx⟩),(μ u,.map (zQ (setK nm (S.nx+1) (zk ι ud.kids))))]) (hB6:qc s6) :
  s6.h.get am=some (.map (zQ (zk ι K)))∧(∀ i cs fz,S.h.get i=some (.cells cs 34 fz)→s6.h.get i=some (.cells cs 34 fz)) ∧
  Ext s { s6 with h:=s6.h.set am (.map (zQ (setK e.1 (S.nx+1) (zk ι K)))) }∧qc { s6 with h:=s6.h.set am (.map (zQ (setK e.1 (S.nx+1) (zk ι K)))) } ∧
  RepM { s6 with h:=s6.h.set am (.map (zQ (setK e.1 (S.nx+1) (zk ι K)))) } x (VP M u ud nm ⟨e.2.1,e.2.2.1,e.2.2.2,[],some u,nm,0⟩) (VQ ι M.nodes.length (S.nx+1)) (VQ μ M.nodes.length S.nx) ∧
  (s6.h.set am (.map (zQ (setK e.1 (S.nx+1) (zk ι K))))).get am=some (.map (zQ (zk (VQ ι M.nodes.length (S.nx+1)) (setK e.1 M.nodes.length K)))) ∧
  (∀ j,j < (VP M u ud nm ⟨e.2.1,e.2.2.1,e.2.2.2,[],some u,nm,0⟩).nodes.length→s.nx≤VQ ι M.nodes.length (S.nx+1) j∧s.nx≤VQ μ M.nodes.length S.nx j∧VQ ι M.nodes.length (S.nx+1) j≠am∧VQ μ M.nodes.length S.nx j≠am) ∧
  (∀ q∈setK e.1 M.nodes.length K,q.2 < (VP M u ud nm ⟨e.2.1,e.2.2.1,e.2.2.2,[],some u,nm,0⟩).nodes.length):=by
 have hul:=Y1 hud
 have hlm:=R.lm hB hul
 have hli:=R.li hB hul
 have haS:=hB _ _ hat
 have hxS:=R.lx hB
 have hsS:=hE.1
 have fr:∀ j,j < S.nx→j≠μ u→s6.h.get j=S.h.get j:=by
  intro j hj hm
  have h2:s6.h.get j=((S.alloc (.map [])).alloc (ndA ⟨e.2.1,e.2.2.1,e.2.2.2,[],none,[],S.nx⟩)).h.get j:=hC.2.2 j (by show j < S.nx+1+1;omega) (by
   intro q hq
   simp only[List.mem_cons,List.not_mem_nil,or_false] at hq
   rcases hq with rfl|rfl
   ·show j≠S.nx+1
    omega
   ·exact hm)
  rw[h2]
  exact (zg (by show j≠S.nx+1;omega)).trans (zg (by omega))
 have hc1:s6.h.get (S.nx+1)=some (ndA ⟨e.2.1,e.2.2.1,e.2.2.2,[],some (ι u),nm,S.nx⟩):=hC.2.1 (S.nx+1,_) (List.mem_cons_self ..)
 have hc2:s6.h.get (μ u)=some (.map (zQ (setK nm (S.nx+1) (zk ι ud.kids)))):=hC.2.1 (μ u,_) (List.mem_cons_of_mem _ (List.mem_cons_self ..))
 have hc3:s6.h.get S.nx=some (.map []):=by
  have h2:s6.h.get S.nx=((S.alloc (.map [])).alloc (ndA ⟨e.2.1,e.2.2.1,e.2.2.2,[],none,[],S.nx⟩)).h.get S.nx:=hC.2.2 S.nx (by show S.nx < S.nx+1+1;omega) (by
   intro q hq
   simp only[List.mem_cons,List.not_mem_nil,or_false] at hq
   rcases hq with rfl|rfl
   ·show S.nx≠S.nx+1
    omega
   ·show S.nx≠μ u
    omega)
  rw[h2]
  exact (zg (by show S.nx≠S.nx+1;omega)).trans qu
 have hlen:(VP M u ud nm ⟨e.2.1,e.2.2.1,e.2.2.2,[],some u,nm,0⟩).nodes.length=M.nodes.length+1:=by simp[VP]
 have u1:∀ {a:Nat→Nat} {N j:Nat},j < M.nodes.length→VQ a M.nodes.length N j=a j:=fun h=>if_neg (by omega)
 have u2:∀ {a:Nat→Nat} {N:Nat},VQ a M.nodes.length N M.nodes.length=N:=if_pos rfl
 have hat6:s6.h.get am=some (.map (zQ (zk ι K))):=(fr am haS (fun h=>(hown u hul).2.2.2 h.symm)).trans hat
 have R6:=qqo R hB hud (kind:=e.2.1) (mode:=e.2.2.1) (data:=e.2.2.2) (nm:=nm) (N:=S.nx+1) (mp:=S.nx) (s':=s6) (by omega) (by omega) hc2 fr ⟨hc1,hc3⟩ (Nat.le_refl _) (by omega)
 refine⟨hat6,fun i cs fz hi=>?_,⟨by show s.nx≤s6.nx;omega,fun i hi=>?_⟩,qn hB6 (hB6 _ _ hat6) _,?_,?_,?_,?_⟩
 ·have h1:=hB _ _ hi
  refine (fr i h1 (fun h=>?_)).trans hi
  rw[h] at hi
  have:=(R.nd u ud hud).2
  have h2:S.h.get (μ u)=some (.map (zQ (zk ι ud.kids))):=this
  rw[h2] at hi
  cases hi
 ·show (s6.h.set am _).get i=_
  rw[qe (by omega)]
  have:=(hown u hul).2.1
  exact (fr i (by omega) (by omega)).trans (hE.2 i hi)
 ·refine R6.setO hxa (fun j hj=>?_)
  rw[hlen] at hj
  by_cases h:j=M.nodes.length
  ·subst h
   rw[u2,u2]
   omega
  ·rw[u1 (by omega),u1 (by omega)]
   exact (hown j (by omega)).2.2
 ·rw[hs_same,← qhn,u2]
  have:zk (VQ ι M.nodes.length (S.nx+1)) K=zk ι K:=Jf fun q hq=>u1 (hK q hq)
  rw[this]
 ·intro j hj
  rw[hlen] at hj
  by_cases h:j=M.nodes.length
  ·subst h
   rw[u2,u2]
   omega
  ·rw[u1 (by omega),u1 (by omega)]
   exact hown j (by omega)
 ·intro q hq
  rw[hlen]
  rcases qcs hq with h|h
  ·omega
  ·have:=hK q h
   omega
def WorldF (b:Nat) (s:St) (x:Nat) (M:Md) (L:List (Nat × AO)):Prop:=qc s∧b≤x∧∃ ι μ,RepM s x M ι μ∧(∀ j,j < M.nodes.length→b≤ι j∧b≤μ j)∧∀ q∈L,s.h.get q.1=some q.2∧¬ Own x M ι μ q.1
theorem WorldF.world {b:Nat} {s:St} {x:Nat} {M:Md} {L:List (Nat × AO)} (h:WorldF b s x M L):World s x M L:=by
 obtain⟨hB,_,ι,μ,R,_,hL⟩:=h
 exact⟨hB,ι,μ,R,hL⟩
theorem q6n {s:St} (H:Ok TE Tryz.prog pr3) (hB:qc s) {V:AV} {es:List En} (hV:EsV s V es) (hp:∀ e∈es,e.1.length≤1048575) (hn0:es.length < 1000000000) {kr kp:AV→St→Bool}
  (hk:∀ s' x M,ofT es=some M→Ext s s'→WorldF s.nx s' x M []→kr (.tuple [.ptr x 0,.raw (.int .i64 0)]) s'=true)
  (hf:∀ s',ofT es=none→Ext s s'→qc s'→kr (.tuple [.raw (.pointer none),.raw (.int .i64 500)]) s'=true) :
  (sem Tryz.prog).call 50 [V] s kr kp=true:=by
 refine qp H 91 q68 rfl rfl ?_
 have vl:=hV.len
 have vi:=hV.ids
 repeat (first|with_reducible (refine q9 H ?_;constructor)|simp only[rB,rP,rQ,q8,qa,q7,qb,reduceIte,reduceCtorEq,Nat.reduceAdd,Nat.reduceLT,Nat.reduceEqDiff,UInt8.reduceToNat,pe3,pf3])
 refine qzu H hB (fun s1 hE1 hB1 hnx R1=>?_)
 unfold ofT at hk hf
 by_cases hl:es.length > 128
 ·have g0:decide ((es.length:Int) > 128)=true:=by rw[decide_eq_true_eq];omega
  repeat (first|with_reducible (refine q9 H ?_;constructor)|simp only[rB,rP,rQ,q8,qa,q7,qb,reduceIte,reduceCtorEq,Nat.reduceAdd,Nat.reduceLT,Nat.reduceEqDiff,UInt8.reduceToNat,pe3,pf3,vl,vi,zD,g0,Tryz.results50])
  exact hf s1 (by rw[g0];rfl) hE1 hB1
 have g0:decide ((es.length:Int) > 128)=false:=by rw[decide_eq_false_iff_not];omega
 rw[g0] at hk hf
 simp only[cond_false] at hk hf
 have hx:=R1.tr
 unfold trA at hx
 have hm0:(s1.alloc (.map [])).h.get s1.nx=some (.map (zQ [])):=qu
 have up:=Vu (p:=[]) (j:=s.nx+1) hm0
 have x1:(s.nx+2=s1.nx)=False:=by simp;omega
 repeat (first|with_reducible (refine q9 H ?_;constructor)|simp only[rB,rP,rQ,q8,qa,q7,qb,reduceIte,reduceCtorEq,Nat.reduceAdd,Nat.reduceLT,Nat.reduceEqDiff,UInt8.reduceToNat,pe3,pf3,vl,vi,zD,g0,q7y,KK,hx,x1,up])
 have hE2:Ext s { h:=(s1.alloc (.map [])).h.set s1.nx (.map (zQ (setK [] (s.nx+1) []))),nx:=s1.nx+1 }:=hE1.trans Q7
 have hB2:qc { h:=(s1.alloc (.map [])).h.set s1.nx (.map (zQ (setK [] (s.nx+1) []))),nx:=s1.nx+1 }:=zy hB1
 have hR2:RepM { h:=(s1.alloc (.map [])).h.set s1.nx (.map (zQ (setK [] (s.nx+1) []))),nx:=s1.nx+1 } (s.nx+2) MZ (fun _=>s.nx+1) (fun _=>s.nx):=R1.extS hB1 Q7
 refine qB H (fun n t s'=>∃ (k:Nat) (M:Md) (K:List (List Nat × Nat)) (ι μ:Nat→Nat) (pv:Option (List Nat)),n+k=es.length∧tg t 0=V∧tg t 4=.ptr (s.nx+2) 0∧tg t 5=.map s1.nx∧tg t 20=V∧tg t 21=.raw (.int .i64 (es.length:Int))∧tg t 22=.raw (.int .i64 (k:Int)) ∧
  Ext s s'∧qc s'∧RepM s' (s.nx+2) M ι μ∧s'.h.get s1.nx=some (.map (zQ (zk ι K)))∧(∀ j,j < M.nodes.length→s.nx≤ι j∧s.nx≤μ j∧ι j≠s1.nx∧μ j≠s1.nx)∧(k=0∧pv=none∨∃ e,0 < k∧es[k - 1]?=some e∧pv=some e.1∧e.1.length≤140)∧M.many=0∧(∀ q∈K,q.2 < M.nodes.length) ∧
  Zc es MZ [([],0)] none=Zc (es.drop k) M K pv) (n:=es.length)
  ⟨0,MZ,[([],0)],fun _=>s.nx+1,fun _=>s.nx,none,rfl,by simp only[rB,rP,rQ,q8,qa,q7,qb,reduceIte,reduceCtorEq,Nat.reduceAdd,Nat.reduceLT,Nat.reduceEqDiff,UInt8.reduceToNat],by simp only[rB,rP,rQ,q8,qa,q7,qb,reduceIte,reduceCtorEq,Nat.reduceAdd,Nat.reduceLT,Nat.reduceEqDiff,UInt8.reduceToNat],by simp only[rB,rP,rQ,q8,qa,q7,qb,reduceIte,reduceCtorEq,Nat.reduceAdd,Nat.reduceLT,Nat.reduceEqDiff,UInt8.reduceToNat],by simp only[rB,rP,rQ,q8,qa,q7,qb,reduceIte,reduceCtorEq,Nat.reduceAdd,Nat.reduceLT,Nat.reduceEqDiff,UInt8.reduceToNat],by simp only[rB,rP,rQ,q8,qa,q7,qb,reduceIte,reduceCtorEq,Nat.reduceAdd,Nat.reduceLT,Nat.reduceEqDiff,UInt8.reduceToNat],by simp only[rB,rP,rQ,q8,qa,q7,qb,reduceIte,reduceCtorEq,Nat.reduceAdd,Nat.reduceLT,Nat.reduceEqDiff,UInt8.reduceToNat];rfl,hE2,hB2,hR2,hs_same,fun j hj=>⟨by show s.nx≤s.nx+1;omega,Nat.le_refl _,by show s.nx+1≠s1.nx;omega,by show s.nx≠s1.nx;omega⟩,Or.inl ⟨rfl,rfl⟩,rfl,fun q hq=>by simp at hq;subst hq;decide,rfl⟩ ?_
 rintro n t s' ih ⟨k,M,K,ι,μ,pv,hnk,t0,t4,t5,t20,t21,t22,hE,hB',R,hat,hown,hpv,hmany,hK,hrun⟩
 have hV':=hV.ext hB hE
 cases n with
 | zero =>
  have g1:decide ((k:Int) < (es.length:Int))=false:=by rw[decide_eq_false_iff_not];omega
  rw[List.drop_eq_nil_of_le (by omega)] at hrun
  simp only[Zc] at hrun
  obtain⟨f0,f1,f2,f3,f4,f5,f6,f7,h8⟩:=R.tr8
  have hx':=R.tr
  rw[h8] at hx'
  have R':=R.manyS hB' (m:=(es.length:Int)) (by omega)
  rw[h8] at R'
  repeat (first|with_reducible (refine q9 H ?_;constructor)|simp only[rB,rP,rQ,q8,qa,q7,qb,reduceIte,reduceCtorEq,Nat.reduceAdd,Nat.reduceLT,Nat.reduceEqDiff,UInt8.reduceToNat,pe3,pf3,t0,t4,t5,t20,t21,t22,zJ,g1,vl,vi,q7e,qlf,hx',Tryz.results50])
  refine hk _ _ _ (by rw[hrun]) ⟨hE.1,fun i hi=>?_⟩ ⟨qn hB' (hB' _ _ hx') _,by omega,ι,μ,R',fun j hj=>⟨(hown j hj).1,(hown j hj).2.1⟩,fun q hq=>by cases hq⟩
  show (s'.h.set (s.nx+2) _).get i=_
  rw[qe (by omega)]
  exact hE.2 i hi
 | succ n =>
  have hlt:k < es.length:=by omega
  have g1:decide ((k:Int) < (es.length:Int))=true:=by rw[decide_eq_true_eq];omega
  have hke:es[k]?=some es[k]:=List.getElem?_eq_getElem hlt
  rw[List.drop_eq_getElem_cons hlt] at hrun
  have hmem:es[k]∈es:=List.getElem_mem hlt
  generalize es[k]=e at hke hrun hmem
  simp only[Zc] at hrun
  obtain⟨id,o,y1,y2,y3,y4,-⟩:=hV'.idx hke
  have hB3:qc { h:=(s'.alloc (.cells [.str [],.raw (.int .i64 0),.raw (.int .i64 0),.str []] 34 0)).h.set s'.nx (.cells (celE e) 34 0),nx:=s'.nx+1 }:=zy hB'
  have hE3:Ext s' { h:=(s'.alloc (.cells [.str [],.raw (.int .i64 0),.raw (.int .i64 0),.str []] 34 0)).h.set s'.nx (.cells (celE e) 34 0),nx:=s'.nx+1 }:=Q7
  have c3:({ h:=(s'.alloc (.cells [.str [],.raw (.int .i64 0),.raw (.int .i64 0),.str []] 34 0)).h.set s'.nx (.cells (celE e) 34 0),nx:=s'.nx+1 }:St).h.get s'.nx=some (.cells (celE e) 34 0):=hs_same
  repeat (first|with_reducible (refine q9 H ?_;constructor)|simp only[rB,rP,rQ,q8,qa,q7,qb,reduceIte,reduceCtorEq,Nat.reduceAdd,Nat.reduceLT,Nat.reduceEqDiff,UInt8.reduceToNat,pe3,pf3,t0,t4,t5,t20,t21,t22,zJ,g1,y1,y2,y4,YK,VN,YI,QM,Qe]|(with_reducible refine qy H (i:=8) (.take 0 (.alt 1 [0] (.take 2 (.take 3 (.take 4 (.take 5 (.take 6 (.take 7 (.take 8 (.take 9 (.take 10 (.take 11 (.take 12 (.take 13 (.take 14 (.alt 15 [0,1,2,3,4,5,6,7,8,9,10,11,12,13,14] (.take 16 (.take 17 (.take 18 (.done)))) (.yes))))))))))))))) (.yes))) rfl (by kernel_rfl) ?_)|(refine q6w H hB3 (hp e hmem) (fun s4 hE4 hB4=>?_)))
  have c4:s4.h.get s'.nx=some (.cells (celE e) 34 0):=(hE4.2 _ (by show s'.nx < s'.nx+1;omega)).trans c3
  have hE24:Ext s' s4:=hE3.trans hE4
  have hEs4:Ext s s4:=hE.trans hE24
  cases hm:YW e with
  | false =>
   rw[hm] at hrun
   repeat (first|with_reducible (refine q9 H ?_;constructor)|simp only[rB,rP,rQ,q8,qa,q7,qb,reduceIte,reduceCtorEq,Nat.reduceAdd,Nat.reduceLT,Nat.reduceEqDiff,UInt8.reduceToNat,pe3,pf3,t0,t4,t5,t20,t21,t22,hm,Bool.not_false,c4,Tryz.results50]|(with_reducible refine qy H (i:=8) (.take 0 (.alt 1 [0] (.take 2 (.take 3 (.take 4 (.take 5 (.take 6 (.take 7 (.take 8 (.take 9 (.take 10 (.take 11 (.take 12 (.take 13 (.take 14 (.alt 15 [0,1,2,3,4,5,6,7,8,9,10,11,12,13,14] (.take 16 (.take 17 (.take 18 (.done)))) (.yes))))))))))))))) (.yes))) rfl (by kernel_rfl) ?_))
   exact hf s4 (by rw[hrun];rfl) hEs4 hB4
  | true =>
  rw[hm,cond_true] at hrun
  obtain⟨hle,hld⟩:=XR hm
  have hcl:=qbx (p:=e.1)
  have sl2:qF TE 9 (.str e.1) none (some (.raw (.int .i64 (Z8 e.1:Int)))) none=some (.str (e.1.take (Z8 e.1))):=by
   rw[Ym,Xz zC hcl]
   simp
  have sl3:qF TE 9 (.str e.1) (some (.raw (.int .i64 (Z8 e.1:Int)))) none none=some (.str (e.1.drop (Z8 e.1))):=by
   rw[Ym,qbd zC hcl (Nat.le_refl _)]
   simp only
   rw[List.take_of_length_le (by simp)]
  rcases hpv with⟨hk0,rfl⟩|⟨e',hk1,hke',rfl,hl'⟩
  ·have g2:decide ((k:Int) > 0)=false:=by rw[hk0];rfl
   simp only[cond_true] at hrun
   have hVS:=hV.ext hB hEs4
   have RS:=R.extS hB' hE24
   have hatS:s4.h.get s1.nx=some (.map (zQ (zk ι K))):=(hE24.2 _ (hB' _ _ hat)).trans hat
   have cS:s4.h.get s'.nx=some (.cells (celE e) 34 0):=c4
   have lk:=qlo (p:=e.1.take (Z8 e.1)) hatS
   have ia:∀ b,inO (s4.h.get s1.nx) b=b:=fun b=>by rw[hatS];rfl
   rw[K6] at lk
   repeat (first|with_reducible (refine q9 H ?_;constructor)|simp only[rB,rP,rQ,q8,qa,q7,qb,reduceIte,reduceCtorEq,Nat.reduceAdd,Nat.reduceLT,Nat.reduceEqDiff,UInt8.reduceToNat,pe3,pf3,t0,t4,t5,t20,t21,t22,hm,Bool.not_true,cS,qg,qD,zm,ze,zo,zM,zP,zD,g2]|(with_reducible refine qy H (i:=8) (.take 0 (.alt 1 [0] (.take 2 (.take 3 (.take 4 (.take 5 (.take 6 (.take 7 (.take 8 (.take 9 (.take 10 (.take 11 (.take 12 (.take 13 (.take 14 (.alt 15 [0,1,2,3,4,5,6,7,8,9,10,11,12,13,14] (.take 16 (.take 17 (.take 18 (.done)))) (.yes))))))))))))))) (.yes))) rfl (by kernel_rfl) ?_))
   refine qhz H (b:=e.1) (c:=47) (by omega) ?_
   cases hlk:qM (e.1.take (Z8 e.1)) K with
   | none =>
    rw[hlk] at lk hrun
    simp only[Option.map_none,qi5] at lk
    repeat (first|with_reducible (refine q9 H ?_;constructor)|simp only[rB,rP,rQ,q8,qa,q7,qb,reduceIte,reduceCtorEq,Nat.reduceAdd,Nat.reduceLT,Nat.reduceEqDiff,UInt8.reduceToNat,pe3,pf3,t0,t4,t5,t20,t21,t22,cS,qg,qD,zm,ze,zo,zM,zP,JR,sl2,lk,ia,qwa,qjh,qs7,ZY,Tryz.results50])
    exact hf s4 (by rw[hrun]) hEs4 hB4
   | some u =>
    rw[hlk] at lk hrun
    simp only[Option.map_some,qi5] at lk
    obtain⟨ud,hud⟩:=qdp (M:=M) (k:=u) (qbk hK hlk)
    simp only[hud] at hrun
    have hnd:=RS.nd u ud hud
    have hn1:=hnd.1
    unfold ndA Nd.to at hn1
    cases hkd:ud.kind != 1 with
    | true =>
     rw[hkd] at hrun
     repeat (first|with_reducible (refine q9 H ?_;constructor)|simp only[rB,rP,rQ,q8,qa,q7,qb,reduceIte,reduceCtorEq,Nat.reduceAdd,Nat.reduceLT,Nat.reduceEqDiff,UInt8.reduceToNat,pe3,pf3,t0,t4,t5,t20,t21,t22,cS,qg,qD,zm,ze,zo,zM,zP,JR,sl2,lk,ia,WD,XJ,WH,qK,hn1,qH,hkd,Tryz.results50])
     exact hf s4 (by rw[hrun];rfl) hEs4 hB4
    | false =>
     rw[hkd,cond_false] at hrun
     repeat (first|with_reducible (refine q9 H ?_;constructor)|simp only[rB,rP,rQ,q8,qa,q7,qb,reduceIte,reduceCtorEq,Nat.reduceAdd,Nat.reduceLT,Nat.reduceEqDiff,UInt8.reduceToNat,pe3,pf3,t0,t4,t5,t20,t21,t22,cS,qg,qD,zm,ze,zo,zM,zP,JR,sl2,lk,ia,WD,XJ,WH,qK,hn1,qH,hkd])
     have hnS:s4.h.get (μ u)=some (.map (zQ (zk ι ud.kids))):=hnd.2
     have hul:=Y1 hud
     have hlu:=RS.li hB4 hul
     have hlm:=RS.lm hB4 hul
     have hs7:s'.nx < s4.nx:=hB4 _ _ cS
     have n7:(s'.nx=s4.nx)=False:=by simp;omega
     have n8:(s'.nx=s4.nx+1)=False:=by simp;omega
     have n9:(s4.nx=s4.nx+1)=False:=by simp
     have hE6':Ext s4 ((s4.alloc (.map [])).alloc (ndA ⟨e.2.1,e.2.2.1,e.2.2.2,[],none,[],s4.nx⟩)):=(Ext.alloc _ _).trans (Ext.alloc _ _)
     have hB6':qc ((s4.alloc (.map [])).alloc (ndA ⟨e.2.1,e.2.2.1,e.2.2.2,[],none,[],s4.nx⟩)):=qx (qx hB4 _) _
     have hu6:qvb ((s4.alloc (.map [])).alloc (ndA ⟨e.2.1,e.2.2.1,e.2.2.2,[],none,[],s4.nx⟩)) (ι u) (ud.to ι (μ u)):=⟨(hE6'.2 _ hlu).trans hnd.1,(hE6'.2 _ hlm).trans hnd.2⟩
     have hj6:((s4.alloc (.map [])).alloc (ndA ⟨e.2.1,e.2.2.1,e.2.2.2,[],none,[],s4.nx⟩)).h.get (s4.nx+1)=some (ndA ⟨e.2.1,e.2.2.1,e.2.2.2,[],none,[],s4.nx⟩):=qu
     have ew:IntKind.i64.wrap ((k:Int)+1)=((k+1:Nat):Int):=by
      rw[show (k:Int)+1=((k+1:Nat):Int) from by simp]
      exact qU (by omega)
     have hne6:ι u≠s4.nx+1:=by omega
     repeat (first|with_reducible (refine q9 H ?_;constructor)|simp only[rB,rP,rQ,q8,qa,q7,qb,reduceIte,reduceCtorEq,Nat.reduceAdd,Nat.reduceLT,Nat.reduceEqDiff,UInt8.reduceToNat,pe3,pf3,t0,t4,t5,t20,t21,t22,cS,qg,qh,qi,qj,qD,qK,ze,zo,zM,zP,sl3,Wq,qf,qN,n7,n8,n9]|(with_reducible refine qy H (i:=14) (.take 0 (.take 1 (.take 2 (.take 3 (.take 4 (.take 5 (.take 6 (.take 7 (.take 9 (.take 10 (.take 11 (.take 12 (.take 13 (.take 14 (.alt 8 [4,5,6,7] (.alt 15 [] (.take 16 (.alt 17 [9,10,11,12,13,14,15,16] (.alt 18 [3,4,5,6,7,8,9,10,11,12,13,14,15,16,17] (.alt 19 [0,1,2,3,4,5,6,7,8,9,10,11,12,13,14,15,16,17,18] (.done) (.yes)) (.yes)) (.yes))) (.yes)) (.alt 15 [] (.take 16 (.alt 8 [4,5,6,7] (.alt 17 [9,10,11,12,13,14,15,16] (.alt 18 [3,4,5,6,7,8,9,10,11,12,13,14,15,16,17] (.alt 19 [0,1,2,3,4,5,6,7,8,9,10,11,12,13,14,15,16,17,18] (.done) (.yes)) (.yes)) (.yes)) (.alt 17 [9,10,11,12,13,14,15,16] (.alt 8 [4,5,6,7] (.alt 18 [3,4,5,6,7,8,9,10,11,12,13,14,15,16,17] (.alt 19 [0,1,2,3,4,5,6,7,8,9,10,11,12,13,14,15,16,17,18] (.done) (.yes)) (.yes)) (.yes)) (.yes)))) (.yes))))))))))))))))) rfl (by kernel_rfl) ?_))
     refine Bool.and_eq_true_iff.mpr ⟨?_,?_⟩
     ·refine WP H ?_
      repeat (first|with_reducible (refine q9 H ?_;constructor)|simp only[rB,rP,rQ,q8,qa,q7,qb,reduceIte,reduceCtorEq,Nat.reduceAdd,Nat.reduceLT,Nat.reduceEqDiff,UInt8.reduceToNat,pe3,pf3,t0,t4,t5,t20,t21,t22,cS,qg,qh,qi,qj,qD,qK,ze,zo,zM,zP,sl3,Wq,qf,qN,n7,n8,n9]|(with_reducible refine qy H (i:=14) (.take 0 (.take 1 (.take 2 (.take 3 (.take 4 (.take 5 (.take 6 (.take 7 (.take 9 (.take 10 (.take 11 (.take 12 (.take 13 (.take 14 (.alt 8 [4,5,6,7] (.alt 15 [] (.take 16 (.alt 17 [9,10,11,12,13,14,15,16] (.alt 18 [3,4,5,6,7,8,9,10,11,12,13,14,15,16,17] (.alt 19 [0,1,2,3,4,5,6,7,8,9,10,11,12,13,14,15,16,17,18] (.done) (.yes)) (.yes)) (.yes))) (.yes)) (.alt 15 [] (.take 16 (.alt 8 [4,5,6,7] (.alt 17 [9,10,11,12,13,14,15,16] (.alt 18 [3,4,5,6,7,8,9,10,11,12,13,14,15,16,17] (.alt 19 [0,1,2,3,4,5,6,7,8,9,10,11,12,13,14,15,16,17,18] (.done) (.yes)) (.yes)) (.yes)) (.alt 17 [9,10,11,12,13,14,15,16] (.alt 8 [4,5,6,7] (.alt 18 [3,4,5,6,7,8,9,10,11,12,13,14,15,16,17] (.alt 19 [0,1,2,3,4,5,6,7,8,9,10,11,12,13,14,15,16,17,18] (.done) (.yes)) (.yes)) (.yes)) (.yes)))) (.yes))))))))))))))))) rfl (by kernel_rfl) ?_))
      refine qkt H hB6' hu6 hj6 hne6 (fun s6 hnx6 hC6 hB6=>?_)
      obtain⟨hat6,hkeep,q1,q2,q3,q4,q5,q6⟩:=XM (e:=e) RS hB4 hEs4 (by omega) (by omega) (by omega) hatS hown hud hld hK hnx6 hC6 hB6
      have c6:=hkeep _ _ _ cS
      have up6:=Vu (p:=e.1) (j:=s4.nx+1) hat6
      repeat (first|with_reducible (refine q9 H ?_;constructor)|simp only[rB,rP,rQ,q8,qa,q7,qb,reduceIte,reduceCtorEq,Nat.reduceAdd,Nat.reduceLT,Nat.reduceEqDiff,UInt8.reduceToNat,pe3,pf3,t0,t4,t5,t20,t21,t22,cS,c6,up6,qI,ew,qN,ze,zo,zM,zP,n7,n8,n9]|(with_reducible refine qy H (i:=14) (.take 0 (.take 1 (.take 2 (.take 3 (.take 4 (.take 5 (.take 6 (.take 7 (.take 9 (.take 10 (.take 11 (.take 12 (.take 13 (.take 14 (.alt 8 [4,5,6,7] (.alt 15 [] (.take 16 (.alt 17 [9,10,11,12,13,14,15,16] (.alt 18 [3,4,5,6,7,8,9,10,11,12,13,14,15,16,17] (.alt 19 [0,1,2,3,4,5,6,7,8,9,10,11,12,13,14,15,16,17,18] (.done) (.yes)) (.yes)) (.yes))) (.yes)) (.alt 15 [] (.take 16 (.alt 8 [4,5,6,7] (.alt 17 [9,10,11,12,13,14,15,16] (.alt 18 [3,4,5,6,7,8,9,10,11,12,13,14,15,16,17] (.alt 19 [0,1,2,3,4,5,6,7,8,9,10,11,12,13,14,15,16,17,18] (.done) (.yes)) (.yes)) (.yes)) (.alt 17 [9,10,11,12,13,14,15,16] (.alt 8 [4,5,6,7] (.alt 18 [3,4,5,6,7,8,9,10,11,12,13,14,15,16,17] (.alt 19 [0,1,2,3,4,5,6,7,8,9,10,11,12,13,14,15,16,17,18] (.done) (.yes)) (.yes)) (.yes)) (.yes)))) (.yes))))))))))))))))) rfl (by kernel_rfl) ?_))
      exact ih n _ _ (Nat.lt_succ_self n) ⟨k+1,_,_,_,_,some e.1,by omega,by simp only[rB,rP,rQ,q8,qa,q7,qb,reduceIte,reduceCtorEq,Nat.reduceAdd,Nat.reduceLT,Nat.reduceEqDiff,UInt8.reduceToNat,t0],by simp only[rB,rP,rQ,q8,qa,q7,qb,reduceIte,reduceCtorEq,Nat.reduceAdd,Nat.reduceLT,Nat.reduceEqDiff,UInt8.reduceToNat,t4],by simp only[rB,rP,rQ,q8,qa,q7,qb,reduceIte,reduceCtorEq,Nat.reduceAdd,Nat.reduceLT,Nat.reduceEqDiff,UInt8.reduceToNat,t5],by simp only[rB,rP,rQ,q8,qa,q7,qb,reduceIte,reduceCtorEq,Nat.reduceAdd,Nat.reduceLT,Nat.reduceEqDiff,UInt8.reduceToNat,t20],by simp only[rB,rP,rQ,q8,qa,q7,qb,reduceIte,reduceCtorEq,Nat.reduceAdd,Nat.reduceLT,Nat.reduceEqDiff,UInt8.reduceToNat,t21],by simp only[rB,rP,rQ,q8,qa,q7,qb,reduceIte,reduceCtorEq,Nat.reduceAdd,Nat.reduceLT,Nat.reduceEqDiff,UInt8.reduceToNat],q1,q2,q3,q4,q5,Or.inr ⟨e,Nat.succ_pos k,by simpa using hke,rfl,hle⟩,hmany,q6,hrun⟩
     ·repeat (first|with_reducible (refine q9 H ?_;constructor)|simp only[rB,rP,rQ,q8,qa,q7,qb,reduceIte,reduceCtorEq,Nat.reduceAdd,Nat.reduceLT,Nat.reduceEqDiff,UInt8.reduceToNat,pe3,pf3,t0,t4,t5,t20,t21,t22,cS,qg,qh,qi,qj,qD,qK,ze,zo,zM,zP,sl3,Wq,qf,qN,n7,n8,n9]|(with_reducible refine qy H (i:=14) (.take 0 (.take 1 (.take 2 (.take 3 (.take 4 (.take 5 (.take 6 (.take 7 (.take 9 (.take 10 (.take 11 (.take 12 (.take 13 (.take 14 (.alt 8 [4,5,6,7] (.alt 15 [] (.take 16 (.alt 17 [9,10,11,12,13,14,15,16] (.alt 18 [3,4,5,6,7,8,9,10,11,12,13,14,15,16,17] (.alt 19 [0,1,2,3,4,5,6,7,8,9,10,11,12,13,14,15,16,17,18] (.done) (.yes)) (.yes)) (.yes))) (.yes)) (.alt 15 [] (.take 16 (.alt 8 [4,5,6,7] (.alt 17 [9,10,11,12,13,14,15,16] (.alt 18 [3,4,5,6,7,8,9,10,11,12,13,14,15,16,17] (.alt 19 [0,1,2,3,4,5,6,7,8,9,10,11,12,13,14,15,16,17,18] (.done) (.yes)) (.yes)) (.yes)) (.alt 17 [9,10,11,12,13,14,15,16] (.alt 8 [4,5,6,7] (.alt 18 [3,4,5,6,7,8,9,10,11,12,13,14,15,16,17] (.alt 19 [0,1,2,3,4,5,6,7,8,9,10,11,12,13,14,15,16,17,18] (.done) (.yes)) (.yes)) (.yes)) (.yes)))) (.yes))))))))))))))))) rfl (by kernel_rfl) ?_))
      refine Bool.and_eq_true_iff.mpr ⟨?_,?_⟩
      ·refine WP H ?_
       repeat (first|with_reducible (refine q9 H ?_;constructor)|simp only[rB,rP,rQ,q8,qa,q7,qb,reduceIte,reduceCtorEq,Nat.reduceAdd,Nat.reduceLT,Nat.reduceEqDiff,UInt8.reduceToNat,pe3,pf3,t0,t4,t5,t20,t21,t22,cS,qg,qh,qi,qj,qD,qK,ze,zo,zM,zP,sl3,Wq,qf,qN,n7,n8,n9]|(with_reducible refine qy H (i:=14) (.take 0 (.take 1 (.take 2 (.take 3 (.take 4 (.take 5 (.take 6 (.take 7 (.take 9 (.take 10 (.take 11 (.take 12 (.take 13 (.take 14 (.alt 8 [4,5,6,7] (.alt 15 [] (.take 16 (.alt 17 [9,10,11,12,13,14,15,16] (.alt 18 [3,4,5,6,7,8,9,10,11,12,13,14,15,16,17] (.alt 19 [0,1,2,3,4,5,6,7,8,9,10,11,12,13,14,15,16,17,18] (.done) (.yes)) (.yes)) (.yes))) (.yes)) (.alt 15 [] (.take 16 (.alt 8 [4,5,6,7] (.alt 17 [9,10,11,12,13,14,15,16] (.alt 18 [3,4,5,6,7,8,9,10,11,12,13,14,15,16,17] (.alt 19 [0,1,2,3,4,5,6,7,8,9,10,11,12,13,14,15,16,17,18] (.done) (.yes)) (.yes)) (.yes)) (.alt 17 [9,10,11,12,13,14,15,16] (.alt 8 [4,5,6,7] (.alt 18 [3,4,5,6,7,8,9,10,11,12,13,14,15,16,17] (.alt 19 [0,1,2,3,4,5,6,7,8,9,10,11,12,13,14,15,16,17,18] (.done) (.yes)) (.yes)) (.yes)) (.yes)))) (.yes))))))))))))))))) rfl (by kernel_rfl) ?_))
       refine qkt H hB6' hu6 hj6 hne6 (fun s6 hnx6 hC6 hB6=>?_)
       obtain⟨hat6,hkeep,q1,q2,q3,q4,q5,q6⟩:=XM (e:=e) RS hB4 hEs4 (by omega) (by omega) (by omega) hatS hown hud hld hK hnx6 hC6 hB6
       have c6:=hkeep _ _ _ cS
       have up6:=Vu (p:=e.1) (j:=s4.nx+1) hat6
       repeat (first|with_reducible (refine q9 H ?_;constructor)|simp only[rB,rP,rQ,q8,qa,q7,qb,reduceIte,reduceCtorEq,Nat.reduceAdd,Nat.reduceLT,Nat.reduceEqDiff,UInt8.reduceToNat,pe3,pf3,t0,t4,t5,t20,t21,t22,cS,c6,up6,qI,ew,qN,ze,zo,zM,zP,n7,n8,n9]|(with_reducible refine qy H (i:=14) (.take 0 (.take 1 (.take 2 (.take 3 (.take 4 (.take 5 (.take 6 (.take 7 (.take 9 (.take 10 (.take 11 (.take 12 (.take 13 (.take 14 (.alt 8 [4,5,6,7] (.alt 15 [] (.take 16 (.alt 17 [9,10,11,12,13,14,15,16] (.alt 18 [3,4,5,6,7,8,9,10,11,12,13,14,15,16,17] (.alt 19 [0,1,2,3,4,5,6,7,8,9,10,11,12,13,14,15,16,17,18] (.done) (.yes)) (.yes)) (.yes))) (.yes)) (.alt 15 [] (.take 16 (.alt 8 [4,5,6,7] (.alt 17 [9,10,11,12,13,14,15,16] (.alt 18 [3,4,5,6,7,8,9,10,11,12,13,14,15,16,17] (.alt 19 [0,1,2,3,4,5,6,7,8,9,10,11,12,13,14,15,16,17,18] (.done) (.yes)) (.yes)) (.yes)) (.alt 17 [9,10,11,12,13,14,15,16] (.alt 8 [4,5,6,7] (.alt 18 [3,4,5,6,7,8,9,10,11,12,13,14,15,16,17] (.alt 19 [0,1,2,3,4,5,6,7,8,9,10,11,12,13,14,15,16,17,18] (.done) (.yes)) (.yes)) (.yes)) (.yes)))) (.yes))))))))))))))))) rfl (by kernel_rfl) ?_))
       exact ih n _ _ (Nat.lt_succ_self n) ⟨k+1,_,_,_,_,some e.1,by omega,by simp only[rB,rP,rQ,q8,qa,q7,qb,reduceIte,reduceCtorEq,Nat.reduceAdd,Nat.reduceLT,Nat.reduceEqDiff,UInt8.reduceToNat,t0],by simp only[rB,rP,rQ,q8,qa,q7,qb,reduceIte,reduceCtorEq,Nat.reduceAdd,Nat.reduceLT,Nat.reduceEqDiff,UInt8.reduceToNat,t4],by simp only[rB,rP,rQ,q8,qa,q7,qb,reduceIte,reduceCtorEq,Nat.reduceAdd,Nat.reduceLT,Nat.reduceEqDiff,UInt8.reduceToNat,t5],by simp only[rB,rP,rQ,q8,qa,q7,qb,reduceIte,reduceCtorEq,Nat.reduceAdd,Nat.reduceLT,Nat.reduceEqDiff,UInt8.reduceToNat,t20],by simp only[rB,rP,rQ,q8,qa,q7,qb,reduceIte,reduceCtorEq,Nat.reduceAdd,Nat.reduceLT,Nat.reduceEqDiff,UInt8.reduceToNat,t21],by simp only[rB,rP,rQ,q8,qa,q7,qb,reduceIte,reduceCtorEq,Nat.reduceAdd,Nat.reduceLT,Nat.reduceEqDiff,UInt8.reduceToNat],q1,q2,q3,q4,q5,Or.inr ⟨e,Nat.succ_pos k,by simpa using hke,rfl,hle⟩,hmany,q6,hrun⟩
      ·refine WP H ?_
       repeat (first|with_reducible (refine q9 H ?_;constructor)|simp only[rB,rP,rQ,q8,qa,q7,qb,reduceIte,reduceCtorEq,Nat.reduceAdd,Nat.reduceLT,Nat.reduceEqDiff,UInt8.reduceToNat,pe3,pf3,t0,t4,t5,t20,t21,t22,cS,qg,qh,qi,qj,qD,qK,ze,zo,zM,zP,sl3,Wq,qf,qN,n7,n8,n9]|(with_reducible refine qy H (i:=14) (.take 0 (.take 1 (.take 2 (.take 3 (.take 4 (.take 5 (.take 6 (.take 7 (.take 9 (.take 10 (.take 11 (.take 12 (.take 13 (.take 14 (.alt 8 [4,5,6,7] (.alt 15 [] (.take 16 (.alt 17 [9,10,11,12,13,14,15,16] (.alt 18 [3,4,5,6,7,8,9,10,11,12,13,14,15,16,17] (.alt 19 [0,1,2,3,4,5,6,7,8,9,10,11,12,13,14,15,16,17,18] (.done) (.yes)) (.yes)) (.yes))) (.yes)) (.alt 15 [] (.take 16 (.alt 8 [4,5,6,7] (.alt 17 [9,10,11,12,13,14,15,16] (.alt 18 [3,4,5,6,7,8,9,10,11,12,13,14,15,16,17] (.alt 19 [0,1,2,3,4,5,6,7,8,9,10,11,12,13,14,15,16,17,18] (.done) (.yes)) (.yes)) (.yes)) (.alt 17 [9,10,11,12,13,14,15,16] (.alt 8 [4,5,6,7] (.alt 18 [3,4,5,6,7,8,9,10,11,12,13,14,15,16,17] (.alt 19 [0,1,2,3,4,5,6,7,8,9,10,11,12,13,14,15,16,17,18] (.done) (.yes)) (.yes)) (.yes)) (.yes)))) (.yes))))))))))))))))) rfl (by kernel_rfl) ?_))
       refine qkt H hB6' hu6 hj6 hne6 (fun s6 hnx6 hC6 hB6=>?_)
       obtain⟨hat6,hkeep,q1,q2,q3,q4,q5,q6⟩:=XM (e:=e) RS hB4 hEs4 (by omega) (by omega) (by omega) hatS hown hud hld hK hnx6 hC6 hB6
       have c6:=hkeep _ _ _ cS
       have up6:=Vu (p:=e.1) (j:=s4.nx+1) hat6
       repeat (first|with_reducible (refine q9 H ?_;constructor)|simp only[rB,rP,rQ,q8,qa,q7,qb,reduceIte,reduceCtorEq,Nat.reduceAdd,Nat.reduceLT,Nat.reduceEqDiff,UInt8.reduceToNat,pe3,pf3,t0,t4,t5,t20,t21,t22,cS,c6,up6,qI,ew,qN,ze,zo,zM,zP,n7,n8,n9]|(with_reducible refine qy H (i:=14) (.take 0 (.take 1 (.take 2 (.take 3 (.take 4 (.take 5 (.take 6 (.take 7 (.take 9 (.take 10 (.take 11 (.take 12 (.take 13 (.take 14 (.alt 8 [4,5,6,7] (.alt 15 [] (.take 16 (.alt 17 [9,10,11,12,13,14,15,16] (.alt 18 [3,4,5,6,7,8,9,10,11,12,13,14,15,16,17] (.alt 19 [0,1,2,3,4,5,6,7,8,9,10,11,12,13,14,15,16,17,18] (.done) (.yes)) (.yes)) (.yes))) (.yes)) (.alt 15 [] (.take 16 (.alt 8 [4,5,6,7] (.alt 17 [9,10,11,12,13,14,15,16] (.alt 18 [3,4,5,6,7,8,9,10,11,12,13,14,15,16,17] (.alt 19 [0,1,2,3,4,5,6,7,8,9,10,11,12,13,14,15,16,17,18] (.done) (.yes)) (.yes)) (.yes)) (.alt 17 [9,10,11,12,13,14,15,16] (.alt 8 [4,5,6,7] (.alt 18 [3,4,5,6,7,8,9,10,11,12,13,14,15,16,17] (.alt 19 [0,1,2,3,4,5,6,7,8,9,10,11,12,13,14,15,16,17,18] (.done) (.yes)) (.yes)) (.yes)) (.yes)))) (.yes))))))))))))))))) rfl (by kernel_rfl) ?_))
       exact ih n _ _ (Nat.lt_succ_self n) ⟨k+1,_,_,_,_,some e.1,by omega,by simp only[rB,rP,rQ,q8,qa,q7,qb,reduceIte,reduceCtorEq,Nat.reduceAdd,Nat.reduceLT,Nat.reduceEqDiff,UInt8.reduceToNat,t0],by simp only[rB,rP,rQ,q8,qa,q7,qb,reduceIte,reduceCtorEq,Nat.reduceAdd,Nat.reduceLT,Nat.reduceEqDiff,UInt8.reduceToNat,t4],by simp only[rB,rP,rQ,q8,qa,q7,qb,reduceIte,reduceCtorEq,Nat.reduceAdd,Nat.reduceLT,Nat.reduceEqDiff,UInt8.reduceToNat,t5],by simp only[rB,rP,rQ,q8,qa,q7,qb,reduceIte,reduceCtorEq,Nat.reduceAdd,Nat.reduceLT,Nat.reduceEqDiff,UInt8.reduceToNat,t20],by simp only[rB,rP,rQ,q8,qa,q7,qb,reduceIte,reduceCtorEq,Nat.reduceAdd,Nat.reduceLT,Nat.reduceEqDiff,UInt8.reduceToNat,t21],by simp only[rB,rP,rQ,q8,qa,q7,qb,reduceIte,reduceCtorEq,Nat.reduceAdd,Nat.reduceLT,Nat.reduceEqDiff,UInt8.reduceToNat],q1,q2,q3,q4,q5,Or.inr ⟨e,Nat.succ_pos k,by simpa using hke,rfl,hle⟩,hmany,q6,hrun⟩
  ·have g2:decide ((k:Int) > 0)=true:=by rw[decide_eq_true_eq];omega
   obtain⟨id',o',z1,z2,z3,z4,ob,z5,z6⟩:=(hV.ext hB hEs4).idx hke'
   have p1:IntKind.i64.wrap ((k:Int) - 1)=((k - 1:Nat):Int):=by
    rw[show (k:Int) - 1=((k - 1:Nat):Int) from by omega]
    exact qU (by omega)
   simp only at hrun
   repeat (first|with_reducible (refine q9 H ?_;constructor)|simp only[rB,rP,rQ,q8,qa,q7,qb,reduceIte,reduceCtorEq,Nat.reduceAdd,Nat.reduceLT,Nat.reduceEqDiff,UInt8.reduceToNat,pe3,pf3,t0,t4,t5,t20,t21,t22,hm,Bool.not_true,c4,qg,Q6,qD,zm,ze,zD,g2,zf,p1,z1,z3,z4]|(with_reducible refine qy H (i:=8) (.take 0 (.alt 1 [0] (.take 2 (.take 3 (.take 4 (.take 5 (.take 6 (.take 7 (.take 8 (.take 9 (.take 10 (.take 11 (.take 12 (.take 13 (.take 14 (.alt 15 [0,1,2,3,4,5,6,7,8,9,10,11,12,13,14] (.take 16 (.take 17 (.take 18 (.done)))) (.yes))))))))))))))) (.yes))) rfl (by kernel_rfl) ?_))
   refine qp1 H hB4 (by omega) (by omega) (by have:=ZN (b:=e'.1);omega) (by have:=ZN (b:=e.1);omega) (fun s5 hE5 hB5=>?_)
   have hE25:Ext s' s5:=hE24.trans hE5
   have hEs5:Ext s s5:=hE.trans hE25
   have c5:s5.h.get s'.nx=some (.cells (celE e) 34 0):=(hE5.2 _ (hB4 _ _ c4)).trans c4
   have z7:s5.h.get id'=some ob:=(hE5.2 _ (hB4 _ _ z5)).trans z5
   cases hbf:decide (YF e'.1 e.1 < 0) with
   | false =>
    rw[hbf] at hrun
    repeat (first|with_reducible (refine q9 H ?_;constructor)|simp only[rB,rP,rQ,q8,qa,q7,qb,reduceIte,reduceCtorEq,Nat.reduceAdd,Nat.reduceLT,Nat.reduceEqDiff,UInt8.reduceToNat,pe3,pf3,t0,t4,t5,t20,t21,t22,c4,c5,z5,z6,z7,qN,hbf,Bool.not_false,Tryz.results50]|(with_reducible refine qy H (i:=8) (.take 0 (.alt 1 [0] (.take 2 (.take 3 (.take 4 (.take 5 (.take 6 (.take 7 (.take 8 (.take 9 (.take 10 (.take 11 (.take 12 (.take 13 (.take 14 (.alt 15 [0,1,2,3,4,5,6,7,8,9,10,11,12,13,14] (.take 16 (.take 17 (.take 18 (.done)))) (.yes))))))))))))))) (.yes))) rfl (by kernel_rfl) ?_))
    exact hf s5 (by rw[hrun];rfl) hEs5 hB5
   | true =>
   rw[hbf,cond_true] at hrun
   have hVS:=hV.ext hB hEs5
   have RS:=R.extS hB' hE25
   have hatS:s5.h.get s1.nx=some (.map (zQ (zk ι K))):=(hE25.2 _ (hB' _ _ hat)).trans hat
   have cS:s5.h.get s'.nx=some (.cells (celE e) 34 0):=c5
   have lk:=qlo (p:=e.1.take (Z8 e.1)) hatS
   have ia:∀ b,inO (s5.h.get s1.nx) b=b:=fun b=>by rw[hatS];rfl
   rw[K6] at lk
   repeat (first|with_reducible (refine q9 H ?_;constructor)|simp only[rB,rP,rQ,q8,qa,q7,qb,reduceIte,reduceCtorEq,Nat.reduceAdd,Nat.reduceLT,Nat.reduceEqDiff,UInt8.reduceToNat,pe3,pf3,t0,t4,t5,t20,t21,t22,hm,Bool.not_true,cS,qg,qD,zm,ze,zo,zM,zP,zD,g2,c4,c5,z5,z6,z7,qN,hbf]|(with_reducible refine qy H (i:=8) (.take 0 (.alt 1 [0] (.take 2 (.take 3 (.take 4 (.take 5 (.take 6 (.take 7 (.take 8 (.take 9 (.take 10 (.take 11 (.take 12 (.take 13 (.take 14 (.alt 15 [0,1,2,3,4,5,6,7,8,9,10,11,12,13,14] (.take 16 (.take 17 (.take 18 (.done)))) (.yes))))))))))))))) (.yes))) rfl (by kernel_rfl) ?_))
   refine qhz H (b:=e.1) (c:=47) (by omega) ?_
   cases hlk:qM (e.1.take (Z8 e.1)) K with
   | none =>
    rw[hlk] at lk hrun
    simp only[Option.map_none,qi5] at lk
    repeat (first|with_reducible (refine q9 H ?_;constructor)|simp only[rB,rP,rQ,q8,qa,q7,qb,reduceIte,reduceCtorEq,Nat.reduceAdd,Nat.reduceLT,Nat.reduceEqDiff,UInt8.reduceToNat,pe3,pf3,t0,t4,t5,t20,t21,t22,cS,qg,qD,zm,ze,zo,zM,zP,JR,sl2,lk,ia,qwa,qjh,qs7,ZY,Tryz.results50])
    exact hf s5 (by rw[hrun]) hEs5 hB5
   | some u =>
    rw[hlk] at lk hrun
    simp only[Option.map_some,qi5] at lk
    obtain⟨ud,hud⟩:=qdp (M:=M) (k:=u) (qbk hK hlk)
    simp only[hud] at hrun
    have hnd:=RS.nd u ud hud
    have hn1:=hnd.1
    unfold ndA Nd.to at hn1
    cases hkd:ud.kind != 1 with
    | true =>
     rw[hkd] at hrun
     repeat (first|with_reducible (refine q9 H ?_;constructor)|simp only[rB,rP,rQ,q8,qa,q7,qb,reduceIte,reduceCtorEq,Nat.reduceAdd,Nat.reduceLT,Nat.reduceEqDiff,UInt8.reduceToNat,pe3,pf3,t0,t4,t5,t20,t21,t22,cS,qg,qD,zm,ze,zo,zM,zP,JR,sl2,lk,ia,WD,XJ,WH,qK,hn1,qH,hkd,Tryz.results50])
     exact hf s5 (by rw[hrun];rfl) hEs5 hB5
    | false =>
     rw[hkd,cond_false] at hrun
     repeat (first|with_reducible (refine q9 H ?_;constructor)|simp only[rB,rP,rQ,q8,qa,q7,qb,reduceIte,reduceCtorEq,Nat.reduceAdd,Nat.reduceLT,Nat.reduceEqDiff,UInt8.reduceToNat,pe3,pf3,t0,t4,t5,t20,t21,t22,cS,qg,qD,zm,ze,zo,zM,zP,JR,sl2,lk,ia,WD,XJ,WH,qK,hn1,qH,hkd])
     have hnS:s5.h.get (μ u)=some (.map (zQ (zk ι ud.kids))):=hnd.2
     have hul:=Y1 hud
     have hlu:=RS.li hB5 hul
     have hlm:=RS.lm hB5 hul
     have hs7:s'.nx < s5.nx:=hB5 _ _ cS
     have n7:(s'.nx=s5.nx)=False:=by simp;omega
     have n8:(s'.nx=s5.nx+1)=False:=by simp;omega
     have n9:(s5.nx=s5.nx+1)=False:=by simp
     have hE6':Ext s5 ((s5.alloc (.map [])).alloc (ndA ⟨e.2.1,e.2.2.1,e.2.2.2,[],none,[],s5.nx⟩)):=(Ext.alloc _ _).trans (Ext.alloc _ _)
     have hB6':qc ((s5.alloc (.map [])).alloc (ndA ⟨e.2.1,e.2.2.1,e.2.2.2,[],none,[],s5.nx⟩)):=qx (qx hB5 _) _
     have hu6:qvb ((s5.alloc (.map [])).alloc (ndA ⟨e.2.1,e.2.2.1,e.2.2.2,[],none,[],s5.nx⟩)) (ι u) (ud.to ι (μ u)):=⟨(hE6'.2 _ hlu).trans hnd.1,(hE6'.2 _ hlm).trans hnd.2⟩
     have hj6:((s5.alloc (.map [])).alloc (ndA ⟨e.2.1,e.2.2.1,e.2.2.2,[],none,[],s5.nx⟩)).h.get (s5.nx+1)=some (ndA ⟨e.2.1,e.2.2.1,e.2.2.2,[],none,[],s5.nx⟩):=qu
     have ew:IntKind.i64.wrap ((k:Int)+1)=((k+1:Nat):Int):=by
      rw[show (k:Int)+1=((k+1:Nat):Int) from by simp]
      exact qU (by omega)
     have hne6:ι u≠s5.nx+1:=by omega
     repeat (first|with_reducible (refine q9 H ?_;constructor)|simp only[rB,rP,rQ,q8,qa,q7,qb,reduceIte,reduceCtorEq,Nat.reduceAdd,Nat.reduceLT,Nat.reduceEqDiff,UInt8.reduceToNat,pe3,pf3,t0,t4,t5,t20,t21,t22,cS,qg,qh,qi,qj,qD,qK,ze,zo,zM,zP,sl3,Wq,qf,qN,n7,n8,n9]|(with_reducible refine qy H (i:=14) (.take 0 (.take 1 (.take 2 (.take 3 (.take 4 (.take 5 (.take 6 (.take 7 (.take 9 (.take 10 (.take 11 (.take 12 (.take 13 (.take 14 (.alt 8 [4,5,6,7] (.alt 15 [] (.take 16 (.alt 17 [9,10,11,12,13,14,15,16] (.alt 18 [3,4,5,6,7,8,9,10,11,12,13,14,15,16,17] (.alt 19 [0,1,2,3,4,5,6,7,8,9,10,11,12,13,14,15,16,17,18] (.done) (.yes)) (.yes)) (.yes))) (.yes)) (.alt 15 [] (.take 16 (.alt 8 [4,5,6,7] (.alt 17 [9,10,11,12,13,14,15,16] (.alt 18 [3,4,5,6,7,8,9,10,11,12,13,14,15,16,17] (.alt 19 [0,1,2,3,4,5,6,7,8,9,10,11,12,13,14,15,16,17,18] (.done) (.yes)) (.yes)) (.yes)) (.alt 17 [9,10,11,12,13,14,15,16] (.alt 8 [4,5,6,7] (.alt 18 [3,4,5,6,7,8,9,10,11,12,13,14,15,16,17] (.alt 19 [0,1,2,3,4,5,6,7,8,9,10,11,12,13,14,15,16,17,18] (.done) (.yes)) (.yes)) (.yes)) (.yes)))) (.yes))))))))))))))))) rfl (by kernel_rfl) ?_))
     refine Bool.and_eq_true_iff.mpr ⟨?_,?_⟩
     ·refine WP H ?_
      repeat (first|with_reducible (refine q9 H ?_;constructor)|simp only[rB,rP,rQ,q8,qa,q7,qb,reduceIte,reduceCtorEq,Nat.reduceAdd,Nat.reduceLT,Nat.reduceEqDiff,UInt8.reduceToNat,pe3,pf3,t0,t4,t5,t20,t21,t22,cS,qg,qh,qi,qj,qD,qK,ze,zo,zM,zP,sl3,Wq,qf,qN,n7,n8,n9]|(with_reducible refine qy H (i:=14) (.take 0 (.take 1 (.take 2 (.take 3 (.take 4 (.take 5 (.take 6 (.take 7 (.take 9 (.take 10 (.take 11 (.take 12 (.take 13 (.take 14 (.alt 8 [4,5,6,7] (.alt 15 [] (.take 16 (.alt 17 [9,10,11,12,13,14,15,16] (.alt 18 [3,4,5,6,7,8,9,10,11,12,13,14,15,16,17] (.alt 19 [0,1,2,3,4,5,6,7,8,9,10,11,12,13,14,15,16,17,18] (.done) (.yes)) (.yes)) (.yes))) (.yes)) (.alt 15 [] (.take 16 (.alt 8 [4,5,6,7] (.alt 17 [9,10,11,12,13,14,15,16] (.alt 18 [3,4,5,6,7,8,9,10,11,12,13,14,15,16,17] (.alt 19 [0,1,2,3,4,5,6,7,8,9,10,11,12,13,14,15,16,17,18] (.done) (.yes)) (.yes)) (.yes)) (.alt 17 [9,10,11,12,13,14,15,16] (.alt 8 [4,5,6,7] (.alt 18 [3,4,5,6,7,8,9,10,11,12,13,14,15,16,17] (.alt 19 [0,1,2,3,4,5,6,7,8,9,10,11,12,13,14,15,16,17,18] (.done) (.yes)) (.yes)) (.yes)) (.yes)))) (.yes))))))))))))))))) rfl (by kernel_rfl) ?_))
      refine qkt H hB6' hu6 hj6 hne6 (fun s6 hnx6 hC6 hB6=>?_)
      obtain⟨hat6,hkeep,q1,q2,q3,q4,q5,q6⟩:=XM (e:=e) RS hB5 hEs5 (by omega) (by omega) (by omega) hatS hown hud hld hK hnx6 hC6 hB6
      have c6:=hkeep _ _ _ cS
      have up6:=Vu (p:=e.1) (j:=s5.nx+1) hat6
      repeat (first|with_reducible (refine q9 H ?_;constructor)|simp only[rB,rP,rQ,q8,qa,q7,qb,reduceIte,reduceCtorEq,Nat.reduceAdd,Nat.reduceLT,Nat.reduceEqDiff,UInt8.reduceToNat,pe3,pf3,t0,t4,t5,t20,t21,t22,cS,c6,up6,qI,ew,qN,ze,zo,zM,zP,n7,n8,n9]|(with_reducible refine qy H (i:=14) (.take 0 (.take 1 (.take 2 (.take 3 (.take 4 (.take 5 (.take 6 (.take 7 (.take 9 (.take 10 (.take 11 (.take 12 (.take 13 (.take 14 (.alt 8 [4,5,6,7] (.alt 15 [] (.take 16 (.alt 17 [9,10,11,12,13,14,15,16] (.alt 18 [3,4,5,6,7,8,9,10,11,12,13,14,15,16,17] (.alt 19 [0,1,2,3,4,5,6,7,8,9,10,11,12,13,14,15,16,17,18] (.done) (.yes)) (.yes)) (.yes))) (.yes)) (.alt 15 [] (.take 16 (.alt 8 [4,5,6,7] (.alt 17 [9,10,11,12,13,14,15,16] (.alt 18 [3,4,5,6,7,8,9,10,11,12,13,14,15,16,17] (.alt 19 [0,1,2,3,4,5,6,7,8,9,10,11,12,13,14,15,16,17,18] (.done) (.yes)) (.yes)) (.yes)) (.alt 17 [9,10,11,12,13,14,15,16] (.alt 8 [4,5,6,7] (.alt 18 [3,4,5,6,7,8,9,10,11,12,13,14,15,16,17] (.alt 19 [0,1,2,3,4,5,6,7,8,9,10,11,12,13,14,15,16,17,18] (.done) (.yes)) (.yes)) (.yes)) (.yes)))) (.yes))))))))))))))))) rfl (by kernel_rfl) ?_))
      exact ih n _ _ (Nat.lt_succ_self n) ⟨k+1,_,_,_,_,some e.1,by omega,by simp only[rB,rP,rQ,q8,qa,q7,qb,reduceIte,reduceCtorEq,Nat.reduceAdd,Nat.reduceLT,Nat.reduceEqDiff,UInt8.reduceToNat,t0],by simp only[rB,rP,rQ,q8,qa,q7,qb,reduceIte,reduceCtorEq,Nat.reduceAdd,Nat.reduceLT,Nat.reduceEqDiff,UInt8.reduceToNat,t4],by simp only[rB,rP,rQ,q8,qa,q7,qb,reduceIte,reduceCtorEq,Nat.reduceAdd,Nat.reduceLT,Nat.reduceEqDiff,UInt8.reduceToNat,t5],by simp only[rB,rP,rQ,q8,qa,q7,qb,reduceIte,reduceCtorEq,Nat.reduceAdd,Nat.reduceLT,Nat.reduceEqDiff,UInt8.reduceToNat,t20],by simp only[rB,rP,rQ,q8,qa,q7,qb,reduceIte,reduceCtorEq,Nat.reduceAdd,Nat.reduceLT,Nat.reduceEqDiff,UInt8.reduceToNat,t21],by simp only[rB,rP,rQ,q8,qa,q7,qb,reduceIte,reduceCtorEq,Nat.reduceAdd,Nat.reduceLT,Nat.reduceEqDiff,UInt8.reduceToNat],q1,q2,q3,q4,q5,Or.inr ⟨e,Nat.succ_pos k,by simpa using hke,rfl,hle⟩,hmany,q6,hrun⟩
     ·repeat (first|with_reducible (refine q9 H ?_;constructor)|simp only[rB,rP,rQ,q8,qa,q7,qb,reduceIte,reduceCtorEq,Nat.reduceAdd,Nat.reduceLT,Nat.reduceEqDiff,UInt8.reduceToNat,pe3,pf3,t0,t4,t5,t20,t21,t22,cS,qg,qh,qi,qj,qD,qK,ze,zo,zM,zP,sl3,Wq,qf,qN,n7,n8,n9]|(with_reducible refine qy H (i:=14) (.take 0 (.take 1 (.take 2 (.take 3 (.take 4 (.take 5 (.take 6 (.take 7 (.take 9 (.take 10 (.take 11 (.take 12 (.take 13 (.take 14 (.alt 8 [4,5,6,7] (.alt 15 [] (.take 16 (.alt 17 [9,10,11,12,13,14,15,16] (.alt 18 [3,4,5,6,7,8,9,10,11,12,13,14,15,16,17] (.alt 19 [0,1,2,3,4,5,6,7,8,9,10,11,12,13,14,15,16,17,18] (.done) (.yes)) (.yes)) (.yes))) (.yes)) (.alt 15 [] (.take 16 (.alt 8 [4,5,6,7] (.alt 17 [9,10,11,12,13,14,15,16] (.alt 18 [3,4,5,6,7,8,9,10,11,12,13,14,15,16,17] (.alt 19 [0,1,2,3,4,5,6,7,8,9,10,11,12,13,14,15,16,17,18] (.done) (.yes)) (.yes)) (.yes)) (.alt 17 [9,10,11,12,13,14,15,16] (.alt 8 [4,5,6,7] (.alt 18 [3,4,5,6,7,8,9,10,11,12,13,14,15,16,17] (.alt 19 [0,1,2,3,4,5,6,7,8,9,10,11,12,13,14,15,16,17,18] (.done) (.yes)) (.yes)) (.yes)) (.yes)))) (.yes))))))))))))))))) rfl (by kernel_rfl) ?_))
      refine Bool.and_eq_true_iff.mpr ⟨?_,?_⟩
      ·refine WP H ?_
       repeat (first|with_reducible (refine q9 H ?_;constructor)|simp only[rB,rP,rQ,q8,qa,q7,qb,reduceIte,reduceCtorEq,Nat.reduceAdd,Nat.reduceLT,Nat.reduceEqDiff,UInt8.reduceToNat,pe3,pf3,t0,t4,t5,t20,t21,t22,cS,qg,qh,qi,qj,qD,qK,ze,zo,zM,zP,sl3,Wq,qf,qN,n7,n8,n9]|(with_reducible refine qy H (i:=14) (.take 0 (.take 1 (.take 2 (.take 3 (.take 4 (.take 5 (.take 6 (.take 7 (.take 9 (.take 10 (.take 11 (.take 12 (.take 13 (.take 14 (.alt 8 [4,5,6,7] (.alt 15 [] (.take 16 (.alt 17 [9,10,11,12,13,14,15,16] (.alt 18 [3,4,5,6,7,8,9,10,11,12,13,14,15,16,17] (.alt 19 [0,1,2,3,4,5,6,7,8,9,10,11,12,13,14,15,16,17,18] (.done) (.yes)) (.yes)) (.yes))) (.yes)) (.alt 15 [] (.take 16 (.alt 8 [4,5,6,7] (.alt 17 [9,10,11,12,13,14,15,16] (.alt 18 [3,4,5,6,7,8,9,10,11,12,13,14,15,16,17] (.alt 19 [0,1,2,3,4,5,6,7,8,9,10,11,12,13,14,15,16,17,18] (.done) (.yes)) (.yes)) (.yes)) (.alt 17 [9,10,11,12,13,14,15,16] (.alt 8 [4,5,6,7] (.alt 18 [3,4,5,6,7,8,9,10,11,12,13,14,15,16,17] (.alt 19 [0,1,2,3,4,5,6,7,8,9,10,11,12,13,14,15,16,17,18] (.done) (.yes)) (.yes)) (.yes)) (.yes)))) (.yes))))))))))))))))) rfl (by kernel_rfl) ?_))
       refine qkt H hB6' hu6 hj6 hne6 (fun s6 hnx6 hC6 hB6=>?_)
       obtain⟨hat6,hkeep,q1,q2,q3,q4,q5,q6⟩:=XM (e:=e) RS hB5 hEs5 (by omega) (by omega) (by omega) hatS hown hud hld hK hnx6 hC6 hB6
       have c6:=hkeep _ _ _ cS
       have up6:=Vu (p:=e.1) (j:=s5.nx+1) hat6
       repeat (first|with_reducible (refine q9 H ?_;constructor)|simp only[rB,rP,rQ,q8,qa,q7,qb,reduceIte,reduceCtorEq,Nat.reduceAdd,Nat.reduceLT,Nat.reduceEqDiff,UInt8.reduceToNat,pe3,pf3,t0,t4,t5,t20,t21,t22,cS,c6,up6,qI,ew,qN,ze,zo,zM,zP,n7,n8,n9]|(with_reducible refine qy H (i:=14) (.take 0 (.take 1 (.take 2 (.take 3 (.take 4 (.take 5 (.take 6 (.take 7 (.take 9 (.take 10 (.take 11 (.take 12 (.take 13 (.take 14 (.alt 8 [4,5,6,7] (.alt 15 [] (.take 16 (.alt 17 [9,10,11,12,13,14,15,16] (.alt 18 [3,4,5,6,7,8,9,10,11,12,13,14,15,16,17] (.alt 19 [0,1,2,3,4,5,6,7,8,9,10,11,12,13,14,15,16,17,18] (.done) (.yes)) (.yes)) (.yes))) (.yes)) (.alt 15 [] (.take 16 (.alt 8 [4,5,6,7] (.alt 17 [9,10,11,12,13,14,15,16] (.alt 18 [3,4,5,6,7,8,9,10,11,12,13,14,15,16,17] (.alt 19 [0,1,2,3,4,5,6,7,8,9,10,11,12,13,14,15,16,17,18] (.done) (.yes)) (.yes)) (.yes)) (.alt 17 [9,10,11,12,13,14,15,16] (.alt 8 [4,5,6,7] (.alt 18 [3,4,5,6,7,8,9,10,11,12,13,14,15,16,17] (.alt 19 [0,1,2,3,4,5,6,7,8,9,10,11,12,13,14,15,16,17,18] (.done) (.yes)) (.yes)) (.yes)) (.yes)))) (.yes))))))))))))))))) rfl (by kernel_rfl) ?_))
       exact ih n _ _ (Nat.lt_succ_self n) ⟨k+1,_,_,_,_,some e.1,by omega,by simp only[rB,rP,rQ,q8,qa,q7,qb,reduceIte,reduceCtorEq,Nat.reduceAdd,Nat.reduceLT,Nat.reduceEqDiff,UInt8.reduceToNat,t0],by simp only[rB,rP,rQ,q8,qa,q7,qb,reduceIte,reduceCtorEq,Nat.reduceAdd,Nat.reduceLT,Nat.reduceEqDiff,UInt8.reduceToNat,t4],by simp only[rB,rP,rQ,q8,qa,q7,qb,reduceIte,reduceCtorEq,Nat.reduceAdd,Nat.reduceLT,Nat.reduceEqDiff,UInt8.reduceToNat,t5],by simp only[rB,rP,rQ,q8,qa,q7,qb,reduceIte,reduceCtorEq,Nat.reduceAdd,Nat.reduceLT,Nat.reduceEqDiff,UInt8.reduceToNat,t20],by simp only[rB,rP,rQ,q8,qa,q7,qb,reduceIte,reduceCtorEq,Nat.reduceAdd,Nat.reduceLT,Nat.reduceEqDiff,UInt8.reduceToNat,t21],by simp only[rB,rP,rQ,q8,qa,q7,qb,reduceIte,reduceCtorEq,Nat.reduceAdd,Nat.reduceLT,Nat.reduceEqDiff,UInt8.reduceToNat],q1,q2,q3,q4,q5,Or.inr ⟨e,Nat.succ_pos k,by simpa using hke,rfl,hle⟩,hmany,q6,hrun⟩
      ·refine WP H ?_
       repeat (first|with_reducible (refine q9 H ?_;constructor)|simp only[rB,rP,rQ,q8,qa,q7,qb,reduceIte,reduceCtorEq,Nat.reduceAdd,Nat.reduceLT,Nat.reduceEqDiff,UInt8.reduceToNat,pe3,pf3,t0,t4,t5,t20,t21,t22,cS,qg,qh,qi,qj,qD,qK,ze,zo,zM,zP,sl3,Wq,qf,qN,n7,n8,n9]|(with_reducible refine qy H (i:=14) (.take 0 (.take 1 (.take 2 (.take 3 (.take 4 (.take 5 (.take 6 (.take 7 (.take 9 (.take 10 (.take 11 (.take 12 (.take 13 (.take 14 (.alt 8 [4,5,6,7] (.alt 15 [] (.take 16 (.alt 17 [9,10,11,12,13,14,15,16] (.alt 18 [3,4,5,6,7,8,9,10,11,12,13,14,15,16,17] (.alt 19 [0,1,2,3,4,5,6,7,8,9,10,11,12,13,14,15,16,17,18] (.done) (.yes)) (.yes)) (.yes))) (.yes)) (.alt 15 [] (.take 16 (.alt 8 [4,5,6,7] (.alt 17 [9,10,11,12,13,14,15,16] (.alt 18 [3,4,5,6,7,8,9,10,11,12,13,14,15,16,17] (.alt 19 [0,1,2,3,4,5,6,7,8,9,10,11,12,13,14,15,16,17,18] (.done) (.yes)) (.yes)) (.yes)) (.alt 17 [9,10,11,12,13,14,15,16] (.alt 8 [4,5,6,7] (.alt 18 [3,4,5,6,7,8,9,10,11,12,13,14,15,16,17] (.alt 19 [0,1,2,3,4,5,6,7,8,9,10,11,12,13,14,15,16,17,18] (.done) (.yes)) (.yes)) (.yes)) (.yes)))) (.yes))))))))))))))))) rfl (by kernel_rfl) ?_))
       refine qkt H hB6' hu6 hj6 hne6 (fun s6 hnx6 hC6 hB6=>?_)
       obtain⟨hat6,hkeep,q1,q2,q3,q4,q5,q6⟩:=XM (e:=e) RS hB5 hEs5 (by omega) (by omega) (by omega) hatS hown hud hld hK hnx6 hC6 hB6
       have c6:=hkeep _ _ _ cS
       have up6:=Vu (p:=e.1) (j:=s5.nx+1) hat6
       repeat (first|with_reducible (refine q9 H ?_;constructor)|simp only[rB,rP,rQ,q8,qa,q7,qb,reduceIte,reduceCtorEq,Nat.reduceAdd,Nat.reduceLT,Nat.reduceEqDiff,UInt8.reduceToNat,pe3,pf3,t0,t4,t5,t20,t21,t22,cS,c6,up6,qI,ew,qN,ze,zo,zM,zP,n7,n8,n9]|(with_reducible refine qy H (i:=14) (.take 0 (.take 1 (.take 2 (.take 3 (.take 4 (.take 5 (.take 6 (.take 7 (.take 9 (.take 10 (.take 11 (.take 12 (.take 13 (.take 14 (.alt 8 [4,5,6,7] (.alt 15 [] (.take 16 (.alt 17 [9,10,11,12,13,14,15,16] (.alt 18 [3,4,5,6,7,8,9,10,11,12,13,14,15,16,17] (.alt 19 [0,1,2,3,4,5,6,7,8,9,10,11,12,13,14,15,16,17,18] (.done) (.yes)) (.yes)) (.yes))) (.yes)) (.alt 15 [] (.take 16 (.alt 8 [4,5,6,7] (.alt 17 [9,10,11,12,13,14,15,16] (.alt 18 [3,4,5,6,7,8,9,10,11,12,13,14,15,16,17] (.alt 19 [0,1,2,3,4,5,6,7,8,9,10,11,12,13,14,15,16,17,18] (.done) (.yes)) (.yes)) (.yes)) (.alt 17 [9,10,11,12,13,14,15,16] (.alt 8 [4,5,6,7] (.alt 18 [3,4,5,6,7,8,9,10,11,12,13,14,15,16,17] (.alt 19 [0,1,2,3,4,5,6,7,8,9,10,11,12,13,14,15,16,17,18] (.done) (.yes)) (.yes)) (.yes)) (.yes)))) (.yes))))))))))))))))) rfl (by kernel_rfl) ?_))
       exact ih n _ _ (Nat.lt_succ_self n) ⟨k+1,_,_,_,_,some e.1,by omega,by simp only[rB,rP,rQ,q8,qa,q7,qb,reduceIte,reduceCtorEq,Nat.reduceAdd,Nat.reduceLT,Nat.reduceEqDiff,UInt8.reduceToNat,t0],by simp only[rB,rP,rQ,q8,qa,q7,qb,reduceIte,reduceCtorEq,Nat.reduceAdd,Nat.reduceLT,Nat.reduceEqDiff,UInt8.reduceToNat,t4],by simp only[rB,rP,rQ,q8,qa,q7,qb,reduceIte,reduceCtorEq,Nat.reduceAdd,Nat.reduceLT,Nat.reduceEqDiff,UInt8.reduceToNat,t5],by simp only[rB,rP,rQ,q8,qa,q7,qb,reduceIte,reduceCtorEq,Nat.reduceAdd,Nat.reduceLT,Nat.reduceEqDiff,UInt8.reduceToNat,t20],by simp only[rB,rP,rQ,q8,qa,q7,qb,reduceIte,reduceCtorEq,Nat.reduceAdd,Nat.reduceLT,Nat.reduceEqDiff,UInt8.reduceToNat,t21],by simp only[rB,rP,rQ,q8,qa,q7,qb,reduceIte,reduceCtorEq,Nat.reduceAdd,Nat.reduceLT,Nat.reduceEqDiff,UInt8.reduceToNat],q1,q2,q3,q4,q5,Or.inr ⟨e,Nat.succ_pos k,by simpa using hke,rfl,hle⟩,hmany,q6,hrun⟩
theorem q82 {s:St} (H:Ok TE Tryz.prog pr3) (hB:qc s) {V:AV} {es:List En} (hV:EsV s V es) (hp:∀ e∈es,e.1.length≤1048575) (hn0:es.length < 1000000000) {kr kp:AV→St→Bool}
  (hk:∀ s' x M,ofT es=some M→Ext s s'→World s' x M []→s.nx≤x→kr (.tuple [.ptr x 0,.raw (.int .i64 0)]) s'=true)
  (hf:∀ s',ofT es=none→Ext s s'→qc s'→kr (.tuple [.raw (.pointer none),.raw (.int .i64 500)]) s'=true) :
  (sem Tryz.prog).call 50 [V] s kr kp=true :=
 q6n H hB hV hp hn0 (fun s' x M h1 h2 h3=>hk s' x M h1 h2 h3.world h3.2.1) hf
end Go.AX
