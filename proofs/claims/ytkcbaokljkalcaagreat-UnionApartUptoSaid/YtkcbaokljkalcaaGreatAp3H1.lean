import Derived.Test.YtkcbaokljkalcaaGreatAp3C4
import Derived.Test.YtkcbaokljkalcaaGreatAp3C1
import Derived.Test.YtkcbaokljkalcaaGreatAp3C2
set_option linter.unusedVariables false
set_option linter.unusedSimpArgs false
set_option linter.defProp false
namespace Go.AX
open Go.Proofs Go.RowKit
set_option maxRecDepth 1000000
set_option maxHeartbeats 40000000
set_option linter.unusedSimpArgs false
set_option linter.unusedVariables false
def okO:AO→Bool
 | .cells _ el _=>!(Nat.beq el 29||Nat.beq el 34)
 | _=>true
def Fx (b:Nat) (s s':St):Prop:=s.nx≤s'.nx∧(∀ i o,s.h.get i=some o→okO o=true→s'.h.get i=some o)∧∀ i,i < b→s'.h.get i=s.h.get i
theorem Fx.refl {b:Nat} (s:St):Fx b s s:=⟨Nat.le_refl _,fun _ _ h _=>h,fun _ _=>rfl⟩
theorem Fx.trans {b:Nat} {s s' s'':St} (h:Fx b s s') (h':Fx b s' s''):Fx b s s'':=⟨Nat.le_trans h.1 h'.1,fun i o e k=>h'.2.1 i o (h.2.1 i o e k) k,fun i hi=>(h'.2.2 i hi).trans (h.2.2 i hi)⟩
theorem Fx.of {b:Nat} {s s':St} (hb:b≤s.nx) (hB:qb s) (h:Ext s s'):Fx b s s':=⟨h.1,fun i o e _=>(h.2 i (hB _ _ e)).trans e,fun i hi=>h.2 i (by omega)⟩
theorem RepT.fx {b:Nat} {s s':St} {T:zi} (h:RepT s T) (f:Fx b s s'):RepT s' T:=fun i nd hi=>⟨f.2.1 _ _ (h i nd hi).1 rfl,f.2.1 _ _ (h i nd hi).2 rfl⟩
theorem SlV.fx {b:Nat} {s s':St} {V:AV} {names:List (List Nat)} (h:SlV s V names) (f:Fx b s s'):SlV s' V names:=by
 rcases h with h|h|⟨id,off,ci,cap,ex,cs,fz,h1,h2,h3⟩
 ·exact Or.inl h
 ·exact Or.inr (Or.inl h)
 ·exact Or.inr (Or.inr ⟨id,off,ci,cap,ex,cs,fz,h1,f.2.1 _ _ h2 rfl,h3⟩)
abbrev En:=List Nat × Int × Int × List Nat
def qf7 (p:List Nat) (nd:Nd):En:=(p,nd.kind,nd.mode,nd.data)
def Qm:List En→List AV
 | []=>[]
 | e::l=>.str e.1::.raw (.int .i64 e.2.1)::.raw (.int .i64 e.2.2.1)::.str e.2.2.2::Qm l
theorem qe6:∀ {l:List En},(Qm l).length=l.length * 4
 | []=>rfl
 | e::l=>by simp only[Qm,List.length_cons,qe6 (l:=l)];omega
theorem qev:∀ {l r:List En},Qm (l++r)=Qm l++Qm r
 | [],_=>rfl
 | e::l,r=>by simp only[List.cons_append,Qm,qev (l:=l)]
def ErB (b:Nat) (s:St) (V:AV) (acc:List En):Prop:=(V=nilS∧acc=[])∨∃ id,b≤id∧V=.slice id 0 acc.length 0 acc.length false∧s.h.get id=some (.cells (Qm acc) 34 8)
noncomputable def elE:TI:=(TE.info 34).getD default
theorem qo1:elE.size=4:=by kernel_rfl
theorem qiq:elE.bytes=48:=by kernel_rfl
theorem qvp {s:St} {V X:AV}:Z9 TE s [29,29] [V,X]=(match qi4 X with
 | none=>none
 | some n =>
  match YD s 4 n X with
  | none=>none
  | some new=>bif Nat.beq new.length (n * 4)&&new.all AV.one then X6 s 34 elE V n new else none):=by kernel_rfl
theorem qs9 {b:Nat} {s:St} (hb:b≤s.nx) (hB:qb s) {V:AV} {acc:List En} (h:ErB b s V acc) (hl:acc.length≤20000) {e:En} {q:Nat} (hq:s.h.get q=some (.cells (Qm [e]) 34 0)) :
  ∃ V' s',Z9 TE s [29,29] [V,.slice q 0 1 0 1 true]=some (V',s')∧ErB b s' V' (acc++[e])∧Fx b s s'∧qb s'∧(∀ i o,s.h.get i=some o→(match o with | .cells _ el _=>Nat.beq el 34|_=>false)=false→s'.h.get i=some o)∧V'.cells=[V']∧V'.one=true:=by
 have e0:YD s 4 1 (.slice q 0 1 0 1 true)=some (Qm [e]):=by simp[YD,W7 hq,Qm,Yn,YN,JR]
 have e1:(Qm [e]).all AV.one=true:=rfl
 rw[qvp]
 simp only[qi4,e0,e1]
 show ∃ V' s',X6 s 34 elE V 1 (Qm [e])=some (V',s')∧_
 rcases h with⟨rfl,rfl⟩|⟨id,hbi,rfl,hg⟩
 ·refine⟨.slice s.nx 0 1 0 1 false,s.alloc (.cells (Qm [e]) 34 8),?_,Or.inr ⟨s.nx,hb,rfl,qt⟩,Fx.of hb hB (Ext.alloc s _),?_,fun i o hi _=>(zm (by have:=hB _ _ hi;omega)).trans hi,rfl,rfl⟩
  ·simp only[nilS,X6,qo1,qiq]
   rfl
  ·intro i x hx
   show i < s.nx+1
   by_cases e:i=s.nx
   ·omega
   ·have:=hB _ _ ((zm e).symm.trans hx)
    omega
 ·have b1:Nat.ble (acc.length+1) acc.length=false:=by rw[← Bool.not_eq_true,Nat.ble_eq];omega
  have b2:Nat.ble ((acc.length+1) * 48) 134217728=true:=Nat.ble_eq.mpr (by omega)
  have b3:Nat.ble (acc.length+1) 1048576=true:=Nat.ble_eq.mpr (by omega)
  have b4:Yn 0 (acc.length * 4) (Qm acc)=some (Qm acc):=by rw[← qe6];exact XW (Nat.le_refl _) |>.trans (by rw[List.take_length])
  have hid:=hB _ _ hg
  refine⟨.slice s.nx 0 (acc.length+1) 0 (acc.length+1) false,{ h:=(s.h.del id).set s.nx (.cells (Qm acc++Qm [e]) 34 8),nx:=s.nx+1 },?_,Or.inr ⟨s.nx,hb,by simp,?_⟩,?_,?_,?_,rfl,rfl⟩
  ·simp only[X6,W7 hg,b1,cond_false,qo1,qiq,b2,b3,b4,Bool.and_self,cond_true,Nat.zero_mul]
   rfl
  ·rw[qev]
   exact hs_same
  ·refine⟨Nat.le_succ _,fun i o hi ho=>?_,fun i hi=>?_⟩
   ·have hi':=hB _ _ hi
    have n1:i≠id:=by
     intro e
     subst e
     rw[hg] at hi
     cases hi
     cases ho
    show ((s.h.del id).set s.nx _).get i=_
    rw[qa (by omega),Tr.get_del,if_neg n1]
    exact hi
   ·show ((s.h.del id).set s.nx _).get i=_
    rw[qa (by omega),Tr.get_del,if_neg (by omega)]
  ·intro i x hx
   show i < s.nx+1
   by_cases e:i=s.nx
   ·omega
   ·have hx':((s.h.del id).set s.nx (.cells (Qm acc++Qm [_]) 34 8)).get i=some x:=hx
    rw[qa e,Tr.get_del] at hx'
    by_cases e2:i=id
    ·rw[if_pos e2] at hx'
     cases hx'
    ·rw[if_neg e2] at hx'
     have:=hB _ _ hx'
     omega
  ·intro i o hi ho
   have hi':=hB _ _ hi
   have n1:i≠id:=by
    intro e
    subst e
    rw[hg] at hi
    cases hi
    cases ho
   show ((s.h.del id).set s.nx _).get i=_
   rw[qa (by omega),Tr.get_del,if_neg n1]
   exact hi
theorem q6c {p d:List Nat} {k m:Int}:Qq TE 34 [(0,.str p),(1,.raw (.int .i64 k)),(2,.raw (.int .i64 m)),(3,.str d)]=some (.agg [.str p,.raw (.int .i64 k),.raw (.int .i64 m),.str d]):=by kernel_rfl
theorem qzg {s:St} {p d:List Nat} {k m:Int}:Q6 TE s 29 1 [(0,.agg [.str p,.raw (.int .i64 k),.raw (.int .i64 m),.str d])]=some (.slice s.nx 0 1 0 1 true,s.alloc (.cells [.str p,.raw (.int .i64 k),.raw (.int .i64 m),.str d] 34 0)):=by kernel_rfl
theorem q22 {b:Nat} {s:St} (H:Ok TE Tryz.prog pr3) (hb:b≤s.nx) (hB:qb s) {oid:Nat} {V:AV} {acc:List En} (hbo:b≤oid) (ho:s.h.get oid=some (.cells [V] 29 0)) (hV:ErB b s V acc) (hl:acc.length≤20000) {x:Nat} {nd:Nd} (hn:qfz s x nd) {p:List Nat} {kr kp:AV→St→Bool}
  (hk:∀ s' V',Fx b s s'→qb s'→s'.h.get oid=some (.cells [V'] 29 0)→ErB b s' V' (acc++[qf7 p nd])→kr (.tuple []) s'=true) :
  (sem Tryz.prog).call 86 [.str p,.ptr x 0,.ptr oid 0] s kr kp=true:=by
 refine qk H 22 q53 rfl rfl ?_
 have hn1:=hn.1
 unfold ndA at hn1
 have hoid:=hB _ _ ho
 have hx:=hB _ _ hn1
 have m1:(oid=s.nx)=False:=by simp;omega
 have m2:(x=s.nx)=False:=by simp;omega
 have hVV:beqA V V=true:=by
  rcases hV with⟨rfl,_⟩|⟨id,_,rfl,_⟩
  ·rfl
  ·simp[beqA]
 have hB1:qb (s.alloc (.cells (Qm [qf7 p nd]) 34 0)):=by
  intro i y hy
  show i < s.nx+1
  by_cases e:i=s.nx
  ·omega
  ·have:=hB _ _ ((zm e).symm.trans hy)
   omega
 have hV1:ErB b (s.alloc (.cells (Qm [qf7 p nd]) 34 0)) V acc:=by
  rcases hV with h|⟨id,h0,h1,h2⟩
  ·exact Or.inl h
  ·exact Or.inr ⟨id,h0,h1,(zm (by have:=hB _ _ h2;omega)).trans h2⟩
 obtain⟨V',s',ea,hV',hF,hB',hkeep,w1,w2⟩:=qs9 (b:=b) (by show b≤s.nx+1;omega) hB1 hV1 hl (e:=qf7 p nd) (q:=s.nx) qt
 have ho1:s'.h.get oid=some (.cells [V] 29 0):=hkeep _ _ ((zm (by omega)).trans ho) rfl
 simp only[Qm,qf7] at ea
 repeat (first|with_reducible (refine q9 H ?_;constructor)|simp only[rB,rP,rQ,q8,reduceIte,Nat.reduceAdd,Nat.reduceLT,Nat.reduceEqDiff,pe3,pf3,qkg,ho,hn1,Qe,JV,YF,qD,qA,q6c,qzg,hVV,m1,m2,ea,q33 _ _ _ _ w1 w2,ho1,Tryz.results86]|(with_reducible refine qq H (i:=0) (.take 0 (.take 1 (.take 2 (.take 3 (.take 4 (.take 5 (.take 6 (.take 7 (.take 8 (.take 9 (.take 10 (.take 11 (.take 12 (.take 13 (.take 14 (.alt 15 [1,2,3,4,5,6,7,8,9,10,11,12,13,14] (.alt 16 [0,1,2,3,4,5,6,7,8,9,10,11,12,13,14,15] (.alt 17 [0,1,2,3,4,5,6,7,8,9,10,11,12,13,14,15,16] (.done) (.yes)) (.yes)) (.yes))))))))))))))))) rfl (by kernel_rfl) ?_))
 have F1:=(Fx.of hb hB (Ext.alloc s (.cells (Qm [qf7 p nd]) 34 0))).trans hF
 refine hk _ V' ⟨F1.1,fun i o hi ho'=>?_,fun i hi=>?_⟩ (fun i y hy=>?_) hs_same ?_
 ·have n1:i≠oid:=by
   intro e
   subst e
   rw[ho] at hi
   cases hi
   cases ho'
  show (s'.h.set oid _).get i=_
  rw[qa n1]
  exact F1.2.1 i o hi ho'
 ·show (s'.h.set oid _).get i=_
  rw[qa (by omega)]
  exact F1.2.2 i hi
 ·show i < s'.nx
  by_cases e:i=oid
  ·rw[e]
   exact hB' _ _ ho1
  ·have hy':(s'.h.set oid (.cells [V'] 29 0)).get i=some y:=hy
   rw[qa e] at hy'
   exact hB' _ _ hy'
 ·rcases hV' with h|⟨id,h0,h1,h2⟩
  ·exact Or.inl h
  ·refine Or.inr ⟨id,h0,h1,?_⟩
   show (s'.h.set oid _).get id=_
   rw[qa (fun e=>?_)]
   ·exact h2
   ·rw[e,ho1] at h2
    simp only[Option.some.injEq,AO.cells.injEq] at h2
    exact absurd h2.2.1 (by decide)
def K8 (T:zi) (below:Nat→List Nat→Option (List En)) (kids:List (List Nat × Nat)) (p:List Nat):List (List Nat)→Option (List En)
 | []=>some []
 | nm::l=>match ql nm kids with
  | none=>none
  | some j=>bif Nat.ble (p.length+nm.length) 1000000 then (match T j with
   | none=>none
   | some nd=>match below j (zd p nm) with
    | none=>none
    | some es=>match K8 T below kids p l with
     | none=>none
     | some r=>some (qf7 (zd p nm) nd::(es++r)))
   else none
def J6 (T:zi):Nat→Nat→List Nat→Option (List En)
 | 0,_,_=>none
 | f+1,i,p=>match T i with
  | none=>none
  | some nd=>match ZD nd.kids with
   | none=>none
   | some names=>K8 T (J6 T f) nd.kids p names
theorem qtb (H:Ok TE Tryz.prog pr3) {T:zi} {oid b:Nat} (hbo:b≤oid):∀ {f i:Nat} {p:List Nat} {es acc:List En} {V:AV} {s:St} {kr kp:AV→St→Bool},J6 T f i p=some es→RepT s T→b≤s.nx→qb s→s.h.get oid=some (.cells [V] 29 0)→ErB b s V acc→acc.length+es.length≤20000 →
  (∀ s' V',Fx b s s'→qb s'→s'.h.get oid=some (.cells [V'] 29 0)→ErB b s' V' (acc++es)→kr (.tuple []) s'=true) →
  (sem Tryz.prog).call 85 [.ptr i 0,.str p,.fn 86 [.ptr oid 0]] s kr kp=true
 | 0,_,_,_,_,_,_,_,_,h,_,_,_,_,_,_,_=>by cases h
 | f+1,i,p,es,acc,V0,s,kr,kp,h,hT,hb,hB,ho,hV0,hlen,hk=>by
  simp only[J6] at h
  cases hi:T i with
  | none=>rw[hi] at h;cases h
  | some nd =>
  rw[hi] at h
  simp only at h
  cases hso:ZD nd.kids with
  | none=>rw[hso] at h;cases h
  | some names =>
  rw[hso] at h
  simp only at h
  refine qk H 38 qz0 rfl rfl ?_
  repeat (first|with_reducible (refine q9 H ?_;constructor)|simp only[rB,rP,rQ,q8,reduceIte,Nat.reduceAdd,Nat.reduceLT,Nat.reduceEqDiff,pe3,pf3])
  refine qg3 H hB (hT i nd hi) hso (fun V s1 hV hE hB1=>?_)
  have vl:=hV.len
  have vi:=hV.ids
  have hnl:names.length≤1000000:=by
   unfold ZD at hso
   cases hc:(qlh (Q0 (nd.kids.map (·.1)))&&Nat.ble (Q0 (nd.kids.map (·.1))).length 1000000&&J5 (Q0 (nd.kids.map (·.1)))) with
   | false=>rw[hc] at hso;cases hso
   | true =>
    rw[hc] at hso
    simp only[cond_true,Option.some.injEq] at hso
    subst hso
    simp only[Bool.and_eq_true] at hc
    exact Nat.le_of_ble_eq_true hc.1.2
  have ho1:s1.h.get oid=some (.cells [V0] 29 0):=(hE.2 _ (hB _ _ ho)).trans ho
  have hV1:ErB b s1 V0 acc:=by
   rcases hV0 with h|⟨id,h0,h1,h2⟩
   ·exact Or.inl h
   ·exact Or.inr ⟨id,h0,h1,(hE.2 _ (hB _ _ h2)).trans h2⟩
  have hF1:=Fx.of hb hB hE
  repeat (first|with_reducible (refine q9 H ?_;constructor)|simp only[rB,rP,rQ,q8,reduceIte,Nat.reduceAdd,Nat.reduceLT,Nat.reduceEqDiff,pe3,pf3,vl,vi])
  refine qZ H (fun n t s'=>∃ (k:Nat) (V2:AV) (acc2 rest:List En),n+k=names.length∧tg t 0=.ptr i 0∧tg t 1=.str p∧tg t 2=.fn 86 [.ptr oid 0]∧tg t 10=V∧tg t 11=.raw (.int .i64 (names.length:Int))∧tg t 12=.raw (.int .i64 (k:Int))∧Fx b s1 s'∧qb s'∧s'.h.get oid=some (.cells [V2] 29 0)∧ErB b s' V2 acc2∧K8 T (J6 T f) nd.kids p (names.drop k)=some rest∧acc++es=acc2++rest)
   ⟨0,V0,acc,es,rfl,by simp only[rB,rP,rQ,q8,reduceIte,Nat.reduceAdd,Nat.reduceLT,Nat.reduceEqDiff],by simp only[rB,rP,rQ,q8,reduceIte,Nat.reduceAdd,Nat.reduceLT,Nat.reduceEqDiff],by simp only[rB,rP,rQ,q8,reduceIte,Nat.reduceAdd,Nat.reduceLT,Nat.reduceEqDiff],by simp only[rB,rP,rQ,q8,reduceIte,Nat.reduceAdd,Nat.reduceLT,Nat.reduceEqDiff],by simp only[rB,rP,rQ,q8,reduceIte,Nat.reduceAdd,Nat.reduceLT,Nat.reduceEqDiff],by simp only[rB,rP,rQ,q8,reduceIte,Nat.reduceAdd,Nat.reduceLT,Nat.reduceEqDiff];rfl,Fx.refl s1,hB1,ho1,hV1,h,rfl⟩ ?_
  rintro n t s2 ih ⟨k,V2,acc2,rest,hk0,t0,t1,t2,t10,t11,t12,hF2,hB2,ho2,hV2,hbb,hac⟩
  cases n with
  | zero =>
   have g0:decide ((k:Int) < (names.length:Int))=false:=by rw[decide_eq_false_iff_not];omega
   rw[List.drop_eq_nil_of_le (by omega)] at hbb
   simp only[K8,Option.some.injEq] at hbb
   subst hbb
   rw[List.append_nil] at hac
   subst hac
   repeat (first|with_reducible (refine q9 H ?_;constructor)|simp only[rB,rP,rQ,q8,reduceIte,Nat.reduceAdd,Nat.reduceLT,Nat.reduceEqDiff,pe3,pf3,t0,t1,t2,t10,t11,t12,zX,g0,Tryz.results85])
   exact hk s2 V2 (hF1.trans hF2) hB2 ho2 hV2
  | succ n =>
   have hlt:k < names.length:=by omega
   have g0:decide ((k:Int) < (names.length:Int))=true:=by rw[decide_eq_true_eq];omega
   rw[List.drop_eq_getElem_cons hlt] at hbb
   obtain⟨id,o,x1,x2,ob,x3⟩:=(hV.fx hF2).idx (p:=names[k]) (j:=k) (List.getElem?_eq_getElem hlt)
   have x2':ldO (s2.h.get id) o=some (.str names[k]):=by rw[← Kb];exact x2
   have x4':∀ b,inO (s2.h.get id) b=b:=fun b=>by rw[x3];rfl
   generalize names[k]=nm at *
   simp only[K8] at hbb
   have hT2:=(hT.fx hF1).fx hF2
   obtain⟨hn,hm⟩:=hT2 i nd hi
   have lk:=Yq (p:=nm) hm
   cases hlk:ql nm nd.kids with
   | none=>rw[hlk] at hbb;cases hbb
   | some j =>
   rw[hlk] at hbb lk
   simp only at hbb
   cases hbd:Nat.ble (p.length+nm.length) 1000000 with
   | false=>rw[hbd] at hbb;cases hbb
   | true =>
   rw[hbd,cond_true] at hbb
   cases hj:T j with
   | none=>rw[hj] at hbb;cases hbb
   | some jd =>
   rw[hj] at hbb
   simp only at hbb
   cases he:J6 T f j (zd p nm) with
   | none=>rw[he] at hbb;cases hbb
   | some es1 =>
   rw[he] at hbb
   simp only at hbb
   cases hr:K8 T (J6 T f) nd.kids p (names.drop (k+1)) with
   | none=>rw[hr] at hbb;cases hbb
   | some r =>
   rw[hr] at hbb
   simp only[Option.some.injEq] at hbb
   subst hbb
   have hlen2:acc2.length+(es1.length+r.length)+1≤20000:=by
    have:=congrArg List.length hac
    simp only[List.length_append,List.length_cons] at this
    omega
   have ej:=fun {r a dst k kp}=>Yg (r:=r) (a:=a) (dst:=dst) (s:=s2) (k:=k) (kp:=kp) hbd
   repeat (first|with_reducible (refine q9 H ?_;constructor)|simp only[rB,rP,rQ,q8,reduceIte,Nat.reduceAdd,Nat.reduceLT,Nat.reduceEqDiff,pe3,pf3,t0,t1,t2,t10,t11,t12,zX,g0,x1,qA,x2',x4',ej,Q8,qI,hn,hm,ndA,lk,QI])
   have hb2:b≤s2.nx:=Nat.le_trans (Nat.le_trans hb hE.1) hF2.1
   refine q22 H hb2 hB2 hbo ho2 hV2 (by omega) (hT2 j jd hj) (fun s3 V3 hF3 hB3 ho3 hV3=>?_)
   obtain⟨hn3,hm3⟩:=(hT2.fx hF3) i nd hi
   have lk3:=Yq (p:=nm) hm3
   rw[hlk] at lk3
   repeat (first|with_reducible (refine q9 H ?_;constructor)|simp only[rB,rP,rQ,q8,reduceIte,Nat.reduceAdd,Nat.reduceLT,Nat.reduceEqDiff,pe3,pf3,t0,t1,t2,t10,t11,t12,Q8,qI,hn3,hm3,ndA,lk3,QI])
   refine qtb H hbo he (hT2.fx hF3) (Nat.le_trans hb2 hF3.1) hB3 ho3 hV3 (by simp;omega) (fun s4 V4 hF4 hB4 ho4 hV4=>?_)
   have ew:IntKind.i64.wrap ((k:Int)+1)=((k+1:Nat):Int):=by
    rw[show (k:Int)+1=((k+1:Nat):Int) from by simp]
    exact qM (by omega)
   repeat (first|with_reducible (refine q9 H ?_;constructor)|simp only[rB,rP,rQ,q8,reduceIte,Nat.reduceAdd,Nat.reduceLT,Nat.reduceEqDiff,pe3,pf3,t0,t1,t2,t10,t11,t12,qO,ew])
   exact ih n _ _ (Nat.lt_succ_self n) ⟨k+1,V4,_,r,by omega,by simp only[rB,rP,rQ,q8,reduceIte,Nat.reduceAdd,Nat.reduceLT,Nat.reduceEqDiff,t0],by simp only[rB,rP,rQ,q8,reduceIte,Nat.reduceAdd,Nat.reduceLT,Nat.reduceEqDiff,t1],by simp only[rB,rP,rQ,q8,reduceIte,Nat.reduceAdd,Nat.reduceLT,Nat.reduceEqDiff,t2],by simp only[rB,rP,rQ,q8,reduceIte,Nat.reduceAdd,Nat.reduceLT,Nat.reduceEqDiff,t10],by simp only[rB,rP,rQ,q8,reduceIte,Nat.reduceAdd,Nat.reduceLT,Nat.reduceEqDiff,t11],by simp only[rB,rP,rQ,q8,reduceIte,Nat.reduceAdd,Nat.reduceLT,Nat.reduceEqDiff],(hF2.trans hF3).trans hF4,hB4,ho4,hV4,hr,by rw[hac];simp⟩
theorem World.fx {b:Nat} {s s':St} {x:Nat} {M:Md} {L:List (Nat × AO)} (h:World s x M L) (hL:∀ q∈L,okO q.2=true) (f:Fx b s s') (hB':qb s'):World s' x M L:=by
 obtain⟨hB,ι,μ,R,hq⟩:=h
 refine⟨hB',ι,μ,⟨fun k nd hk=>⟨f.2.1 _ _ (R.nd k nd hk).1 rfl,f.2.1 _ _ (R.nd k nd hk).2 rfl⟩,f.2.1 _ _ R.tr rfl,R.ij,R.mj,R.kd,R.up,R.rt,R.cw,R.f8,R.fd,R.mn,R.da⟩,fun q hm=>⟨f.2.1 _ _ (hq q hm).1 (hL q hm),(hq q hm).2⟩⟩
theorem q2x {s:St} {i j:Nat} {d:Option (AV × List Nat)}:eqS TE s .eql 72 (.ptr i j) (.raw (.pointer none)) d=some (.raw (.bool false),[]):=by kernel_rfl
theorem q45 {x:Nat}:qn TE 120 (.ptr x 0) 0=some (.ptr x 0):=by kernel_rfl
theorem qzm {s:St}:Qz TE s 29=some (.ptr s.nx 0,s.alloc (.cells [nilS] 29 0)):=by
 have:zA TE 29=some nilS:=by kernel_rfl
 simp only[Qz,this];rfl
theorem qii {i:Nat→Nat} {T0 T:zi} (H:Hom i T0 T) {below below':Nat→List Nat→Option (List En)} (hb:∀ j p b,below j p=some b→below' (i j) p=some b) {kids:List (List Nat × Nat)} {p:List Nat}:∀ {l:List (List Nat)} {es:List En},K8 T0 below kids p l=some es→K8 T below' (qP i kids) p l=some es
 | [],es,h=>h
 | nm::l,es,h=>by
  simp only[K8,QG] at h ⊢
  cases hl:ql nm kids with
  | none=>rw[hl] at h;cases h
  | some j =>
   rw[hl] at h
   simp only[Option.map_some] at h ⊢
   cases hx:Nat.ble (p.length+nm.length) 1000000 with
   | false=>rw[hx] at h;cases h
   | true =>
    rw[hx] at h
    simp only[cond_true] at h ⊢
    cases hj:T0 j with
    | none=>rw[hj] at h;cases h
    | some nd =>
     obtain⟨mp,hm⟩:=H j nd hj
     rw[hj] at h
     rw[hm]
     simp only at h ⊢
     cases hq:below j (zd p nm) with
     | none=>rw[hq] at h;cases h
     | some e1 =>
      rw[hq] at h
      rw[hb _ _ _ hq]
      simp only at h ⊢
      cases hr:K8 T0 below kids p l with
      | none=>rw[hr] at h;cases h
      | some r =>
       rw[hr] at h
       rw[qii H hb hr]
       exact h
theorem qjf {i:Nat→Nat} {T0 T:zi} (H:Hom i T0 T):∀ {f k:Nat} {p:List Nat} {es:List En},J6 T0 f k p=some es→J6 T f (i k) p=some es
 | 0,_,_,_,h=>by cases h
 | f+1,k,p,es,h=>by
  simp only[J6] at h ⊢
  cases hk:T0 k with
  | none=>rw[hk] at h;cases h
  | some nd =>
   obtain⟨mp,hm⟩:=H k nd hk
   rw[hk] at h
   rw[hm]
   simp only[Qg,Kj] at h ⊢
   cases hs:ZD nd.kids with
   | none=>rw[hs] at h;cases h
   | some names=>rw[hs] at h;exact qii H (fun j p b hj=>qjf H hj) h
theorem qj9 {s:St} (H:Ok TE Tryz.prog pr3) {x:Nat} {M:Md} {L:List (Nat × AO)} (hW:World s x M L) {es:List En} (h:J6 M.T 20 M.root []=some es) (hl:es.length≤20000) {kr kp:AV→St→Bool}
  (hk:∀ s' V,Ext s s'→qb s'→ErB s.nx s' V es→kr V s'=true) :
  (sem Tryz.prog).call 47 [.ptr x 0] s kr kp=true:=by
 refine qk H 13 q3z rfl rfl ?_
 have hW1:=World.alloc hW (.cells [nilS] 29 0)
 have hW':=hW
 obtain⟨hB,ι,μ,R,hq⟩:=hW'
 have hx:=R.tr
 unfold trA at hx
 have hxl:=hB _ _ hx
 have m1:(x=s.nx)=False:=by simp;omega
 have hp:=qjf R.hom h
 have hT:=R.rep.ext hB (Ext.alloc s (.cells [nilS] 29 0))
 repeat (first|with_reducible (refine q9 H ?_;constructor)|simp only[rB,rP,rQ,q8,reduceIte,Nat.reduceAdd,Nat.reduceLT,Nat.reduceEqDiff,pe3,pf3,Zh,q2x,q45,qK,hx,qzm,m1])
 refine qtb (b:=s.nx) H (Nat.le_refl _) hp hT (Nat.le_succ _) hW1.1 qt (Or.inl ⟨rfl,rfl⟩) (by simpa using hl) (fun s' V hF hB' ho hV=>?_)
 repeat (first|with_reducible (refine q9 H ?_;constructor)|simp only[rB,rP,rQ,q8,reduceIte,Nat.reduceAdd,Nat.reduceLT,Nat.reduceEqDiff,pe3,pf3,qkg,ho,Tryz.results47])
 exact hk s' V ⟨Nat.le_trans (Nat.le_succ _) hF.1,fun i hi=>(hF.2.2 i hi).trans (zm (by omega))⟩ hB' hV
theorem ix_b {b:List Nat} {i c:Nat} (h:b[i]?=some c):XM TE 9 (.str b) (.raw (.int .i64 (i:Int)))=some (.raw (.int .u8 (c:Int))):=by
 have e:XM TE 9 (.str b) (.raw (.int .i64 (i:Int)))=(match b[i]? with|some c=>some (.raw (.int .u8 (.ofNat c)))|none=>none):=by kernel_rfl
 rw[e,h]
 rfl
def Zj (b:List Nat) (c:Nat):Nat→Int
 | 0=>-1
 | n+1=>bif (match b[n]? with|some x=>Nat.beq x c|none=>false) then (n:Int) else Zj b c n
theorem qz8 {s:St} (H:Ok TE Tryz.prog pr3) {b:List Nat} {c:Nat} (hb:b.length≤1000000) {kr kp:AV→St→Bool} (hk:kr (.raw (.int .i64 (Zj b c b.length))) s=true) :
  (sem Tryz.prog).call 129 [.str b,.raw (.int .u8 (c:Int))] s kr kp=true:=by
 refine qk H 19 q1c rfl rfl ?_
 have e0:IntKind.i64.wrap ((b.length:Int) - 1)=(b.length:Int) - 1:=Go.IntWalk.i64_in _ (by omega)
 repeat (first|with_reducible (refine q9 H ?_;constructor)|simp only[rB,rQ,q8,qf,q7,qc,reduceIte,Nat.reduceLT,Nat.reduceEqDiff,pe3,pf3,qx,zj,e0])
 refine qZ H (fun n t s'=>n≤b.length∧s'=s∧tg t 0=.str b∧tg t 1=.raw (.int .u8 (c:Int))∧tg t 5=.raw (.int .i64 ((n:Int) - 1))∧Zj b c b.length=Zj b c n) (n:=b.length)
  ⟨Nat.le_refl _,rfl,by simp only[rB,rQ,q8,qf,q7,qc,reduceIte,Nat.reduceLT,Nat.reduceEqDiff],by simp only[rB,rQ,q8,qf,q7,qc,reduceIte,Nat.reduceLT,Nat.reduceEqDiff],by simp only[rB,rQ,q8,qf,q7,qc,reduceIte,Nat.reduceLT,Nat.reduceEqDiff],rfl⟩ ?_
 rintro n t s' ih ⟨hn,rfl,t0,t1,t5,hl⟩
 cases n with
 | zero =>
  have g0:decide (((0:Nat):Int) - 1 ≥ 0)=false:=rfl
  rw[hl] at hk
  repeat (first|with_reducible (refine q9 H ?_;constructor)|simp only[rB,rQ,q8,qf,q7,qc,reduceIte,Nat.reduceLT,Nat.reduceEqDiff,pe3,pf3,t0,t1,t5,Zl,g0,Tryz.results129])
  exact hk
 | succ n =>
  have e1:((n+1:Nat):Int) - 1=(n:Int):=by omega
  rw[e1] at t5
  have g0:decide ((n:Int) ≥ 0)=true:=by rw[decide_eq_true_eq];omega
  have hx:b[n]?=some b[n]:=List.getElem?_eq_getElem (by omega)
  generalize b[n]=x at hx
  have ix:=ix_b hx
  simp only[Zj,hx] at hl
  cases hc:Nat.beq x c with
  | true =>
   have hxc:=Nat.eq_of_beq_eq_true hc
   subst hxc
   rw[hc,cond_true] at hl
   rw[hl] at hk
   repeat (first|with_reducible (refine q9 H ?_;constructor)|simp only[rB,rQ,q8,qf,q7,qc,reduceIte,Nat.reduceLT,Nat.reduceEqDiff,pe3,pf3,t0,t1,t5,Zl,g0,ix,qh,beq_self_eq_true,Tryz.results129])
   exact hk
  | false =>
   rw[hc,cond_false] at hl
   have g1:((x:Int)==(c:Int))=false:=by
    rw[beq_eq_false_iff_ne]
    intro e
    have:x=c:=by omega
    rw[this,Nat.beq_refl] at hc
    cases hc
   have e2:IntKind.i64.wrap ((n:Int) - 1)=(n:Int) - 1:=Go.IntWalk.i64_in _ (by omega)
   repeat (first|with_reducible (refine q9 H ?_;constructor)|simp only[rB,rQ,q8,qf,q7,qc,reduceIte,Nat.reduceLT,Nat.reduceEqDiff,pe3,pf3,t0,t1,t5,Zl,g0,ix,qh,g1,zj,e2])
   exact ih n _ _ (Nat.lt_succ_self n) ⟨by omega,rfl,by simp only[rB,rQ,q8,qf,q7,qc,reduceIte,Nat.reduceLT,Nat.reduceEqDiff,t0],by simp only[rB,rQ,q8,qf,q7,qc,reduceIte,Nat.reduceLT,Nat.reduceEqDiff,t1],by simp only[rB,rQ,q8,qf,q7,qc,reduceIte,Nat.reduceLT,Nat.reduceEqDiff],hl⟩
theorem qgl {s:St} (H:Ok TE Tryz.prog pr3) {b:List Nat} {c:Nat} (hb:b.length≤1000000) {kr kp:AV→St→Bool} (hk:kr (.raw (.int .i64 (Zj b c b.length))) s=true) :
  (sem Tryz.prog).call 92 [.str b,.raw (.int .u8 (c:Int))] s kr kp=true:=by
 refine qk H 8 q6l rfl rfl ?_
 repeat (first|with_reducible (refine q9 H ?_;constructor)|simp only[rB,rQ,q8,qf,q7,qc,reduceIte,Nat.reduceLT,Nat.reduceEqDiff,pe3,pf3])
 refine qz8 H hb ?_
 repeat (first|with_reducible (refine q9 H ?_;constructor)|simp only[rB,rQ,q8,qf,q7,qc,reduceIte,Nat.reduceLT,Nat.reduceEqDiff,pe3,pf3,Tryz.results92])
 exact hk
def qok (a b:List Nat):Int:=bif ltB a b then -1 else bif !(ltB a b||eqB a b) then 1 else 0
theorem qts {a b:List Nat}:qN .lss (.str a) (.str b)=some (q8 (ltB a b)):=(rfl)
theorem qyt {a b:List Nat}:qN .gtr (.str a) (.str b)=some (q8 (!(ltB a b||eqB a b))):=(rfl)
theorem q1i {s:St} (H:Ok TE Tryz.prog pr3) {a:List Nat} {kr kp:AV→St→Bool} (hk:kr (.raw (.bool false)) s=true):(sem Tryz.prog).call 180 [.str a] s kr kp=true:=by
 refine qk H 6 qzn rfl rfl ?_
 have e:qN .neq (.str a) (.str a)=some (.raw (.bool false)):=by
  show some (q8 (!eqB a a))=_
  rw[qU]
  rfl
 repeat (first|with_reducible (refine q9 H ?_;constructor)|simp only[rB,rQ,q8,qf,q7,qc,reduceIte,Nat.reduceLT,Nat.reduceEqDiff,pe3,pf3,e,Tryz.results180])
 exact hk
theorem q27 {s:St} (H:Ok TE Tryz.prog pr3) {a b:List Nat} {kr kp:AV→St→Bool} (hk:kr (.raw (.int .i64 (qok a b))) s=true):(sem Tryz.prog).call 164 [.str a,.str b] s kr kp=true:=by
 refine qk H 20 qyf rfl rfl ?_
 unfold qok at hk
 repeat (first|with_reducible (refine q9 H ?_;constructor)|simp only[rB,rQ,q8,qf,q7,qc,reduceIte,Nat.reduceLT,Nat.reduceEqDiff,pe3,pf3])
 refine q1i H ?_
 repeat (first|with_reducible (refine q9 H ?_;constructor)|simp only[rB,rQ,q8,qf,q7,qc,reduceIte,Nat.reduceLT,Nat.reduceEqDiff,pe3,pf3])
 refine q1i H ?_
 cases h1:ltB a b with
 | true =>
  rw[h1] at hk
  repeat (first|with_reducible (refine q9 H ?_;constructor)|simp only[rB,rQ,q8,qf,q7,qc,reduceIte,Nat.reduceLT,Nat.reduceEqDiff,pe3,pf3,qts,h1,Tryz.results164])
  exact hk
 | false =>
  rw[h1] at hk
  cases h2:eqB a b with
  | true =>
   rw[h2] at hk
   repeat (first|with_reducible (refine q9 H ?_;constructor)|simp only[rB,rQ,q8,qf,q7,qc,reduceIte,Nat.reduceLT,Nat.reduceEqDiff,pe3,pf3,qts,qyt,h1,h2,Bool.or_true,Bool.false_or,Bool.not_true,Tryz.results164])
   exact hk
  | false =>
   rw[h2] at hk
   repeat (first|with_reducible (refine q9 H ?_;constructor)|simp only[rB,rQ,q8,qf,q7,qc,reduceIte,Nat.reduceLT,Nat.reduceEqDiff,pe3,pf3,qts,qyt,h1,h2,Bool.or_false,Bool.false_or,Bool.not_false,Tryz.results164])
   exact hk
def qpl:List (List Nat)→List (List Nat)→Int
 | [],[]=>0
 | [],_::_=>-1
 | _::_,[]=>1
 | a::x,b::y=>bif qok a b==0 then qpl x y else qok a b
theorem qyc {s:St} (H:Ok TE Tryz.prog pr3) {V1 V2:AV} {l1 l2:List (List Nat)} (h1:SlV s V1 l1) (h2:SlV s V2 l2) (n1:l1.length≤1000000) (n2:l2.length≤1000000) {kr kp:AV→St→Bool} (hk:kr (.raw (.int .i64 (qpl l1 l2))) s=true) :
  (sem Tryz.prog).call 140 [V1,V2] s kr kp=true:=by
 refine qk H 36 qzp rfl rfl ?_
 have v1:=h1.len
 have v2:=h2.len
 have d1:=h1.ids
 have d2:=h2.ids
 repeat (first|with_reducible (refine q9 H ?_;constructor)|simp only[rB,rQ,q8,qf,q7,qc,reduceIte,Nat.reduceAdd,Nat.reduceLT,Nat.reduceEqDiff,pe3,pf3,v1,v2,d1,d2])
 refine qZ H (fun n t s'=>∃ (k:Nat),n+k=l1.length∧k≤l2.length∧s'=s∧tg t 0=V1∧tg t 1=V2∧tg t 9=V1∧tg t 10=.raw (.int .i64 (l1.length:Int))∧tg t 11=.raw (.int .i64 (k:Int))∧qpl l1 l2=qpl (l1.drop k) (l2.drop k)) (n:=l1.length)
  ⟨0,rfl,Nat.zero_le _,rfl,by simp only[rB,rQ,q8,qf,q7,qc,reduceIte,Nat.reduceAdd,Nat.reduceLT,Nat.reduceEqDiff],by simp only[rB,rQ,q8,qf,q7,qc,reduceIte,Nat.reduceAdd,Nat.reduceLT,Nat.reduceEqDiff],by simp only[rB,rQ,q8,qf,q7,qc,reduceIte,Nat.reduceAdd,Nat.reduceLT,Nat.reduceEqDiff],by simp only[rB,rQ,q8,qf,q7,qc,reduceIte,Nat.reduceAdd,Nat.reduceLT,Nat.reduceEqDiff],by simp only[rB,rQ,q8,qf,q7,qc,reduceIte,Nat.reduceAdd,Nat.reduceLT,Nat.reduceEqDiff];rfl,rfl⟩ ?_
 rintro n t s' ih ⟨k,hn,hk2,rfl,t0,t1,t9,t10,t11,hc⟩
 cases n with
 | zero =>
  have g0:decide ((k:Int) < (l1.length:Int))=false:=by rw[decide_eq_false_iff_not];omega
  rw[List.drop_eq_nil_of_le (by omega:l1.length≤k)] at hc
  rw[hc] at hk
  by_cases hl:l1.length < l2.length
  ·have g1:decide ((l1.length:Int) < (l2.length:Int))=true:=by rw[decide_eq_true_eq];omega
   rw[List.drop_eq_getElem_cons (by omega:k < l2.length)] at hk
   repeat (first|with_reducible (refine q9 H ?_;constructor)|simp only[rB,rQ,q8,qf,q7,qc,reduceIte,Nat.reduceAdd,Nat.reduceLT,Nat.reduceEqDiff,pe3,pf3,t0,t1,t9,t10,t11,zX,g0,g1,v1,v2,d1,d2,Tryz.results140])
   exact hk
  ·have g1:decide ((l1.length:Int) < (l2.length:Int))=false:=by rw[decide_eq_false_iff_not];omega
   rw[List.drop_eq_nil_of_le (by omega:l2.length≤k)] at hk
   repeat (first|with_reducible (refine q9 H ?_;constructor)|simp only[rB,rQ,q8,qf,q7,qc,reduceIte,Nat.reduceAdd,Nat.reduceLT,Nat.reduceEqDiff,pe3,pf3,t0,t1,t9,t10,t11,zX,g0,g1,v1,v2,d1,d2,Tryz.results140])
   exact hk
 | succ n =>
  have hlt:k < l1.length:=by omega
  have g0:decide ((k:Int) < (l1.length:Int))=true:=by rw[decide_eq_true_eq];omega
  rw[List.drop_eq_getElem_cons hlt] at hc
  obtain⟨id,o,x1,x2,ob,x3⟩:=h1.idx (p:=l1[k]) (j:=k) (List.getElem?_eq_getElem hlt)
  have x2':ldO (s'.h.get id) o=some (.str l1[k]):=by rw[← Kb];exact x2
  have x4:∀ b,inO (s'.h.get id) b=b:=fun b=>by rw[x3];rfl
  generalize l1[k]=a at *
  by_cases hl2:k < l2.length
  ·have g1:decide ((k:Int) ≥ (l2.length:Int))=false:=by rw[decide_eq_false_iff_not];omega
   rw[List.drop_eq_getElem_cons hl2] at hc
   obtain⟨id',o',y1,y2,ob',y3⟩:=h2.idx (p:=l2[k]) (j:=k) (List.getElem?_eq_getElem hl2)
   have y2':ldO (s'.h.get id') o'=some (.str l2[k]):=by rw[← Kb];exact y2
   have y4:∀ b,inO (s'.h.get id') b=b:=fun b=>by rw[y3];rfl
   generalize l2[k]=b at *
   simp only[qpl] at hc
   repeat (first|with_reducible (refine q9 H ?_;constructor)|simp only[rB,rQ,q8,qf,q7,qc,reduceIte,Nat.reduceAdd,Nat.reduceLT,Nat.reduceEqDiff,pe3,pf3,t0,t1,t9,t10,t11,zX,Zl,g0,g1,v1,v2,d1,d2,x1,x2',x4,y1,y2',y4,qA])
   refine q27 H ?_
   cases hz:qok a b==0 with
   | true =>
    rw[hz,cond_true] at hc
    have g2:(qok a b != 0)=false:=by simp[bne,hz]
    have ew:IntKind.i64.wrap ((k:Int)+1)=((k+1:Nat):Int):=by
     rw[show (k:Int)+1=((k+1:Nat):Int) from by simp]
     exact qM (by omega)
    repeat (first|with_reducible (refine q9 H ?_;constructor)|simp only[rB,rQ,q8,qf,q7,qc,reduceIte,Nat.reduceAdd,Nat.reduceLT,Nat.reduceEqDiff,pe3,pf3,t0,t1,t9,t10,t11,qB,g2,qO,ew])
    exact ih n _ _ (Nat.lt_succ_self n) ⟨k+1,by omega,hl2,rfl,by simp only[rB,rQ,q8,qf,q7,qc,reduceIte,Nat.reduceAdd,Nat.reduceLT,Nat.reduceEqDiff,t0],by simp only[rB,rQ,q8,qf,q7,qc,reduceIte,Nat.reduceAdd,Nat.reduceLT,Nat.reduceEqDiff,t1],by simp only[rB,rQ,q8,qf,q7,qc,reduceIte,Nat.reduceAdd,Nat.reduceLT,Nat.reduceEqDiff,t9],by simp only[rB,rQ,q8,qf,q7,qc,reduceIte,Nat.reduceAdd,Nat.reduceLT,Nat.reduceEqDiff,t10],by simp only[rB,rQ,q8,qf,q7,qc,reduceIte,Nat.reduceAdd,Nat.reduceLT,Nat.reduceEqDiff],hc⟩
   | false =>
    rw[hz,cond_false] at hc
    have g2:(qok a b != 0)=true:=by simp[bne,hz]
    rw[hc] at hk
    repeat (first|with_reducible (refine q9 H ?_;constructor)|simp only[rB,rQ,q8,qf,q7,qc,reduceIte,Nat.reduceAdd,Nat.reduceLT,Nat.reduceEqDiff,pe3,pf3,t0,t1,t9,t10,t11,qB,g2,Tryz.results140])
    exact hk
  ·have g1:decide ((k:Int) ≥ (l2.length:Int))=true:=by rw[decide_eq_true_eq];omega
   rw[List.drop_eq_nil_of_le (by omega:l2.length≤k)] at hc
   rw[hc] at hk
   repeat (first|with_reducible (refine q9 H ?_;constructor)|simp only[rB,rQ,q8,qf,q7,qc,reduceIte,Nat.reduceAdd,Nat.reduceLT,Nat.reduceEqDiff,pe3,pf3,t0,t1,t9,t10,t11,zX,Zl,g0,g1,v1,v2,d1,d2,x1,x2',x4,qA,Tryz.results140])
   exact hk
def Jh (a b:List Nat):Int:=qpl (qw a) (qw b)
theorem Wg {s:St} (H:Ok TE Tryz.prog pr3) (hB:qb s) {a b:List Nat} (ha:a.length≤1000) (hb:b.length≤1000) (na:(qw a).length≤1000000) (nb:(qw b).length≤1000000) {kr kp:AV→St→Bool} (hk:∀ s',Ext s s'→qb s'→kr (.raw (.int .i64 (Jh a b))) s'=true) :
  (sem Tryz.prog).call 121 [.str a,.str b] s kr kp=true:=by
 refine qk H 10 q1p rfl rfl ?_
 have pa:=fun {r a' dst k kp}=>Ku (r:=r) (a:=a') (dst:=dst) (s:=s) (k:=k) (kp:=kp) ha
 have h1:=SlV.mk (s:=s) (names:=qw a)
 have e1:=J2 (s:=s) (names:=qw a)
 have b1:=Z6 (names:=qw a) hB
 generalize (Xw 9 (qw a) s).1=V1 at *
 generalize (Xw 9 (qw a) s).2=s1 at *
 have pb:=fun {r a' dst k kp}=>Ku (r:=r) (a:=a') (dst:=dst) (s:=s1) (k:=k) (kp:=kp) hb
 have h2:=SlV.mk (s:=s1) (names:=qw b)
 have e2:=J2 (s:=s1) (names:=qw b)
 have b2:=Z6 (names:=qw b) b1
 generalize (Xw 9 (qw b) s1).1=V2 at *
 generalize (Xw 9 (qw b) s1).2=s2 at *
 repeat (first|with_reducible (refine q9 H ?_;constructor)|simp only[rB,rQ,q8,qf,q7,qc,reduceIte,Nat.reduceAdd,Nat.reduceLT,Nat.reduceEqDiff,pe3,pf3,pa,pb])
 refine qyc H (h1.ext b1 e2) h2 na nb ?_
 repeat (first|with_reducible (refine q9 H ?_;constructor)|simp only[rB,rQ,q8,qf,q7,qc,reduceIte,Nat.reduceAdd,Nat.reduceLT,Nat.reduceEqDiff,pe3,pf3,Tryz.results121])
 exact hk s2 (e1.trans e2) b2
theorem qpu {s:St} (H:Ok TE Tryz.prog pr3) (hB:qb s) {a b:List Nat} (ha:a.length≤1000) (hb:b.length≤1000) (na:(qw a).length≤1000000) (nb:(qw b).length≤1000000) {kr kp:AV→St→Bool} (hk:∀ s',Ext s s'→qb s'→kr (.raw (.bool (decide (Jh a b < 0)))) s'=true) :
  (sem Tryz.prog).call 91 [.str a,.str b] s kr kp=true:=by
 refine qk H 9 q5d rfl rfl ?_
 repeat (first|with_reducible (refine q9 H ?_;constructor)|simp only[rB,rQ,q8,qf,q7,qc,reduceIte,Nat.reduceAdd,Nat.reduceLT,Nat.reduceEqDiff,pe3,pf3])
 refine Wg H hB ha hb na nb (fun s' hE hB'=>?_)
 repeat (first|with_reducible (refine q9 H ?_;constructor)|simp only[rB,rQ,q8,qf,q7,qc,reduceIte,Nat.reduceAdd,Nat.reduceLT,Nat.reduceEqDiff,pe3,pf3,zX,Tryz.results91])
 exact hk s' hE hB'
def hpB (p q:List Nat):Bool:=bif decide ((p.length:Int) ≥ (q.length:Int)) then eqB (p.take q.length) q else false
theorem q68 {s:St} (H:Ok TE Tryz.prog pr3) {p q:List Nat} {kr kp:AV→St→Bool} (hk:kr (.raw (.bool (hpB p q))) s=true):(sem Tryz.prog).call 150 [.str p,.str q] s kr kp=true:=by
 refine qk H 18 q0l rfl rfl ?_
 unfold hpB at hk
 cases hd:decide ((p.length:Int) ≥ (q.length:Int)) with
 | false =>
  rw[hd] at hk
  repeat (first|with_reducible (refine q9 H ?_;constructor)|simp only[rB,rQ,q8,qf,q7,qc,reduceIte,Nat.reduceAdd,Nat.reduceLT,Nat.reduceEqDiff,pe3,pf3,qx,Zl,hd,Tryz.results150])
  exact hk
 | true =>
  rw[hd] at hk
  have hle:q.length≤p.length:=by have:=of_decide_eq_true hd;omega
  have sl:zq TE 9 (.str p) none (some (.raw (.int .i64 (q.length:Int)))) none=some (.str (p.take q.length)):=by
   rw[Xq,WK QW hle]
   simp
  repeat (first|with_reducible (refine q9 H ?_;constructor)|simp only[rB,rQ,q8,qf,q7,qc,reduceIte,Nat.reduceAdd,Nat.reduceLT,Nat.reduceEqDiff,pe3,pf3,qx,Zl,Ym,hd,sl,Tryz.results150])
  exact hk
def qgz (p q:List Nat):List Nat:=bif hpB p q then p.drop q.length else p
theorem qag {s:St} (H:Ok TE Tryz.prog pr3) {p q:List Nat} {kr kp:AV→St→Bool} (hk:kr (.str (qgz p q)) s=true):(sem Tryz.prog).call 94 [.str p,.str q] s kr kp=true:=by
 refine qk H 8 q5z rfl rfl ?_
 repeat (first|with_reducible (refine q9 H ?_;constructor)|simp only[rB,rQ,q8,qf,q7,qc,reduceIte,Nat.reduceAdd,Nat.reduceLT,Nat.reduceEqDiff,pe3,pf3])
 refine qk H 13 q01 rfl rfl ?_
 repeat (first|with_reducible (refine q9 H ?_;constructor)|simp only[rB,rQ,q8,qf,q7,qc,reduceIte,Nat.reduceAdd,Nat.reduceLT,Nat.reduceEqDiff,pe3,pf3])
 refine q68 H ?_
 unfold qgz at hk
 cases hd:hpB p q with
 | false =>
  rw[hd] at hk
  repeat (first|with_reducible (refine q9 H ?_;constructor)|simp only[rB,rQ,q8,qf,q7,qc,reduceIte,Nat.reduceAdd,Nat.reduceLT,Nat.reduceEqDiff,pe3,pf3,Tryz.results130,Tryz.results94])
  exact hk
 | true =>
  rw[hd] at hk
  have hle:q.length≤p.length:=by
   unfold hpB at hd
   cases h:decide ((p.length:Int) ≥ (q.length:Int)) with
   | false=>rw[h] at hd;cases hd
   | true=>have:=of_decide_eq_true h;omega
  have sl:zq TE 9 (.str p) (some (.raw (.int .i64 (q.length:Int)))) none none=some (.str (p.drop q.length)):=by
   rw[Xq,qk8 QW hle (Nat.le_refl _)]
   simp only
   rw[List.take_of_length_le (by simp)]
  repeat (first|with_reducible (refine q9 H ?_;constructor)|simp only[rB,rQ,q8,qf,q7,qc,reduceIte,Nat.reduceAdd,Nat.reduceLT,Nat.reduceEqDiff,pe3,pf3,qx,sl,Tryz.results130,Tryz.results94])
  exact hk
def agE (e:En):AV:=.agg [.str e.1,.raw (.int .i64 e.2.1),.raw (.int .i64 e.2.2.1),.str e.2.2.2]
def X9 (p:List Nat):Bool:=match Qr [] (47::p) with|(q,c)=>bif Nat.beq c 0 then bif eqB p [] then false else eqB q p else false
def Z7 (e:En):Bool:=bif e.2.1==1 then (bif decide (e.2.2.1 ≥ 0) then bif decide (e.2.2.1≤511) then eqB e.2.2.2 [] else false else false)
 else bif e.2.1==2 then (bif decide (e.2.2.1 ≥ 0) then bif decide (e.2.2.1≤511) then decide ((e.2.2.2.length:Int)≤1024) else false else false)
 else bif e.2.1==3 then (bif e.2.2.1==511 then Qw e.2.2.2 else false) else false
def V7 (e:En):Bool:=bif X9 e.1 then Z7 e else false
theorem Zy {a b:List Nat}:qN .neq (.str a) (.str b)=some (q8 (!eqB a b)):=(rfl)
theorem qi {x:Nat}:qn TE 34 (.ptr x 0) 0=some (.ptr x 0):=by kernel_rfl
theorem qr {x:Nat}:qn TE 34 (.ptr x 0) 1=some (.ptr x 1):=by kernel_rfl
theorem qo {x:Nat}:qn TE 34 (.ptr x 0) 2=some (.ptr x 2):=by kernel_rfl
theorem qp {x:Nat}:qn TE 34 (.ptr x 0) 3=some (.ptr x 3):=by kernel_rfl
theorem q4h {s:St} (H:Ok TE Tryz.prog pr3) (hB:qb s) {e:En} (hp:e.1.length≤1048575) {kr kp:AV→St→Bool} (hk:∀ s',Ext s s'→qb s'→kr (.raw (.bool (V7 e))) s'=true) :
  (sem Tryz.prog).call 90 [agE e] s kr kp=true:=by
 refine qk H 68 q4q rfl rfl ?_
 obtain⟨p,kd,md,d⟩:=e
 simp only at hp
 have hk:=hk (s.alloc (.cells [.str p,.raw (.int .i64 kd),.raw (.int .i64 md),.str d] 34 0)) (Ext.alloc s _) (by
  intro i y hy
  show i < s.nx+1
  by_cases e:i=s.nx
  ·omega
  ·have:=hB _ _ ((zm e).symm.trans hy)
   omega)
 unfold V7 X9 Z7 at hk
 simp only at hk
 unfold agE
 have f1:qN .add (.str [47]) (.str p)=some (.str (47::p)):=Ka (by simp;omega)
 have ec:=fun {r a dst s k kp}=>qc5 (r:=r) (a:=a) (dst:=dst) (s:=s) (k:=k) (kp:=kp) (x:=[]) (y:=47::p) (by simp) rfl rfl
 generalize Qr [] (47::p)=x at ec hk
 obtain⟨q,c⟩:=x
 simp only at hk
 by_cases hc:c=0
 ·subst hc
  have g0:(((0:Nat):Int) != 0)=false:=rfl
  cases h1:eqB p [] with
  | true =>
   rw[h1] at hk
   repeat (first|with_reducible (refine q9 H ?_;constructor)|simp only[rB,rQ,q8,qf,reduceIte,Nat.reduceLT,Nat.reduceEqDiff,UInt8.reduceToNat,pe3,pf3,qd,qi,qr,qo,qp,qA,qD,f1,ec,Kr,qB,g0,Ym,h1,Tryz.results90])
   exact hk
  | false =>
   rw[h1] at hk
   cases h2:eqB q p with
   | false =>
    rw[h2] at hk
    repeat (first|with_reducible (refine q9 H ?_;constructor)|simp only[rB,rQ,q8,qf,reduceIte,Nat.reduceLT,Nat.reduceEqDiff,UInt8.reduceToNat,pe3,pf3,qd,qi,qr,qo,qp,qA,qD,f1,ec,Kr,qB,g0,Ym,Zy,h1,h2,Bool.not_false,Tryz.results90])
    exact hk
   | true =>
    rw[h2] at hk
    by_cases k1:kd=1
    ·subst k1
     have e1:((1:Int)==1)=true:=rfl
     rw[e1] at hk
     cases m1:decide (md ≥ 0) with
     | false =>
      rw[m1] at hk
      repeat (first|with_reducible (refine q9 H ?_;constructor)|simp only[rB,rQ,q8,qf,reduceIte,Nat.reduceLT,Nat.reduceEqDiff,UInt8.reduceToNat,pe3,pf3,qd,qi,qr,qo,qp,qA,qD,f1,ec,Kr,qB,g0,Ym,Zy,h1,h2,Bool.not_true,qh,e1,Zl,J9,m1,Tryz.results90])
      exact hk
     | true =>
      rw[m1] at hk
      cases m2:decide (md≤511) with
      | false =>
       rw[m2] at hk
       repeat (first|with_reducible (refine q9 H ?_;constructor)|simp only[rB,rQ,q8,qf,reduceIte,Nat.reduceLT,Nat.reduceEqDiff,UInt8.reduceToNat,pe3,pf3,qd,qi,qr,qo,qp,qA,qD,f1,ec,Kr,qB,g0,Ym,Zy,h1,h2,Bool.not_true,qh,e1,Zl,J9,m1,m2,Tryz.results90])
       exact hk
      | true =>
       rw[m2] at hk
       repeat (first|with_reducible (refine q9 H ?_;constructor)|simp only[rB,rQ,q8,qf,reduceIte,Nat.reduceLT,Nat.reduceEqDiff,UInt8.reduceToNat,pe3,pf3,qd,qi,qr,qo,qp,qA,qD,f1,ec,Kr,qB,g0,Ym,Zy,h1,h2,Bool.not_true,qh,e1,Zl,J9,m1,m2,Tryz.results90])
       exact hk
    have e1:(kd==1)=false:=by rw[beq_eq_false_iff_ne];exact k1
    rw[e1] at hk
    by_cases k2:kd=2
    ·subst k2
     have e2:((2:Int)==2)=true:=rfl
     rw[e2] at hk
     cases m1:decide (md ≥ 0) with
     | false =>
      rw[m1] at hk
      repeat (first|with_reducible (refine q9 H ?_;constructor)|simp only[rB,rQ,q8,qf,reduceIte,Nat.reduceLT,Nat.reduceEqDiff,UInt8.reduceToNat,pe3,pf3,qd,qi,qr,qo,qp,qA,qD,f1,ec,Kr,qB,g0,Ym,Zy,h1,h2,Bool.not_true,qh,e1,e2,Zl,J9,m1,qx,Tryz.results90])
      exact hk
     | true =>
      rw[m1] at hk
      cases m2:decide (md≤511) with
      | false =>
       rw[m2] at hk
       repeat (first|with_reducible (refine q9 H ?_;constructor)|simp only[rB,rQ,q8,qf,reduceIte,Nat.reduceLT,Nat.reduceEqDiff,UInt8.reduceToNat,pe3,pf3,qd,qi,qr,qo,qp,qA,qD,f1,ec,Kr,qB,g0,Ym,Zy,h1,h2,Bool.not_true,qh,e1,e2,Zl,J9,m1,m2,qx,Tryz.results90])
       exact hk
      | true =>
       rw[m2] at hk
       repeat (first|with_reducible (refine q9 H ?_;constructor)|simp only[rB,rQ,q8,qf,reduceIte,Nat.reduceLT,Nat.reduceEqDiff,UInt8.reduceToNat,pe3,pf3,qd,qi,qr,qo,qp,qA,qD,f1,ec,Kr,qB,g0,Ym,Zy,h1,h2,Bool.not_true,qh,e1,e2,Zl,J9,m1,m2,qx,Tryz.results90])
       exact hk
    have e2:(kd==2)=false:=by rw[beq_eq_false_iff_ne];exact k2
    rw[e2] at hk
    by_cases k3:kd=3
    ·subst k3
     have e3:((3:Int)==3)=true:=rfl
     rw[e3] at hk
     cases m1:md==511 with
     | false =>
      rw[m1] at hk
      repeat (first|with_reducible (refine q9 H ?_;constructor)|simp only[rB,rQ,q8,qf,reduceIte,Nat.reduceLT,Nat.reduceEqDiff,UInt8.reduceToNat,pe3,pf3,qd,qi,qr,qo,qp,qA,qD,f1,ec,Kr,qB,g0,Ym,Zy,h1,h2,Bool.not_true,qh,e1,e2,e3,m1,Tryz.results90])
      exact hk
     | true =>
      rw[m1] at hk
      repeat (first|with_reducible (refine q9 H ?_;constructor)|simp only[rB,rQ,q8,qf,reduceIte,Nat.reduceLT,Nat.reduceEqDiff,UInt8.reduceToNat,pe3,pf3,qd,qi,qr,qo,qp,qA,qD,f1,ec,Kr,qB,g0,Ym,Zy,h1,h2,Bool.not_true,qh,e1,e2,e3,m1,Tryz.results90]|(with_reducible refine JG H ?_))
      exact hk
    have e3:(kd==3)=false:=by rw[beq_eq_false_iff_ne];exact k3
    rw[e3] at hk
    repeat (first|with_reducible (refine q9 H ?_;constructor)|simp only[rB,rQ,q8,qf,reduceIte,Nat.reduceLT,Nat.reduceEqDiff,UInt8.reduceToNat,pe3,pf3,qd,qi,qr,qo,qp,qA,qD,f1,ec,Kr,qB,g0,Ym,Zy,h1,h2,Bool.not_true,qh,e1,e2,e3,Tryz.results90])
    exact hk
 ·have g0:((c:Int) != 0)=true:=by simp;omega
  rw[Qk hc] at hk
  repeat (first|with_reducible (refine q9 H ?_;constructor)|simp only[rB,rQ,q8,qf,reduceIte,Nat.reduceLT,Nat.reduceEqDiff,UInt8.reduceToNat,pe3,pf3,qd,qi,qr,qo,qp,qA,qD,f1,ec,Kr,qB,g0,Tryz.results90])
  exact hk
def Wn (M:Md) (u:Nat) (ud:Nd) (nm:List Nat) (nw:Nd):Md:={ M with nodes:=M.nodes.set u { ud with kids:=setK nm M.nodes.length ud.kids }++[nw] }
def qh4 (ι:Nat→Nat) (n N:Nat):Nat→Nat:=fun j=>if j=n then N else ι j
theorem qqx {s s':St} {x:Nat} {M:Md} {ι μ:Nat→Nat} (R:RepM s x M ι μ) (hB:qb s) {k:Nat} {ud:Nd} (hk:M.T k=some ud)
  {kind mode:Int} {data nm:List Nat} {N mp:Nat} (hd:data.length≤40000) (hN:s.nx≤N)
  (hmap:s'.h.get (μ k)=some (.map (qL (setK nm N (qP ι ud.kids))))) (fr:∀ j,j < s.nx→j≠μ k→s'.h.get j=s.h.get j)
  (hn:qfz s' N ⟨kind,mode,data,[],some (ι k),nm,mp⟩) (hmp:s.nx≤mp) (hne:mp≠N):RepM s' x (Wn M k ud nm ⟨kind,mode,data,[],some k,nm,0⟩) (qh4 ι M.nodes.length N) (qh4 μ M.nodes.length mp):=by
 have hkl:=QP hk
 have hlen:(Wn M k ud nm ⟨kind,mode,data,[],some k,nm,0⟩).nodes.length=M.nodes.length+1:=by simp[Wn]
 let ι':Nat→Nat:=qh4 ι M.nodes.length N
 let μ':Nat→Nat:=qh4 μ M.nodes.length mp
 have i1:ι' M.nodes.length=N:=if_pos rfl
 have i2:∀ j,j < M.nodes.length→ι' j=ι j:=fun j hj=>if_neg (by omega)
 have m1:μ' M.nodes.length=mp:=if_pos rfl
 have m2:∀ j,j < M.nodes.length→μ' j=μ j:=fun j hj=>if_neg (by omega)
 have htr:s'.h.get x=some (trA (ι M.root) (ι M.cwd) (JJ ι M.fds) M.many):=(fr x (R.lx hB) (fun e=>R.xm hkl e.symm)).trans R.tr
 have hT:∀ j jd,(Wn M k ud nm ⟨kind,mode,data,[],some k,nm,0⟩).T j=some jd→(j=M.nodes.length∧jd=⟨kind,mode,data,[],some k,nm,0⟩)∨(j=k∧jd={ ud with kids:=setK nm M.nodes.length ud.kids })∨(j≠k∧M.T j=some jd):=by
  intro j jd h
  unfold Md.T Wn at h
  simp only at h
  by_cases hj:j < M.nodes.length
  ·rw[List.getElem?_append_left (by simpa using hj),List.getElem?_set] at h
   by_cases hjk:k=j
   ·rw[if_pos hjk,if_pos hkl] at h
    cases h
    exact Or.inr (Or.inl ⟨hjk.symm,rfl⟩)
   ·rw[if_neg hjk] at h
    exact Or.inr (Or.inr ⟨fun e=>hjk e.symm,h⟩)
  ·have hj2:=(List.getElem?_eq_some_iff.mp h).1
   have hj3:j=M.nodes.length:=by simp at hj2;omega
   subst hj3
   rw[List.getElem?_append_right (by simp)] at h
   simp at h
   exact Or.inl ⟨rfl,h.symm⟩
 show RepM s' x _ ι' μ'
 refine⟨?_,?_,?_,?_,?_,?_,?_,?_,R.f8,?_,?_,?_⟩
 ·intro j jd h
  rcases hT j jd h with⟨rfl,rfl⟩|⟨rfl,rfl⟩|⟨hjk,hj⟩
  ·rw[i1,m1]
   have e:Nd.to ι' mp ⟨kind,mode,data,[],some k,nm,0⟩=⟨kind,mode,data,[],some (ι k),nm,mp⟩:=by
    unfold Nd.to
    simp only[qP,List.map_nil,Option.map_some,i2 k hkl]
   rw[e]
   exact hn
  ·rw[i2 j hkl,m2 j hkl]
   have old:=R.nd j ud hk
   have e1:qP ι' ud.kids=qP ι ud.kids:=Yc fun q hq=>i2 _ (R.kd j ud hk q hq)
   have e2:ud.up.map ι'=ud.up.map ι:=by
    cases hu:ud.up with
    | none=>rfl
    | some u=>simp only[Option.map_some,i2 u (R.up j ud u hk hu)]
   refine⟨?_,?_⟩
   ·have:s'.h.get (ι j)=some (ndA (ud.to ι (μ j))):=(fr _ (R.li hB hkl) (R.im hkl hkl)).trans old.1
    rw[this]
    unfold ndA Nd.to
    simp only[e2]
   ·rw[qrb,Qg,hmap]
    simp only
    rw[← KK,i1,e1]
  ·have hjl:=QP hj
   rw[i2 j hjl,m2 j hjl,qid (fun q hq=>i2 _ (R.kd j jd hj q hq)) (fun u hu=>i2 _ (R.up j jd u hj hu))]
   have old:=R.nd j jd hj
   exact⟨(fr _ (R.li hB hjl) (R.im hjl hkl)).trans old.1,(fr _ (R.lm hB hjl) (fun e=>hjk (R.mj _ _ hjl hkl e))).trans old.2⟩
 ·have e:JJ ι' M.fds=JJ ι M.fds:=by
   unfold JJ
   refine List.map_congr_left fun o ho=>?_
   cases o with
   | none=>rfl
   | some u=>simp only[Option.map_some,i2 u (R.fd _ ho u rfl)]
  show s'.h.get x=some (trA (ι' M.root) (ι' M.cwd) (JJ ι' M.fds) M.many)
  rw[i2 _ R.rt,i2 _ R.cw,e]
  exact htr
 ·intro a b ha hb e
  rw[hlen] at ha hb
  by_cases h1:a=M.nodes.length
  ·by_cases h2:b=M.nodes.length
   ·rw[h1,h2]
   ·have hb':b < M.nodes.length:=by omega
    rw[h1,i1,i2 b hb'] at e
    have:=R.li hB hb'
    omega
  ·have ha':a < M.nodes.length:=by omega
   by_cases h2:b=M.nodes.length
   ·rw[h2,i1,i2 a ha'] at e
    have:=R.li hB ha'
    omega
   ·have hb':b < M.nodes.length:=by omega
    rw[i2 a ha',i2 b hb'] at e
    exact R.ij _ _ ha' hb' e
 ·intro a b ha hb e
  rw[hlen] at ha hb
  by_cases h1:a=M.nodes.length
  ·by_cases h2:b=M.nodes.length
   ·rw[h1,h2]
   ·have hb':b < M.nodes.length:=by omega
    rw[h1,m1,m2 b hb'] at e
    have:=R.lm hB hb'
    omega
  ·have ha':a < M.nodes.length:=by omega
   by_cases h2:b=M.nodes.length
   ·rw[h2,m1,m2 a ha'] at e
    have:=R.lm hB ha'
    omega
   ·have hb':b < M.nodes.length:=by omega
    rw[m2 a ha',m2 b hb'] at e
    exact R.mj _ _ ha' hb' e
 ·intro j jd h q hq
  rw[hlen]
  rcases hT j jd h with⟨rfl,rfl⟩|⟨rfl,rfl⟩|⟨hjk,hj⟩
  ·cases hq
  ·rcases XD hq with e|e
   ·omega
   ·have:=R.kd j ud hk q e
    omega
  ·have:=R.kd j jd hj q hq
   omega
 ·intro j jd u h hu
  rw[hlen]
  rcases hT j jd h with⟨rfl,rfl⟩|⟨rfl,rfl⟩|⟨hjk,hj⟩
  ·cases hu
   omega
  ·have:=R.up j ud u hk hu
   omega
  ·have:=R.up j jd u hj hu
   omega
 ·rw[hlen];have:=R.rt;show M.root < _;omega
 ·rw[hlen];have:=R.cw;show M.cwd < _;omega
 ·intro o ho u hu
  rw[hlen]
  have:=R.fd o ho u hu
  omega
 ·exact R.mn
 ·intro j jd h
  rcases hT j jd h with⟨rfl,rfl⟩|⟨rfl,rfl⟩|⟨hjk,hj⟩
  ·exact hd
  ·exact R.da j ud hk
  ·exact R.da j jd hj
def MZ:Md:=⟨[⟨1,493,[],[],none,[],0⟩],0,0,[none,none,none,none,none,none,none,none],0⟩
theorem qry {m:Nat}:Qq TE 117 [(0,.raw (.int .i64 1)),(1,.raw (.int .i64 493)),(3,.map m)]=some (.agg [.raw (.int .i64 1),.raw (.int .i64 493),.str [],.map m,.raw (.pointer none),.str []]):=by kernel_rfl
theorem qp8 {r:Nat}:Qq TE 120 [(0,.ptr r 0),(1,.ptr r 0)]=some (.agg [.ptr r 0,.ptr r 0,.raw (.pointer none),.raw (.pointer none),.raw (.pointer none),.raw (.pointer none),.raw (.pointer none),.raw (.pointer none),.raw (.pointer none),.raw (.pointer none),.raw (.int .i64 0)]):=by kernel_rfl
theorem z8 {s:St} (hB:qb s) (o:AO):qb (s.alloc o):=by
 intro i y hy
 show i < s.nx+1
 by_cases e:i=s.nx
 ·omega
 ·have:=hB _ _ ((zm e).symm.trans hy)
  omega
theorem q3a {s:St} (H:Ok TE Tryz.prog pr3) (hB:qb s) {kr kp:AV→St→Bool} (hk:∀ s',Ext s s'→qb s'→s'.nx=s.nx+3→RepM s' (s.nx+2) MZ (fun _=>s.nx+1) (fun _=>s.nx)→kr (.ptr (s.nx+2) 0) s'=true) :
  (sem Tryz.prog).call 89 [] s kr kp=true:=by
 refine qk H 9 q5v rfl rfl ?_
 repeat (first|with_reducible (refine q9 H ?_;constructor)|simp only[rB,rQ,reduceIte,Nat.reduceLT,Nat.reduceEqDiff,pe3,pf3,qry,qp8,qd,Tryz.results89])
 have zero:∀ {k:Nat} {nd:Nd},MZ.T k=some nd→k=0:=fun h=>by have:=QP h;simp[MZ] at this;exact this
 have len:∀ {k:Nat},k < MZ.nodes.length→k=0:=fun h=>by simp[MZ] at h;exact h
 refine hk _ ((Ext.alloc s _).trans ((Ext.alloc _ _).trans (Ext.alloc _ _))) (z8 (z8 (z8 hB _) _) _) rfl ⟨?_,?_,?_,?_,?_,?_,?_,?_,rfl,?_,?_,?_⟩
 ·intro k nd h
  obtain rfl:=zero h
  cases h
  exact⟨(zm (by show s.nx+1≠s.nx+1+1;omega)).trans qt,(zm (by show s.nx≠s.nx+1+1;omega)).trans ((zm (by show s.nx≠s.nx+1;omega)).trans qt)⟩
 ·exact qt
 ·intro j k hj hk _
  rw[len hj,len hk]
 ·intro j k hj hk _
  rw[len hj,len hk]
 ·intro k nd h q hq
  obtain rfl:=zero h
  cases h
  cases hq
 ·intro k nd u h hu
  obtain rfl:=zero h
  cases h
  cases hu
 ·decide
 ·decide
 ·intro o ho k hk
  have:o=none:=by simpa [MZ] using ho
  rw[this] at hk
  cases hk
 ·decide
 ·intro k nd h
  obtain rfl:=zero h
  cases h
  decide
def Y2 (p:List Nat):Nat:=(Zj p 47 p.length).toNat
def Jv (p:List Nat):List Nat:=qgz (p.drop (Y2 p)) [47]
def Yh:List En→Md→List (List Nat × Nat)→Option (List Nat)→Option Md
 | [],M,_,_=>some M
 | e::l,M,K,pv=>bif V7 e then (bif (match pv with|none=>true|some p=>decide (Jh p e.1 < 0)) then (match ql (e.1.take (Y2 e.1)) K with
   | none=>none
   | some u=>match M.T u with
    | none=>none
    | some ud=>bif ud.kind != 1 then none else Yh l (Wn M u ud (Jv e.1) ⟨e.2.1,e.2.2.1,e.2.2.2,[],some u,Jv e.1,0⟩) (setK e.1 M.nodes.length K) (some e.1)) else none) else none
def ofT (es:List En):Option Md:=bif decide ((es.length:Int) > 128) then none else match Yh es MZ [([],0)] none with
 | none=>none
 | some M=>some { M with many:=(es.length:Int) }
theorem XX {b:List Nat} {c:Nat}:∀ {n:Nat},Zj b c n < (n:Int)∧-1≤Zj b c n
 | 0=>by simp[Zj]
 | n+1=>by
  have:=XX (b:=b) (c:=c) (n:=n)
  have key:∀ z:Bool,(bif z then (n:Int) else Zj b c n) < ((n+1:Nat):Int)∧-1≤(bif z then (n:Int) else Zj b c n):=fun z=>by cases z <;> simp only[cond_true,cond_false] <;> omega
  exact key _
theorem qbt {p:List Nat}:Y2 p≤p.length:=by
 have:=XX (b:=p) (c:=47) (n:=p.length)
 unfold Y2
 omega
theorem Xh {p:List Nat}:(if Zj p 47 p.length > 0 then Zj p 47 p.length else 0)=(Y2 p:Int):=by
 unfold Y2
 split <;> omega
theorem qmy {e:En} (h:V7 e=true):e.1.length≤140∧e.2.2.2.length≤1024:=by
 unfold V7 at h
 cases h1:X9 e.1 with
 | false=>rw[h1] at h;cases h
 | true =>
  rw[h1,cond_true] at h
  refine⟨?_,?_⟩
  ·unfold X9 at h1
   have hl:=XU (x:=[]) (y:=47::e.1)
   generalize Qr [] (47::e.1)=x at h1 hl
   obtain⟨q,c⟩:=x
   simp only at h1 hl
   cases hc:Nat.beq c 0 with
   | false=>rw[hc] at h1;cases h1
   | true =>
    rw[hc,cond_true] at h1
    cases h2:eqB e.1 [] with
    | true=>rw[h2] at h1;cases h1
    | false =>
     rw[h2,cond_false,qG] at h1
     rw[← of_decide_eq_true h1]
     exact hl
  ·unfold Z7 at h
   cases h2:e.2.1==1 with
   | true =>
    rw[h2,cond_true] at h
    cases h3:decide (e.2.2.1 ≥ 0) with
    | false=>rw[h3] at h;cases h
    | true =>
     rw[h3,cond_true] at h
     cases h4:decide (e.2.2.1≤511) with
     | false=>rw[h4] at h;cases h
     | true =>
      rw[h4,cond_true,qG] at h
      rw[of_decide_eq_true h]
      simp
   | false =>
    rw[h2,cond_false] at h
    cases h3:e.2.1==2 with
    | true =>
     rw[h3,cond_true] at h
     cases h4:decide (e.2.2.1 ≥ 0) with
     | false=>rw[h4] at h;cases h
     | true =>
      rw[h4,cond_true] at h
      cases h5:decide (e.2.2.1≤511) with
      | false=>rw[h5] at h;cases h
      | true =>
       rw[h5,cond_true] at h
       have:=of_decide_eq_true h
       omega
    | false =>
     rw[h3,cond_false] at h
     cases h4:e.2.1==3 with
     | false=>rw[h4] at h;cases h
     | true =>
      rw[h4,cond_true] at h
      cases h5:e.2.2.1==511 with
      | false=>rw[h5] at h;cases h
      | true =>
       rw[h5,cond_true] at h
       unfold Qw at h
       simp only[Bool.and_eq_true] at h
       have:=Nat.le_of_ble_eq_true h.2.1
       omega
theorem JC {b:List Nat}:(qw b).length≤b.length+1:=by
 cases b with
 | nil=>simp[qw]
 | cons x l=>exact Yt (x::l)
def celE (e:En):List AV:=[.str e.1,.raw (.int .i64 e.2.1),.raw (.int .i64 e.2.2.1),.str e.2.2.2]
def EsV (s:St) (V:AV) (es:List En):Prop:=((∃ a c,V=.raw (.slice a 0 c))∧es=[])∨(∃ id off ci l z,V=.esl id off ci l z∧es=[]) ∨
 ∃ id off ci cap ex cs ob,V=.slice id off es.length ci cap ex∧s.h.get id=some ob∧((∃ fz,ob=.cells cs 34 fz)∨ob=.old cs)∧Y3 cs cs=true∧∀ k e,es[k]?=some e→Yn (off+k * 4) 4 cs=some (celE e)
theorem EsV.len {s:St} {V:AV} {es:List En} (h:EsV s V es):∀ s',Qv TE s' [29] [V]=some (.raw (.int .i64 (es.length:Int))):=by
 intro s'
 rcases h with⟨⟨a,c,rfl⟩,rfl⟩|⟨id,off,ci,l,z,rfl,rfl⟩|⟨id,off,ci,cap,ex,cs,fz,rfl,_⟩ <;> kernel_rfl
theorem EsV.ids {s:St} {V:AV} {es:List En} (h:EsV s V es):Z4 V=[]:=by
 rcases h with⟨⟨a,c,rfl⟩,rfl⟩|⟨id,off,ci,l,z,rfl,rfl⟩|⟨id,off,ci,cap,ex,cs,fz,rfl,_⟩ <;> rfl
theorem qoh:(match TE.info 34 with|some ti=>QF ti.desc&&Nat.beq ti.size 4|none=>false)=true:=by kernel_rfl
theorem qs2 {t n x o fz el:Nat} {s:St} {cs l:List AV} (hs:(match TE.info t with|some ti=>QF ti.desc&&Nat.beq ti.size n|none=>false)=true) (hg:s.h.get x=some (.cells cs el fz)) (hc:Yn o n cs=some l):Q1 TE s t (.ptr x o)=some (.agg l):=by
 cases ht:TE.info t with
 | none=>rw[ht] at hs;cases hs
 | some ti =>
  rw[ht] at hs
  simp only[Bool.and_eq_true] at hs
  have h2:=Nat.eq_of_beq_eq_true hs.2
  simp only[Q1,ht,za,hg,hs.1,cond_true,h2,hc]
theorem Yi {t n x o:Nat} {s:St} {cs l:List AV} (hs:(match TE.info t with|some ti=>QF ti.desc&&Nat.beq ti.size n|none=>false)=true) (hg:s.h.get x=some (.old cs)) (hc:Yn o n cs=some l):Q1 TE s t (.ptr x o)=some (.agg l):=by
 cases ht:TE.info t with
 | none=>rw[ht] at hs;cases hs
 | some ti =>
  rw[ht] at hs
  simp only[Bool.and_eq_true] at hs
  have h2:=Nat.eq_of_beq_eq_true hs.2
  simp only[Q1,ht,za,qrt,hg,hs.1,cond_true,h2,hc]
theorem q65 {id off n ci cap k:Nat} {ex:Bool} (h:k < n):qQ TE 29 (.slice id off n ci cap ex) (.raw (.int .i64 (k:Int)))=some (.ptr id (off+k * 4)):=by
 have e:qQ TE 29 (.slice id off n ci cap ex) (.raw (.int .i64 (k:Int)))=(bif Nat.blt k n then some (.ptr id (off+k * 4)) else none):=by kernel_rfl
 rw[e,Nat.blt_eq.mpr h]
 rfl
theorem Zz {x o:Nat}:qn TE 34 (.ptr x o) 0=some (.ptr x (o+0)):=by kernel_rfl
theorem qmk:∀ {l:List AV} {o n:Nat} {r:List AV} {x:AV} {t:List AV},Yn o n l=some r→r=x::t→l[o]?=some x:=by
 intro l o n r x t h hr
 subst hr
 induction l generalizing o with
 | nil =>
  cases o with
  | zero=>cases n <;> simp[Yn,YN,JR] at h
  | succ o=>simp[Yn,YN] at h
 | cons y l ih =>
  cases o with
  | zero =>
   cases n with
   | zero=>simp[Yn,YN,JR] at h
   | succ n =>
    simp only[Yn,YN,JR] at h
    cases ht:JR n l with
    | none=>rw[ht] at h;cases h
    | some q=>rw[ht] at h;cases h;rfl
  | succ o =>
   have:Yn o n l=some (x::t):=by simpa [Yn,YN] using h
   simpa using ih this
theorem EsV.idx {s:St} {V:AV} {es:List En} (h:EsV s V es) {k:Nat} {e:En} (hk:es[k]?=some e):∃ id o,qQ TE 29 V (.raw (.int .i64 (k:Int)))=some (.ptr id o)∧Q1 TE s 34 (.ptr id o)=some (agE e)∧ldO (s.h.get id) (o+0)=some (.str e.1)∧(∀ b,inO (s.h.get id) b=b)∧∃ ob,s.h.get id=some ob∧qfy ob ob=true:=by
 rcases h with⟨⟨a,c,rfl⟩,rfl⟩|⟨id,off,ci,l,z,rfl,rfl⟩|⟨id,off,ci,cap,ex,cs,ob,rfl,hg,ho,hbq,hc⟩
 ·simp at hk
 ·simp at hk
 ·have hlt:=(List.getElem?_eq_some_iff.mp hk).1
  have h1:=hc k e hk
  rcases ho with⟨fz,rfl⟩|rfl
  ·refine⟨id,off+k * 4,q65 hlt,qs2 qoh hg h1,?_,fun b=>by rw[hg];rfl,_,hg,by simp[qfy,hbq]⟩
   rw[hg,Nat.add_zero]
   exact qmk h1 rfl
  ·refine⟨id,off+k * 4,q65 hlt,Yi qoh hg h1,?_,fun b=>by rw[hg];rfl,_,hg,by simp[qfy,hbq]⟩
   rw[hg,Nat.add_zero]
   exact qmk h1 rfl
theorem EsV.keep {s s':St} {V:AV} {es:List En} (h:EsV s V es) (hk:∀ i o cs,((∃ fz,o=.cells cs 34 fz)∨o=.old cs)→s.h.get i=some o→s'.h.get i=some o):EsV s' V es:=by
 rcases h with h|h|⟨id,off,ci,cap,ex,cs,ob,h1,h2,h3,h4⟩
 ·exact Or.inl h
 ·exact Or.inr (Or.inl h)
 ·exact Or.inr (Or.inr ⟨id,off,ci,cap,ex,cs,ob,h1,hk _ _ _ h3 h2,h3,h4⟩)
theorem EsV.ext {s s':St} {V:AV} {es:List En} (h:EsV s V es) (hB:qb s) (hE:Ext s s'):EsV s' V es:=h.keep (fun i o cs _ hi=>(hE.2 i (hB _ _ hi)).trans hi)
def eqE (e e':En):Bool:=eqB e.1 e'.1&&(e.2.1==e'.2.1&&(e.2.2.1==e'.2.2.1&&(eqB e.2.2.2 e'.2.2.2&&true)))
theorem q1s {e e':En}:qN .neq (agE e) (agE e')=none:=(rfl)
theorem qnj {s:St} {e e':En} {d:Option (AV × List Nat)}:eqS TE s .neq 34 (agE e) (agE e') d=some (q8 !(eqE e e'),[]):=by kernel_rfl
def qeh:List En→List En→Bool
 | e::l,e'::l'=>bif eqE e e' then qeh l l' else false
 | _,_=>true
def qse (a b:List En):Bool:=bif (a.length:Int) != (b.length:Int) then false else qeh a b
theorem qqf {s:St} (H:Ok TE Tryz.prog pr3) {A B:AV} {a b:List En} (hA:EsV s A a) (hB:EsV s B b) (hl:a.length≤1000000000) {kr kp:AV→St→Bool} (hk:kr (.raw (.bool (qse a b))) s=true) :
  (sem Tryz.prog).call 17 [A,B] s kr kp=true:=by
 refine qk H 26 q37 rfl rfl ?_
 have la:=hA.len
 have lb:=hB.len
 have ia:=hA.ids
 have ib:=hB.ids
 unfold qse at hk
 cases hne:(a.length:Int) != (b.length:Int) with
 | true =>
  rw[hne] at hk
  repeat (first|with_reducible (refine q9 H ?_;constructor)|simp only[rB,rP,rQ,q8,q7,qc,reduceIte,Nat.reduceLT,Nat.reduceEqDiff,pe3,pf3,la,lb,ia,ib,qB,hne,Tryz.results17])
  exact hk
 | false =>
 rw[hne,cond_false] at hk
 have hab:b.length=a.length:=by
  have:(a.length:Int)=(b.length:Int):=by simpa using hne
  omega
 repeat (first|with_reducible (refine q9 H ?_;constructor)|simp only[rB,rP,rQ,q8,q7,qc,reduceIte,Nat.reduceLT,Nat.reduceEqDiff,pe3,pf3,la,lb,ia,ib,qB,hne])
 refine qZ H (fun n t s'=>∃ k:Nat,n+k=a.length∧s'=s∧tg t 0=A∧tg t 1=B∧tg t 5=.raw (.int .i64 (k:Int))∧qeh a b=qeh (a.drop k) (b.drop k)) (n:=a.length)
  ⟨0,rfl,rfl,by simp only[rB,rP,rQ,q8,q7,qc,reduceIte,Nat.reduceLT,Nat.reduceEqDiff],by simp only[rB,rP,rQ,q8,q7,qc,reduceIte,Nat.reduceLT,Nat.reduceEqDiff],by simp only[rB,rP,rQ,q8,q7,qc,reduceIte,Nat.reduceLT,Nat.reduceEqDiff];rfl,rfl⟩ ?_
 rintro n t s' ih ⟨k,hn,rfl,t0,t1,t5,hs⟩
 cases n with
 | zero =>
  have g0:decide ((k:Int) < (a.length:Int))=false:=by rw[decide_eq_false_iff_not];omega
  rw[List.drop_eq_nil_of_le (by omega)] at hs
  have hs':qeh a b=true:=hs
  repeat (first|with_reducible (refine q9 H ?_;constructor)|simp only[rB,rP,rQ,q8,q7,qc,reduceIte,Nat.reduceLT,Nat.reduceEqDiff,pe3,pf3,t0,t1,t5,la,lb,ia,ib,zX,g0,Tryz.results17])
  rw[hs'] at hk
  exact hk
 | succ n =>
  have hlt:k < a.length:=by omega
  have hlt':k < b.length:=by omega
  have g0:decide ((k:Int) < (a.length:Int))=true:=by rw[decide_eq_true_eq];omega
  rw[List.drop_eq_getElem_cons hlt,List.drop_eq_getElem_cons hlt'] at hs
  have hke:a[k]?=some a[k]:=List.getElem?_eq_getElem hlt
  have hke':b[k]?=some b[k]:=List.getElem?_eq_getElem hlt'
  generalize a[k]=e at hke hs
  generalize b[k]=e' at hke' hs
  obtain⟨i1,o1,x1,x2,x3,x4,-⟩:=hA.idx hke
  obtain⟨i2,o2,y1,y2,y3,y4,-⟩:=hB.idx hke'
  have ew:IntKind.i64.wrap ((k:Int)+1)=((k+1:Nat):Int):=by
   rw[show (k:Int)+1=((k+1:Nat):Int) from by simp]
   exact qM (by omega)
  simp only[qeh] at hs
  cases hq:eqE e e' with
  | false =>
   rw[hq,cond_false] at hs
   repeat (first|with_reducible (refine q9 H ?_;constructor)|simp only[rB,rP,rQ,q8,q7,qc,reduceIte,Nat.reduceLT,Nat.reduceEqDiff,pe3,pf3,t0,t1,t5,la,lb,ia,ib,zX,g0,x1,y1,x2,y2,x4,y4,q1s,qnj,qaw,hq,Bool.not_false,Tryz.results17]|(with_reducible refine qq H (i:=6) (.take 0 (.take 1 (.take 2 (.take 3 (.take 4 (.take 5 (.take 6 (.take 7 (.take 8 (.done)))))))))) rfl (by kernel_rfl) ?_))
   rw[hs] at hk
   exact hk
  | true =>
   rw[hq,cond_true] at hs
   repeat (first|with_reducible (refine q9 H ?_;constructor)|simp only[rB,rP,rQ,q8,q7,qc,reduceIte,Nat.reduceLT,Nat.reduceEqDiff,pe3,pf3,t0,t1,t5,la,lb,ia,ib,zX,g0,x1,y1,x2,y2,x4,y4,q1s,qnj,qaw,hq,Bool.not_true,qO,ew]|(with_reducible refine qq H (i:=6) (.take 0 (.take 1 (.take 2 (.take 3 (.take 4 (.take 5 (.take 6 (.take 7 (.take 8 (.done)))))))))) rfl (by kernel_rfl) ?_))
   exact ih n _ _ (by omega) ⟨k+1,by omega,rfl,by simp only[rB,rP,rQ,q8,q7,qc,reduceIte,Nat.reduceLT,Nat.reduceEqDiff,t0],by simp only[rB,rP,rQ,q8,q7,qc,reduceIte,Nat.reduceLT,Nat.reduceEqDiff,t1],by simp only[rB,rP,rQ,q8,q7,qc,reduceIte,Nat.reduceLT,Nat.reduceEqDiff],hs⟩
set_option maxHeartbeats 400000000
theorem qtw:qe1 TE 34=4:=by kernel_rfl
theorem Ji {s:St}:Qz TE s 34=some (.ptr s.nx 0,s.alloc (.cells [.str [],.raw (.int .i64 0),.raw (.int .i64 0),.str []] 34 0)):=by
 have:zA TE 34=some (.agg [.str [],.raw (.int .i64 0),.raw (.int .i64 0),.str []]):=by kernel_rfl
 simp only[Qz,this];rfl
theorem KB {s:St} {x:Nat} {e:En}:QZ TE s 34 (.ptr x 0) (agE e)=stA s x (s.h.get x) (celE e):=by
 have hs:=qtw
 unfold qe1 at hs
 cases ht:TE.info 34 with
 | none=>rw[ht] at hs;cases hs
 | some ti =>
  rw[ht] at hs
  simp only at hs
  have hall:(celE e).all AV.one=true:=rfl
  have hl:(celE e).length=4:=rfl
  simp only[QZ,ht,hs,agE,qd,zJ]
  show (bif true then (match za s x with
   | some (cs,el,fz)=>bif (celE e).all AV.one then (match JF cs 0 (celE e) with|some cs'=>some { s with h:=s.h.set x (.cells cs' el fz) } | none=>none) else none
   | none=>none) else none)=_
  rw[hall]
  simp only[cond_true,stA,za]
  cases s.h.get x with
  | none=>rfl
  | some y=>cases y <;> rfl
theorem Jl {s:St} {x el fz:Nat} {a0 a1 a2 a3:AV} {e:En}:stA s x (some (.cells [a0,a1,a2,a3] el fz)) (celE e)=some { s with h:=s.h.set x (.cells (celE e) el fz) }:=(rfl)
theorem Zf {s:St} {x:Nat}:Q1 TE s 34 (.ptr x 0)=ldG 4 (s.h.get x):=KT qoh
theorem QE {e:En} {el fz:Nat}:ldG 4 (some (.cells (celE e) el fz))=some (agE e):=(rfl)
theorem zW {e:En} {el fz:Nat}:ldO (some (.cells (celE e) el fz)) 0=some (.str e.1):=(rfl)
theorem Qx {e:En} {el fz:Nat}:ldO (some (.cells (celE e) el fz)) 1=some (.raw (.int .i64 e.2.1)):=(rfl)
theorem Zv {e:En} {el fz:Nat}:ldO (some (.cells (celE e) el fz)) 2=some (.raw (.int .i64 e.2.2.1)):=(rfl)
theorem Zu {e:En} {el fz:Nat}:ldO (some (.cells (celE e) el fz)) 3=some (.str e.2.2.2):=(rfl)
theorem WR {k m:Int} {d:List Nat} {mp:Nat}:Qq TE 117 [(0,.raw (.int .i64 k)),(1,.raw (.int .i64 m)),(2,.str d),(3,.map mp)]=some (.agg [.raw (.int .i64 k),.raw (.int .i64 m),.str d,.map mp,.raw (.pointer none),.str []]):=by kernel_rfl
theorem q44 {x:Nat}:qn TE 120 (.ptr x 0) 0=some (.ptr x 0):=by kernel_rfl
theorem q6u {x:Nat}:qn TE 120 (.ptr x 0) 3=some (.ptr x 10):=by kernel_rfl
theorem qW {e:En}:Y3 (celE e) (celE e)=true:=by
 unfold celE
 simp only[qht,qox,qnc,qh7,Bool.and_self]
theorem RepM.manyS {s:St} {x:Nat} {M:Md} {ι μ:Nat→Nat} (R:RepM s x M ι μ) (hB:qb s) {m:Int} (hm:-1000000≤m∧m≤1000000):RepM { s with h:=s.h.set x (trA (ι M.root) (ι M.cwd) (JJ ι M.fds) m) } x { M with many:=m } ι μ:=by
 have ne:∀ {i:Nat} {o:AO},i≠x→s.h.get i=some o→(s.h.set x (trA (ι M.root) (ι M.cwd) (JJ ι M.fds) m)).get i=some o:=fun hi h=>(qa hi).trans h
 exact⟨fun k nd hk=>⟨ne (R.xi (QP hk)) (R.nd k nd hk).1,ne (R.xm (QP hk)) (R.nd k nd hk).2⟩,hs_same,R.ij,R.mj,R.kd,R.up,R.rt,R.cw,R.f8,R.fd,hm,R.da⟩
theorem Ql {s:St} {o o':AO}:Ext s { h:=(s.alloc o).h.set s.nx o',nx:=s.nx+1 }:=by
 refine⟨Nat.le_succ _,fun i hi=>?_⟩
 have:i≠s.nx:=by omega
 show ((s.h.set s.nx o).set s.nx o').get i=_
 rw[Tr.get_set,if_neg this,Tr.get_set,if_neg this]
theorem zH {s:St} {o o':AO} (hB:qb s):qb { h:=(s.alloc o).h.set s.nx o',nx:=s.nx+1 }:=by
 intro i x hx
 show i < s.nx+1
 by_cases e:i=s.nx
 ·omega
 ·have:((s.h.set s.nx o).set s.nx o').get i=some x:=hx
  rw[Tr.get_set,if_neg e,Tr.get_set,if_neg e] at this
  have:=hB _ _ this
  omega
theorem RepM.extS {s s':St} {x:Nat} {M:Md} {ι μ:Nat→Nat} (R:RepM s x M ι μ) (hB:qb s) (hE:Ext s s'):RepM s' x M ι μ:=by
 have f:∀ {i:Nat} {o:AO},s.h.get i=some o→s'.h.get i=some o:=fun h=>(hE.2 _ (hB _ _ h)).trans h
 exact⟨fun k nd hk=>⟨f (R.nd k nd hk).1,f (R.nd k nd hk).2⟩,f R.tr,R.ij,R.mj,R.kd,R.up,R.rt,R.cw,R.f8,R.fd,R.mn,R.da⟩
theorem zB {e:En}:(celE e)[0]?=some (.str e.1):=(rfl)
theorem zP {e:En}:(celE e)[1]?=some (.raw (.int .i64 e.2.1)):=(rfl)
theorem Qf {e:En}:(celE e)[2]?=some (.raw (.int .i64 e.2.2.1)):=(rfl)
theorem Qi {e:En}:(celE e)[3]?=some (.str e.2.2.2):=(rfl)
theorem qcv {p:List Nat} {n:Nat}:∀ {K:List (List Nat × Nat)} {u:Nat},(∀ q∈K,q.2 < n)→ql p K=some u→u < n
 | [],_,_,h=>by cases h
 | (q,j)::l,u,hK,h=>by
  simp only[ql] at h
  cases hq:eqB p q with
  | true =>
   rw[hq] at h
   cases h
   exact hK (q,j) (List.mem_cons_self ..)
  | false =>
   rw[hq] at h
   exact qcv (fun r hr=>hK r (List.mem_cons_of_mem _ hr)) h
theorem RepM.setO {s:St} {x:Nat} {M:Md} {ι μ:Nat→Nat} (R:RepM s x M ι μ) {i:Nat} {o:AO} (h1:i≠x) (h2:∀ j,j < M.nodes.length→ι j≠i∧μ j≠i):RepM { s with h:=s.h.set i o } x M ι μ:=by
 have ne:∀ {j:Nat} {y:AO},j≠i→s.h.get j=some y→(s.h.set i o).get j=some y:=fun hj h=>(qa hj).trans h
 exact⟨fun k nd hk=>⟨ne (h2 k (QP hk)).1 (R.nd k nd hk).1,ne (h2 k (QP hk)).2 (R.nd k nd hk).2⟩,ne (fun e=>h1 e.symm) R.tr,R.ij,R.mj,R.kd,R.up,R.rt,R.cw,R.f8,R.fd,R.mn,R.da⟩
theorem Vw {s S s6:St} {x am u:Nat} {M:Md} {ι μ:Nat→Nat} {K:List (List Nat × Nat)} {ud:Nd} {e:En} {nm:List Nat} (R:RepM S x M ι μ) (hB:qb S) (hE:Ext s S) (hx:s.nx≤x) (hxa:am≠x) (ha:s.nx≤am) (hat:S.h.get am=some (.map (qL (qP ι K))))
  (hown:∀ j,j < M.nodes.length→s.nx≤ι j∧s.nx≤μ j∧ι j≠am∧μ j≠am) (hud:M.T u=some ud) (hld:e.2.2.2.length≤1024) (hK:∀ q∈K,q.2 < M.nodes.length)
  (hnx:s6.nx=S.nx+2) (hC:Chg ((S.alloc (.map [])).alloc (ndA ⟨e.2.1,e.2.2.1,e.2.2.2,[],none,[],S.nx⟩)) s6 [(S.nx+1,ndA ⟨e.2.1,e.2.2.1,e.2.2.2,[],some (ι u),nm,S.nx⟩),(μ u,.map (qL (setK nm (S.nx+1) (qP ι ud.kids))))]) (hB6:qb s6) :
  s6.h.get am=some (.map (qL (qP ι K)))∧(∀ i cs fz,S.h.get i=some (.cells cs 34 fz)→s6.h.get i=some (.cells cs 34 fz)) ∧
  Ext s { s6 with h:=s6.h.set am (.map (qL (setK e.1 (S.nx+1) (qP ι K)))) }∧qb { s6 with h:=s6.h.set am (.map (qL (setK e.1 (S.nx+1) (qP ι K)))) } ∧
  RepM { s6 with h:=s6.h.set am (.map (qL (setK e.1 (S.nx+1) (qP ι K)))) } x (Wn M u ud nm ⟨e.2.1,e.2.2.1,e.2.2.2,[],some u,nm,0⟩) (qh4 ι M.nodes.length (S.nx+1)) (qh4 μ M.nodes.length S.nx) ∧
  (s6.h.set am (.map (qL (setK e.1 (S.nx+1) (qP ι K))))).get am=some (.map (qL (qP (qh4 ι M.nodes.length (S.nx+1)) (setK e.1 M.nodes.length K)))) ∧
  (∀ j,j < (Wn M u ud nm ⟨e.2.1,e.2.2.1,e.2.2.2,[],some u,nm,0⟩).nodes.length→s.nx≤qh4 ι M.nodes.length (S.nx+1) j∧s.nx≤qh4 μ M.nodes.length S.nx j∧qh4 ι M.nodes.length (S.nx+1) j≠am∧qh4 μ M.nodes.length S.nx j≠am) ∧
  (∀ q∈setK e.1 M.nodes.length K,q.2 < (Wn M u ud nm ⟨e.2.1,e.2.2.1,e.2.2.2,[],some u,nm,0⟩).nodes.length):=by
 have hul:=QP hud
 have hlm:=R.lm hB hul
 have hli:=R.li hB hul
 have haS:=hB _ _ hat
 have hxS:=R.lx hB
 have hsS:=hE.1
 have fr:∀ j,j < S.nx→j≠μ u→s6.h.get j=S.h.get j:=by
  intro j hj hm
  have h2:s6.h.get j=((S.alloc (.map [])).alloc (ndA ⟨e.2.1,e.2.2.1,e.2.2.2,[],none,[],S.nx⟩)).h.get j:=hC.2.2 j (by show j < S.nx+1+1;omega) (by
   intro q hq
   simp only[List.mem_cons,List.not_mem_nil,or_false] at hq
   rcases hq with rfl|rfl
   ·show j≠S.nx+1
    omega
   ·exact hm)
  rw[h2]
  exact (zm (by show j≠S.nx+1;omega)).trans (zm (by omega))
 have hc1:s6.h.get (S.nx+1)=some (ndA ⟨e.2.1,e.2.2.1,e.2.2.2,[],some (ι u),nm,S.nx⟩):=hC.2.1 (S.nx+1,_) (List.mem_cons_self ..)
 have hc2:s6.h.get (μ u)=some (.map (qL (setK nm (S.nx+1) (qP ι ud.kids)))):=hC.2.1 (μ u,_) (List.mem_cons_of_mem _ (List.mem_cons_self ..))
 have hc3:s6.h.get S.nx=some (.map []):=by
  have h2:s6.h.get S.nx=((S.alloc (.map [])).alloc (ndA ⟨e.2.1,e.2.2.1,e.2.2.2,[],none,[],S.nx⟩)).h.get S.nx:=hC.2.2 S.nx (by show S.nx < S.nx+1+1;omega) (by
   intro q hq
   simp only[List.mem_cons,List.not_mem_nil,or_false] at hq
   rcases hq with rfl|rfl
   ·show S.nx≠S.nx+1
    omega
   ·show S.nx≠μ u
    omega)
  rw[h2]
  exact (zm (by show S.nx≠S.nx+1;omega)).trans qt
 have hlen:(Wn M u ud nm ⟨e.2.1,e.2.2.1,e.2.2.2,[],some u,nm,0⟩).nodes.length=M.nodes.length+1:=by simp[Wn]
 have u1:∀ {a:Nat→Nat} {N j:Nat},j < M.nodes.length→qh4 a M.nodes.length N j=a j:=fun h=>if_neg (by omega)
 have u2:∀ {a:Nat→Nat} {N:Nat},qh4 a M.nodes.length N M.nodes.length=N:=if_pos rfl
 have hat6:s6.h.get am=some (.map (qL (qP ι K))):=(fr am haS (fun h=>(hown u hul).2.2.2 h.symm)).trans hat
 have R6:=qqx R hB hud (kind:=e.2.1) (mode:=e.2.2.1) (data:=e.2.2.2) (nm:=nm) (N:=S.nx+1) (mp:=S.nx) (s':=s6) (by omega) (by omega) hc2 fr ⟨hc1,hc3⟩ (Nat.le_refl _) (by omega)
 refine⟨hat6,fun i cs fz hi=>?_,⟨by show s.nx≤s6.nx;omega,fun i hi=>?_⟩,qe hB6 (hB6 _ _ hat6) _,?_,?_,?_,?_⟩
 ·have h1:=hB _ _ hi
  refine (fr i h1 (fun h=>?_)).trans hi
  rw[h] at hi
  have:=(R.nd u ud hud).2
  have h2:S.h.get (μ u)=some (.map (qL (qP ι ud.kids))):=this
  rw[h2] at hi
  cases hi
 ·show (s6.h.set am _).get i=_
  rw[qa (by omega)]
  have:=(hown u hul).2.1
  exact (fr i (by omega) (by omega)).trans (hE.2 i hi)
 ·refine R6.setO hxa (fun j hj=>?_)
  rw[hlen] at hj
  by_cases h:j=M.nodes.length
  ·subst h
   rw[u2,u2]
   omega
  ·rw[u1 (by omega),u1 (by omega)]
   exact (hown j (by omega)).2.2
 ·rw[hs_same,← KK,u2]
  have:qP (qh4 ι M.nodes.length (S.nx+1)) K=qP ι K:=Yc fun q hq=>u1 (hK q hq)
  rw[this]
 ·intro j hj
  rw[hlen] at hj
  by_cases h:j=M.nodes.length
  ·subst h
   rw[u2,u2]
   omega
  ·rw[u1 (by omega),u1 (by omega)]
   exact hown j (by omega)
 ·intro q hq
  rw[hlen]
  rcases XD hq with h|h
  ·omega
  ·have:=hK q h
   omega
def WorldF (b:Nat) (s:St) (x:Nat) (M:Md) (L:List (Nat × AO)):Prop:=qb s∧b≤x∧∃ ι μ,RepM s x M ι μ∧(∀ j,j < M.nodes.length→b≤ι j∧b≤μ j)∧∀ q∈L,s.h.get q.1=some q.2∧¬ Own x M ι μ q.1
theorem WorldF.world {b:Nat} {s:St} {x:Nat} {M:Md} {L:List (Nat × AO)} (h:WorldF b s x M L):World s x M L:=by
 obtain⟨hB,_,ι,μ,R,_,hL⟩:=h
 exact⟨hB,ι,μ,R,hL⟩
theorem q1t {s:St} (H:Ok TE Tryz.prog pr3) (hB:qb s) {V:AV} {es:List En} (hV:EsV s V es) (hp:∀ e∈es,e.1.length≤1048575) (hn0:es.length < 1000000000) {kr kp:AV→St→Bool}
  (hk:∀ s' x M,ofT es=some M→Ext s s'→WorldF s.nx s' x M []→kr (.tuple [.ptr x 0,.raw (.int .i64 0)]) s'=true)
  (hf:∀ s',ofT es=none→Ext s s'→qb s'→kr (.tuple [.raw (.pointer none),.raw (.int .i64 500)]) s'=true) :
  (sem Tryz.prog).call 50 [V] s kr kp=true:=by
 refine qk H 91 q6s rfl rfl ?_
 have vl:=hV.len
 have vi:=hV.ids
 repeat (first|with_reducible (refine q9 H ?_;constructor)|simp only[rB,rP,rQ,q8,qf,q7,qc,reduceIte,Nat.reduceAdd,Nat.reduceLT,Nat.reduceEqDiff,pe3,pf3])
 refine q3a H hB (fun s1 hE1 hB1 hnx R1=>?_)
 unfold ofT at hk hf
 by_cases hl:es.length > 128
 ·have g0:decide ((es.length:Int) > 128)=true:=by rw[decide_eq_true_eq];omega
  repeat (first|with_reducible (refine q9 H ?_;constructor)|simp only[rB,rP,rQ,q8,qf,q7,qc,reduceIte,Nat.reduceAdd,Nat.reduceLT,Nat.reduceEqDiff,pe3,pf3,vl,vi,zv,g0,Tryz.results50])
  exact hf s1 (by rw[g0];rfl) hE1 hB1
 have g0:decide ((es.length:Int) > 128)=false:=by rw[decide_eq_false_iff_not];omega
 rw[g0] at hk hf
 simp only[cond_false] at hk hf
 have hx:=R1.tr
 unfold trA at hx
 have hm0:(s1.alloc (.map [])).h.get s1.nx=some (.map (qL [])):=qt
 have up:=VI (p:=[]) (j:=s.nx+1) hm0
 have x1:(s.nx+2=s1.nx)=False:=by simp;omega
 repeat (first|with_reducible (refine q9 H ?_;constructor)|simp only[rB,rP,rQ,q8,qf,q7,qc,reduceIte,Nat.reduceAdd,Nat.reduceLT,Nat.reduceEqDiff,pe3,pf3,vl,vi,zv,g0,q44,qK,hx,x1,up])
 have hE2:Ext s { h:=(s1.alloc (.map [])).h.set s1.nx (.map (qL (setK [] (s.nx+1) []))),nx:=s1.nx+1 }:=hE1.trans Ql
 have hB2:qb { h:=(s1.alloc (.map [])).h.set s1.nx (.map (qL (setK [] (s.nx+1) []))),nx:=s1.nx+1 }:=zH hB1
 have hR2:RepM { h:=(s1.alloc (.map [])).h.set s1.nx (.map (qL (setK [] (s.nx+1) []))),nx:=s1.nx+1 } (s.nx+2) MZ (fun _=>s.nx+1) (fun _=>s.nx):=R1.extS hB1 Ql
 refine qZ H (fun n t s'=>∃ (k:Nat) (M:Md) (K:List (List Nat × Nat)) (ι μ:Nat→Nat) (pv:Option (List Nat)),n+k=es.length∧tg t 0=V∧tg t 4=.ptr (s.nx+2) 0∧tg t 5=.map s1.nx∧tg t 20=V∧tg t 21=.raw (.int .i64 (es.length:Int))∧tg t 22=.raw (.int .i64 (k:Int)) ∧
  Ext s s'∧qb s'∧RepM s' (s.nx+2) M ι μ∧s'.h.get s1.nx=some (.map (qL (qP ι K)))∧(∀ j,j < M.nodes.length→s.nx≤ι j∧s.nx≤μ j∧ι j≠s1.nx∧μ j≠s1.nx)∧(k=0∧pv=none∨∃ e,0 < k∧es[k - 1]?=some e∧pv=some e.1∧e.1.length≤140)∧M.many=0∧(∀ q∈K,q.2 < M.nodes.length) ∧
  Yh es MZ [([],0)] none=Yh (es.drop k) M K pv) (n:=es.length)
  ⟨0,MZ,[([],0)],fun _=>s.nx+1,fun _=>s.nx,none,rfl,by simp only[rB,rP,rQ,q8,qf,q7,qc,reduceIte,Nat.reduceAdd,Nat.reduceLT,Nat.reduceEqDiff],by simp only[rB,rP,rQ,q8,qf,q7,qc,reduceIte,Nat.reduceAdd,Nat.reduceLT,Nat.reduceEqDiff],by simp only[rB,rP,rQ,q8,qf,q7,qc,reduceIte,Nat.reduceAdd,Nat.reduceLT,Nat.reduceEqDiff],by simp only[rB,rP,rQ,q8,qf,q7,qc,reduceIte,Nat.reduceAdd,Nat.reduceLT,Nat.reduceEqDiff],by simp only[rB,rP,rQ,q8,qf,q7,qc,reduceIte,Nat.reduceAdd,Nat.reduceLT,Nat.reduceEqDiff],by simp only[rB,rP,rQ,q8,qf,q7,qc,reduceIte,Nat.reduceAdd,Nat.reduceLT,Nat.reduceEqDiff];rfl,hE2,hB2,hR2,hs_same,fun j hj=>⟨by show s.nx≤s.nx+1;omega,Nat.le_refl _,by show s.nx+1≠s1.nx;omega,by show s.nx≠s1.nx;omega⟩,Or.inl ⟨rfl,rfl⟩,rfl,fun q hq=>by simp at hq;subst hq;decide,rfl⟩ ?_
 rintro n t s' ih ⟨k,M,K,ι,μ,pv,hnk,t0,t4,t5,t20,t21,t22,hE,hB',R,hat,hown,hpv,hmany,hK,hrun⟩
 have hV':=hV.ext hB hE
 cases n with
 | zero =>
  have g1:decide ((k:Int) < (es.length:Int))=false:=by rw[decide_eq_false_iff_not];omega
  rw[List.drop_eq_nil_of_le (by omega)] at hrun
  simp only[Yh] at hrun
  obtain⟨f0,f1,f2,f3,f4,f5,f6,f7,h8⟩:=R.tr8
  have hx':=R.tr
  rw[h8] at hx'
  have R':=R.manyS hB' (m:=(es.length:Int)) (by omega)
  rw[h8] at R'
  repeat (first|with_reducible (refine q9 H ?_;constructor)|simp only[rB,rP,rQ,q8,qf,q7,qc,reduceIte,Nat.reduceAdd,Nat.reduceLT,Nat.reduceEqDiff,pe3,pf3,t0,t4,t5,t20,t21,t22,zX,g1,vl,vi,q6u,Yo,hx',Tryz.results50])
  refine hk _ _ _ (by rw[hrun]) ⟨hE.1,fun i hi=>?_⟩ ⟨qe hB' (hB' _ _ hx') _,by omega,ι,μ,R',fun j hj=>⟨(hown j hj).1,(hown j hj).2.1⟩,fun q hq=>by cases hq⟩
  show (s'.h.set (s.nx+2) _).get i=_
  rw[qa (by omega)]
  exact hE.2 i hi
 | succ n =>
  have hlt:k < es.length:=by omega
  have g1:decide ((k:Int) < (es.length:Int))=true:=by rw[decide_eq_true_eq];omega
  have hke:es[k]?=some es[k]:=List.getElem?_eq_getElem hlt
  rw[List.drop_eq_getElem_cons hlt] at hrun
  have hmem:es[k]∈es:=List.getElem_mem hlt
  generalize es[k]=e at hke hrun hmem
  simp only[Yh] at hrun
  obtain⟨id,o,y1,y2,y3,y4,-⟩:=hV'.idx hke
  have hB3:qb { h:=(s'.alloc (.cells [.str [],.raw (.int .i64 0),.raw (.int .i64 0),.str []] 34 0)).h.set s'.nx (.cells (celE e) 34 0),nx:=s'.nx+1 }:=zH hB'
  have hE3:Ext s' { h:=(s'.alloc (.cells [.str [],.raw (.int .i64 0),.raw (.int .i64 0),.str []] 34 0)).h.set s'.nx (.cells (celE e) 34 0),nx:=s'.nx+1 }:=Ql
  have c3:({ h:=(s'.alloc (.cells [.str [],.raw (.int .i64 0),.raw (.int .i64 0),.str []] 34 0)).h.set s'.nx (.cells (celE e) 34 0),nx:=s'.nx+1 }:St).h.get s'.nx=some (.cells (celE e) 34 0):=hs_same
  repeat (first|with_reducible (refine q9 H ?_;constructor)|simp only[rB,rP,rQ,q8,qf,q7,qc,reduceIte,Nat.reduceAdd,Nat.reduceLT,Nat.reduceEqDiff,pe3,pf3,t0,t4,t5,t20,t21,t22,zX,g1,y1,y2,y4,Ji,KB,Jl,Zf,QE]|(with_reducible refine qq H (i:=8) (.take 0 (.alt 1 [0] (.take 2 (.take 3 (.take 4 (.take 5 (.take 6 (.take 7 (.take 8 (.take 9 (.take 10 (.take 11 (.take 12 (.take 13 (.take 14 (.alt 15 [0,1,2,3,4,5,6,7,8,9,10,11,12,13,14] (.take 16 (.take 17 (.take 18 (.done)))) (.yes))))))))))))))) (.yes))) rfl (by kernel_rfl) ?_)|(refine q4h H hB3 (hp e hmem) (fun s4 hE4 hB4=>?_)))
  have c4:s4.h.get s'.nx=some (.cells (celE e) 34 0):=(hE4.2 _ (by show s'.nx < s'.nx+1;omega)).trans c3
  have hE24:Ext s' s4:=hE3.trans hE4
  have hEs4:Ext s s4:=hE.trans hE24
  cases hm:V7 e with
  | false =>
   rw[hm] at hrun
   repeat (first|with_reducible (refine q9 H ?_;constructor)|simp only[rB,rP,rQ,q8,qf,q7,qc,reduceIte,Nat.reduceAdd,Nat.reduceLT,Nat.reduceEqDiff,pe3,pf3,t0,t4,t5,t20,t21,t22,hm,Bool.not_false,c4,Tryz.results50]|(with_reducible refine qq H (i:=8) (.take 0 (.alt 1 [0] (.take 2 (.take 3 (.take 4 (.take 5 (.take 6 (.take 7 (.take 8 (.take 9 (.take 10 (.take 11 (.take 12 (.take 13 (.take 14 (.alt 15 [0,1,2,3,4,5,6,7,8,9,10,11,12,13,14] (.take 16 (.take 17 (.take 18 (.done)))) (.yes))))))))))))))) (.yes))) rfl (by kernel_rfl) ?_))
   exact hf s4 (by rw[hrun];rfl) hEs4 hB4
  | true =>
  rw[hm,cond_true] at hrun
  obtain⟨hle,hld⟩:=qmy hm
  have hcl:=qbt (p:=e.1)
  have sl2:zq TE 9 (.str e.1) none (some (.raw (.int .i64 (Y2 e.1:Int)))) none=some (.str (e.1.take (Y2 e.1))):=by
   rw[Xq,WK QW hcl]
   simp
  have sl3:zq TE 9 (.str e.1) (some (.raw (.int .i64 (Y2 e.1:Int)))) none none=some (.str (e.1.drop (Y2 e.1))):=by
   rw[Xq,qk8 QW hcl (Nat.le_refl _)]
   simp only
   rw[List.take_of_length_le (by simp)]
  rcases hpv with⟨hk0,rfl⟩|⟨e',hk1,hke',rfl,hl'⟩
  ·have g2:decide ((k:Int) > 0)=false:=by rw[hk0];rfl
   simp only[cond_true] at hrun
   have hVS:=hV.ext hB hEs4
   have RS:=R.extS hB' hE24
   have hatS:s4.h.get s1.nx=some (.map (qL (qP ι K))):=(hE24.2 _ (hB' _ _ hat)).trans hat
   have cS:s4.h.get s'.nx=some (.cells (celE e) 34 0):=c4
   have lk:=Yq (p:=e.1.take (Y2 e.1)) hatS
   have ia:∀ b,inO (s4.h.get s1.nx) b=b:=fun b=>by rw[hatS];rfl
   rw[QG] at lk
   repeat (first|with_reducible (refine q9 H ?_;constructor)|simp only[rB,rP,rQ,q8,qf,q7,qc,reduceIte,Nat.reduceAdd,Nat.reduceLT,Nat.reduceEqDiff,pe3,pf3,t0,t4,t5,t20,t21,t22,hm,Bool.not_true,cS,qi,qA,zW,zB,zP,Qf,Qi,zv,g2]|(with_reducible refine qq H (i:=8) (.take 0 (.alt 1 [0] (.take 2 (.take 3 (.take 4 (.take 5 (.take 6 (.take 7 (.take 8 (.take 9 (.take 10 (.take 11 (.take 12 (.take 13 (.take 14 (.alt 15 [0,1,2,3,4,5,6,7,8,9,10,11,12,13,14] (.take 16 (.take 17 (.take 18 (.done)))) (.yes))))))))))))))) (.yes))) rfl (by kernel_rfl) ?_))
   refine qgl H (b:=e.1) (c:=47) (by omega) ?_
   cases hlk:ql (e.1.take (Y2 e.1)) K with
   | none =>
    rw[hlk] at lk hrun
    simp only[Option.map_none,QI] at lk
    repeat (first|with_reducible (refine q9 H ?_;constructor)|simp only[rB,rP,rQ,q8,qf,q7,qc,reduceIte,Nat.reduceAdd,Nat.reduceLT,Nat.reduceEqDiff,pe3,pf3,t0,t4,t5,t20,t21,t22,cS,qi,qA,zW,zB,zP,Qf,Qi,Xh,sl2,lk,ia,Vv,Q4,Zx,qJ,Tryz.results50])
    exact hf s4 (by rw[hrun]) hEs4 hB4
   | some u =>
    rw[hlk] at lk hrun
    simp only[Option.map_some,QI] at lk
    obtain⟨ud,hud⟩:=qa9 (M:=M) (k:=u) (qcv hK hlk)
    simp only[hud] at hrun
    have hnd:=RS.nd u ud hud
    have hn1:=hnd.1
    unfold ndA Nd.to at hn1
    cases hkd:ud.kind != 1 with
    | true =>
     rw[hkd] at hrun
     repeat (first|with_reducible (refine q9 H ?_;constructor)|simp only[rB,rP,rQ,q8,qf,q7,qc,reduceIte,Nat.reduceAdd,Nat.reduceLT,Nat.reduceEqDiff,pe3,pf3,t0,t4,t5,t20,t21,t22,cS,qi,qA,zW,zB,zP,Qf,Qi,Xh,sl2,lk,ia,Zh,Q3,Qe,qD,hn1,qB,hkd,Tryz.results50])
     exact hf s4 (by rw[hrun];rfl) hEs4 hB4
    | false =>
     rw[hkd,cond_false] at hrun
     repeat (first|with_reducible (refine q9 H ?_;constructor)|simp only[rB,rP,rQ,q8,qf,q7,qc,reduceIte,Nat.reduceAdd,Nat.reduceLT,Nat.reduceEqDiff,pe3,pf3,t0,t4,t5,t20,t21,t22,cS,qi,qA,zW,zB,zP,Qf,Qi,Xh,sl2,lk,ia,Zh,Q3,Qe,qD,hn1,qB,hkd])
     have hnS:s4.h.get (μ u)=some (.map (qL (qP ι ud.kids))):=hnd.2
     have hul:=QP hud
     have hlu:=RS.li hB4 hul
     have hlm:=RS.lm hB4 hul
     have hs7:s'.nx < s4.nx:=hB4 _ _ cS
     have n7:(s'.nx=s4.nx)=False:=by simp;omega
     have n8:(s'.nx=s4.nx+1)=False:=by simp;omega
     have n9:(s4.nx=s4.nx+1)=False:=by simp
     have hE6':Ext s4 ((s4.alloc (.map [])).alloc (ndA ⟨e.2.1,e.2.2.1,e.2.2.2,[],none,[],s4.nx⟩)):=(Ext.alloc _ _).trans (Ext.alloc _ _)
     have hB6':qb ((s4.alloc (.map [])).alloc (ndA ⟨e.2.1,e.2.2.1,e.2.2.2,[],none,[],s4.nx⟩)):=z8 (z8 hB4 _) _
     have hu6:qfz ((s4.alloc (.map [])).alloc (ndA ⟨e.2.1,e.2.2.1,e.2.2.2,[],none,[],s4.nx⟩)) (ι u) (ud.to ι (μ u)):=⟨(hE6'.2 _ hlu).trans hnd.1,(hE6'.2 _ hlm).trans hnd.2⟩
     have hj6:((s4.alloc (.map [])).alloc (ndA ⟨e.2.1,e.2.2.1,e.2.2.2,[],none,[],s4.nx⟩)).h.get (s4.nx+1)=some (ndA ⟨e.2.1,e.2.2.1,e.2.2.2,[],none,[],s4.nx⟩):=qt
     have ew:IntKind.i64.wrap ((k:Int)+1)=((k+1:Nat):Int):=by
      rw[show (k:Int)+1=((k+1:Nat):Int) from by simp]
      exact qM (by omega)
     have hne6:ι u≠s4.nx+1:=by omega
     repeat (first|with_reducible (refine q9 H ?_;constructor)|simp only[rB,rP,rQ,q8,qf,q7,qc,reduceIte,Nat.reduceAdd,Nat.reduceLT,Nat.reduceEqDiff,pe3,pf3,t0,t4,t5,t20,t21,t22,cS,qi,qr,qo,qp,qA,qD,zB,zP,Qf,Qi,sl3,WR,qd,qW,n7,n8,n9]|(with_reducible refine qq H (i:=14) (.take 0 (.take 1 (.take 2 (.take 3 (.take 4 (.take 5 (.take 6 (.take 7 (.take 9 (.take 10 (.take 11 (.take 12 (.take 13 (.take 14 (.alt 8 [4,5,6,7] (.alt 15 [] (.take 16 (.alt 17 [9,10,11,12,13,14,15,16] (.alt 18 [3,4,5,6,7,8,9,10,11,12,13,14,15,16,17] (.alt 19 [0,1,2,3,4,5,6,7,8,9,10,11,12,13,14,15,16,17,18] (.done) (.yes)) (.yes)) (.yes))) (.yes)) (.alt 15 [] (.take 16 (.alt 8 [4,5,6,7] (.alt 17 [9,10,11,12,13,14,15,16] (.alt 18 [3,4,5,6,7,8,9,10,11,12,13,14,15,16,17] (.alt 19 [0,1,2,3,4,5,6,7,8,9,10,11,12,13,14,15,16,17,18] (.done) (.yes)) (.yes)) (.yes)) (.alt 17 [9,10,11,12,13,14,15,16] (.alt 8 [4,5,6,7] (.alt 18 [3,4,5,6,7,8,9,10,11,12,13,14,15,16,17] (.alt 19 [0,1,2,3,4,5,6,7,8,9,10,11,12,13,14,15,16,17,18] (.done) (.yes)) (.yes)) (.yes)) (.yes)))) (.yes))))))))))))))))) rfl (by kernel_rfl) ?_))
     refine Bool.and_eq_true_iff.mpr ⟨?_,?_⟩
     ·refine qag H ?_
      repeat (first|with_reducible (refine q9 H ?_;constructor)|simp only[rB,rP,rQ,q8,qf,q7,qc,reduceIte,Nat.reduceAdd,Nat.reduceLT,Nat.reduceEqDiff,pe3,pf3,t0,t4,t5,t20,t21,t22,cS,qi,qr,qo,qp,qA,qD,zB,zP,Qf,Qi,sl3,WR,qd,qW,n7,n8,n9]|(with_reducible refine qq H (i:=14) (.take 0 (.take 1 (.take 2 (.take 3 (.take 4 (.take 5 (.take 6 (.take 7 (.take 9 (.take 10 (.take 11 (.take 12 (.take 13 (.take 14 (.alt 8 [4,5,6,7] (.alt 15 [] (.take 16 (.alt 17 [9,10,11,12,13,14,15,16] (.alt 18 [3,4,5,6,7,8,9,10,11,12,13,14,15,16,17] (.alt 19 [0,1,2,3,4,5,6,7,8,9,10,11,12,13,14,15,16,17,18] (.done) (.yes)) (.yes)) (.yes))) (.yes)) (.alt 15 [] (.take 16 (.alt 8 [4,5,6,7] (.alt 17 [9,10,11,12,13,14,15,16] (.alt 18 [3,4,5,6,7,8,9,10,11,12,13,14,15,16,17] (.alt 19 [0,1,2,3,4,5,6,7,8,9,10,11,12,13,14,15,16,17,18] (.done) (.yes)) (.yes)) (.yes)) (.alt 17 [9,10,11,12,13,14,15,16] (.alt 8 [4,5,6,7] (.alt 18 [3,4,5,6,7,8,9,10,11,12,13,14,15,16,17] (.alt 19 [0,1,2,3,4,5,6,7,8,9,10,11,12,13,14,15,16,17,18] (.done) (.yes)) (.yes)) (.yes)) (.yes)))) (.yes))))))))))))))))) rfl (by kernel_rfl) ?_))
      refine Vo H hB6' hu6 hj6 hne6 (fun s6 hnx6 hC6 hB6=>?_)
      obtain⟨hat6,hkeep,q1,q2,q3,q4,q5,q6⟩:=Vw (e:=e) RS hB4 hEs4 (by omega) (by omega) (by omega) hatS hown hud hld hK hnx6 hC6 hB6
      have c6:=hkeep _ _ _ cS
      have up6:=VI (p:=e.1) (j:=s4.nx+1) hat6
      repeat (first|with_reducible (refine q9 H ?_;constructor)|simp only[rB,rP,rQ,q8,qf,q7,qc,reduceIte,Nat.reduceAdd,Nat.reduceLT,Nat.reduceEqDiff,pe3,pf3,t0,t4,t5,t20,t21,t22,cS,c6,up6,qO,ew,qW,zB,zP,Qf,Qi,n7,n8,n9]|(with_reducible refine qq H (i:=14) (.take 0 (.take 1 (.take 2 (.take 3 (.take 4 (.take 5 (.take 6 (.take 7 (.take 9 (.take 10 (.take 11 (.take 12 (.take 13 (.take 14 (.alt 8 [4,5,6,7] (.alt 15 [] (.take 16 (.alt 17 [9,10,11,12,13,14,15,16] (.alt 18 [3,4,5,6,7,8,9,10,11,12,13,14,15,16,17] (.alt 19 [0,1,2,3,4,5,6,7,8,9,10,11,12,13,14,15,16,17,18] (.done) (.yes)) (.yes)) (.yes))) (.yes)) (.alt 15 [] (.take 16 (.alt 8 [4,5,6,7] (.alt 17 [9,10,11,12,13,14,15,16] (.alt 18 [3,4,5,6,7,8,9,10,11,12,13,14,15,16,17] (.alt 19 [0,1,2,3,4,5,6,7,8,9,10,11,12,13,14,15,16,17,18] (.done) (.yes)) (.yes)) (.yes)) (.alt 17 [9,10,11,12,13,14,15,16] (.alt 8 [4,5,6,7] (.alt 18 [3,4,5,6,7,8,9,10,11,12,13,14,15,16,17] (.alt 19 [0,1,2,3,4,5,6,7,8,9,10,11,12,13,14,15,16,17,18] (.done) (.yes)) (.yes)) (.yes)) (.yes)))) (.yes))))))))))))))))) rfl (by kernel_rfl) ?_))
      exact ih n _ _ (Nat.lt_succ_self n) ⟨k+1,_,_,_,_,some e.1,by omega,by simp only[rB,rP,rQ,q8,qf,q7,qc,reduceIte,Nat.reduceAdd,Nat.reduceLT,Nat.reduceEqDiff,t0],by simp only[rB,rP,rQ,q8,qf,q7,qc,reduceIte,Nat.reduceAdd,Nat.reduceLT,Nat.reduceEqDiff,t4],by simp only[rB,rP,rQ,q8,qf,q7,qc,reduceIte,Nat.reduceAdd,Nat.reduceLT,Nat.reduceEqDiff,t5],by simp only[rB,rP,rQ,q8,qf,q7,qc,reduceIte,Nat.reduceAdd,Nat.reduceLT,Nat.reduceEqDiff,t20],by simp only[rB,rP,rQ,q8,qf,q7,qc,reduceIte,Nat.reduceAdd,Nat.reduceLT,Nat.reduceEqDiff,t21],by simp only[rB,rP,rQ,q8,qf,q7,qc,reduceIte,Nat.reduceAdd,Nat.reduceLT,Nat.reduceEqDiff],q1,q2,q3,q4,q5,Or.inr ⟨e,Nat.succ_pos k,by simpa using hke,rfl,hle⟩,hmany,q6,hrun⟩
     ·repeat (first|with_reducible (refine q9 H ?_;constructor)|simp only[rB,rP,rQ,q8,qf,q7,qc,reduceIte,Nat.reduceAdd,Nat.reduceLT,Nat.reduceEqDiff,pe3,pf3,t0,t4,t5,t20,t21,t22,cS,qi,qr,qo,qp,qA,qD,zB,zP,Qf,Qi,sl3,WR,qd,qW,n7,n8,n9]|(with_reducible refine qq H (i:=14) (.take 0 (.take 1 (.take 2 (.take 3 (.take 4 (.take 5 (.take 6 (.take 7 (.take 9 (.take 10 (.take 11 (.take 12 (.take 13 (.take 14 (.alt 8 [4,5,6,7] (.alt 15 [] (.take 16 (.alt 17 [9,10,11,12,13,14,15,16] (.alt 18 [3,4,5,6,7,8,9,10,11,12,13,14,15,16,17] (.alt 19 [0,1,2,3,4,5,6,7,8,9,10,11,12,13,14,15,16,17,18] (.done) (.yes)) (.yes)) (.yes))) (.yes)) (.alt 15 [] (.take 16 (.alt 8 [4,5,6,7] (.alt 17 [9,10,11,12,13,14,15,16] (.alt 18 [3,4,5,6,7,8,9,10,11,12,13,14,15,16,17] (.alt 19 [0,1,2,3,4,5,6,7,8,9,10,11,12,13,14,15,16,17,18] (.done) (.yes)) (.yes)) (.yes)) (.alt 17 [9,10,11,12,13,14,15,16] (.alt 8 [4,5,6,7] (.alt 18 [3,4,5,6,7,8,9,10,11,12,13,14,15,16,17] (.alt 19 [0,1,2,3,4,5,6,7,8,9,10,11,12,13,14,15,16,17,18] (.done) (.yes)) (.yes)) (.yes)) (.yes)))) (.yes))))))))))))))))) rfl (by kernel_rfl) ?_))
      refine Bool.and_eq_true_iff.mpr ⟨?_,?_⟩
      ·refine qag H ?_
       repeat (first|with_reducible (refine q9 H ?_;constructor)|simp only[rB,rP,rQ,q8,qf,q7,qc,reduceIte,Nat.reduceAdd,Nat.reduceLT,Nat.reduceEqDiff,pe3,pf3,t0,t4,t5,t20,t21,t22,cS,qi,qr,qo,qp,qA,qD,zB,zP,Qf,Qi,sl3,WR,qd,qW,n7,n8,n9]|(with_reducible refine qq H (i:=14) (.take 0 (.take 1 (.take 2 (.take 3 (.take 4 (.take 5 (.take 6 (.take 7 (.take 9 (.take 10 (.take 11 (.take 12 (.take 13 (.take 14 (.alt 8 [4,5,6,7] (.alt 15 [] (.take 16 (.alt 17 [9,10,11,12,13,14,15,16] (.alt 18 [3,4,5,6,7,8,9,10,11,12,13,14,15,16,17] (.alt 19 [0,1,2,3,4,5,6,7,8,9,10,11,12,13,14,15,16,17,18] (.done) (.yes)) (.yes)) (.yes))) (.yes)) (.alt 15 [] (.take 16 (.alt 8 [4,5,6,7] (.alt 17 [9,10,11,12,13,14,15,16] (.alt 18 [3,4,5,6,7,8,9,10,11,12,13,14,15,16,17] (.alt 19 [0,1,2,3,4,5,6,7,8,9,10,11,12,13,14,15,16,17,18] (.done) (.yes)) (.yes)) (.yes)) (.alt 17 [9,10,11,12,13,14,15,16] (.alt 8 [4,5,6,7] (.alt 18 [3,4,5,6,7,8,9,10,11,12,13,14,15,16,17] (.alt 19 [0,1,2,3,4,5,6,7,8,9,10,11,12,13,14,15,16,17,18] (.done) (.yes)) (.yes)) (.yes)) (.yes)))) (.yes))))))))))))))))) rfl (by kernel_rfl) ?_))
       refine Vo H hB6' hu6 hj6 hne6 (fun s6 hnx6 hC6 hB6=>?_)
       obtain⟨hat6,hkeep,q1,q2,q3,q4,q5,q6⟩:=Vw (e:=e) RS hB4 hEs4 (by omega) (by omega) (by omega) hatS hown hud hld hK hnx6 hC6 hB6
       have c6:=hkeep _ _ _ cS
       have up6:=VI (p:=e.1) (j:=s4.nx+1) hat6
       repeat (first|with_reducible (refine q9 H ?_;constructor)|simp only[rB,rP,rQ,q8,qf,q7,qc,reduceIte,Nat.reduceAdd,Nat.reduceLT,Nat.reduceEqDiff,pe3,pf3,t0,t4,t5,t20,t21,t22,cS,c6,up6,qO,ew,qW,zB,zP,Qf,Qi,n7,n8,n9]|(with_reducible refine qq H (i:=14) (.take 0 (.take 1 (.take 2 (.take 3 (.take 4 (.take 5 (.take 6 (.take 7 (.take 9 (.take 10 (.take 11 (.take 12 (.take 13 (.take 14 (.alt 8 [4,5,6,7] (.alt 15 [] (.take 16 (.alt 17 [9,10,11,12,13,14,15,16] (.alt 18 [3,4,5,6,7,8,9,10,11,12,13,14,15,16,17] (.alt 19 [0,1,2,3,4,5,6,7,8,9,10,11,12,13,14,15,16,17,18] (.done) (.yes)) (.yes)) (.yes))) (.yes)) (.alt 15 [] (.take 16 (.alt 8 [4,5,6,7] (.alt 17 [9,10,11,12,13,14,15,16] (.alt 18 [3,4,5,6,7,8,9,10,11,12,13,14,15,16,17] (.alt 19 [0,1,2,3,4,5,6,7,8,9,10,11,12,13,14,15,16,17,18] (.done) (.yes)) (.yes)) (.yes)) (.alt 17 [9,10,11,12,13,14,15,16] (.alt 8 [4,5,6,7] (.alt 18 [3,4,5,6,7,8,9,10,11,12,13,14,15,16,17] (.alt 19 [0,1,2,3,4,5,6,7,8,9,10,11,12,13,14,15,16,17,18] (.done) (.yes)) (.yes)) (.yes)) (.yes)))) (.yes))))))))))))))))) rfl (by kernel_rfl) ?_))
       exact ih n _ _ (Nat.lt_succ_self n) ⟨k+1,_,_,_,_,some e.1,by omega,by simp only[rB,rP,rQ,q8,qf,q7,qc,reduceIte,Nat.reduceAdd,Nat.reduceLT,Nat.reduceEqDiff,t0],by simp only[rB,rP,rQ,q8,qf,q7,qc,reduceIte,Nat.reduceAdd,Nat.reduceLT,Nat.reduceEqDiff,t4],by simp only[rB,rP,rQ,q8,qf,q7,qc,reduceIte,Nat.reduceAdd,Nat.reduceLT,Nat.reduceEqDiff,t5],by simp only[rB,rP,rQ,q8,qf,q7,qc,reduceIte,Nat.reduceAdd,Nat.reduceLT,Nat.reduceEqDiff,t20],by simp only[rB,rP,rQ,q8,qf,q7,qc,reduceIte,Nat.reduceAdd,Nat.reduceLT,Nat.reduceEqDiff,t21],by simp only[rB,rP,rQ,q8,qf,q7,qc,reduceIte,Nat.reduceAdd,Nat.reduceLT,Nat.reduceEqDiff],q1,q2,q3,q4,q5,Or.inr ⟨e,Nat.succ_pos k,by simpa using hke,rfl,hle⟩,hmany,q6,hrun⟩
      ·refine qag H ?_
       repeat (first|with_reducible (refine q9 H ?_;constructor)|simp only[rB,rP,rQ,q8,qf,q7,qc,reduceIte,Nat.reduceAdd,Nat.reduceLT,Nat.reduceEqDiff,pe3,pf3,t0,t4,t5,t20,t21,t22,cS,qi,qr,qo,qp,qA,qD,zB,zP,Qf,Qi,sl3,WR,qd,qW,n7,n8,n9]|(with_reducible refine qq H (i:=14) (.take 0 (.take 1 (.take 2 (.take 3 (.take 4 (.take 5 (.take 6 (.take 7 (.take 9 (.take 10 (.take 11 (.take 12 (.take 13 (.take 14 (.alt 8 [4,5,6,7] (.alt 15 [] (.take 16 (.alt 17 [9,10,11,12,13,14,15,16] (.alt 18 [3,4,5,6,7,8,9,10,11,12,13,14,15,16,17] (.alt 19 [0,1,2,3,4,5,6,7,8,9,10,11,12,13,14,15,16,17,18] (.done) (.yes)) (.yes)) (.yes))) (.yes)) (.alt 15 [] (.take 16 (.alt 8 [4,5,6,7] (.alt 17 [9,10,11,12,13,14,15,16] (.alt 18 [3,4,5,6,7,8,9,10,11,12,13,14,15,16,17] (.alt 19 [0,1,2,3,4,5,6,7,8,9,10,11,12,13,14,15,16,17,18] (.done) (.yes)) (.yes)) (.yes)) (.alt 17 [9,10,11,12,13,14,15,16] (.alt 8 [4,5,6,7] (.alt 18 [3,4,5,6,7,8,9,10,11,12,13,14,15,16,17] (.alt 19 [0,1,2,3,4,5,6,7,8,9,10,11,12,13,14,15,16,17,18] (.done) (.yes)) (.yes)) (.yes)) (.yes)))) (.yes))))))))))))))))) rfl (by kernel_rfl) ?_))
       refine Vo H hB6' hu6 hj6 hne6 (fun s6 hnx6 hC6 hB6=>?_)
       obtain⟨hat6,hkeep,q1,q2,q3,q4,q5,q6⟩:=Vw (e:=e) RS hB4 hEs4 (by omega) (by omega) (by omega) hatS hown hud hld hK hnx6 hC6 hB6
       have c6:=hkeep _ _ _ cS
       have up6:=VI (p:=e.1) (j:=s4.nx+1) hat6
       repeat (first|with_reducible (refine q9 H ?_;constructor)|simp only[rB,rP,rQ,q8,qf,q7,qc,reduceIte,Nat.reduceAdd,Nat.reduceLT,Nat.reduceEqDiff,pe3,pf3,t0,t4,t5,t20,t21,t22,cS,c6,up6,qO,ew,qW,zB,zP,Qf,Qi,n7,n8,n9]|(with_reducible refine qq H (i:=14) (.take 0 (.take 1 (.take 2 (.take 3 (.take 4 (.take 5 (.take 6 (.take 7 (.take 9 (.take 10 (.take 11 (.take 12 (.take 13 (.take 14 (.alt 8 [4,5,6,7] (.alt 15 [] (.take 16 (.alt 17 [9,10,11,12,13,14,15,16] (.alt 18 [3,4,5,6,7,8,9,10,11,12,13,14,15,16,17] (.alt 19 [0,1,2,3,4,5,6,7,8,9,10,11,12,13,14,15,16,17,18] (.done) (.yes)) (.yes)) (.yes))) (.yes)) (.alt 15 [] (.take 16 (.alt 8 [4,5,6,7] (.alt 17 [9,10,11,12,13,14,15,16] (.alt 18 [3,4,5,6,7,8,9,10,11,12,13,14,15,16,17] (.alt 19 [0,1,2,3,4,5,6,7,8,9,10,11,12,13,14,15,16,17,18] (.done) (.yes)) (.yes)) (.yes)) (.alt 17 [9,10,11,12,13,14,15,16] (.alt 8 [4,5,6,7] (.alt 18 [3,4,5,6,7,8,9,10,11,12,13,14,15,16,17] (.alt 19 [0,1,2,3,4,5,6,7,8,9,10,11,12,13,14,15,16,17,18] (.done) (.yes)) (.yes)) (.yes)) (.yes)))) (.yes))))))))))))))))) rfl (by kernel_rfl) ?_))
       exact ih n _ _ (Nat.lt_succ_self n) ⟨k+1,_,_,_,_,some e.1,by omega,by simp only[rB,rP,rQ,q8,qf,q7,qc,reduceIte,Nat.reduceAdd,Nat.reduceLT,Nat.reduceEqDiff,t0],by simp only[rB,rP,rQ,q8,qf,q7,qc,reduceIte,Nat.reduceAdd,Nat.reduceLT,Nat.reduceEqDiff,t4],by simp only[rB,rP,rQ,q8,qf,q7,qc,reduceIte,Nat.reduceAdd,Nat.reduceLT,Nat.reduceEqDiff,t5],by simp only[rB,rP,rQ,q8,qf,q7,qc,reduceIte,Nat.reduceAdd,Nat.reduceLT,Nat.reduceEqDiff,t20],by simp only[rB,rP,rQ,q8,qf,q7,qc,reduceIte,Nat.reduceAdd,Nat.reduceLT,Nat.reduceEqDiff,t21],by simp only[rB,rP,rQ,q8,qf,q7,qc,reduceIte,Nat.reduceAdd,Nat.reduceLT,Nat.reduceEqDiff],q1,q2,q3,q4,q5,Or.inr ⟨e,Nat.succ_pos k,by simpa using hke,rfl,hle⟩,hmany,q6,hrun⟩
  ·have g2:decide ((k:Int) > 0)=true:=by rw[decide_eq_true_eq];omega
   obtain⟨id',o',z1,z2,z3,z4,ob,z5,z6⟩:=(hV.ext hB hEs4).idx hke'
   have p1:IntKind.i64.wrap ((k:Int) - 1)=((k - 1:Nat):Int):=by
    rw[show (k:Int) - 1=((k - 1:Nat):Int) from by omega]
    exact qM (by omega)
   simp only at hrun
   repeat (first|with_reducible (refine q9 H ?_;constructor)|simp only[rB,rP,rQ,q8,qf,q7,qc,reduceIte,Nat.reduceAdd,Nat.reduceLT,Nat.reduceEqDiff,pe3,pf3,t0,t4,t5,t20,t21,t22,hm,Bool.not_true,c4,qi,Zz,qA,zW,zB,zv,g2,zj,p1,z1,z3,z4]|(with_reducible refine qq H (i:=8) (.take 0 (.alt 1 [0] (.take 2 (.take 3 (.take 4 (.take 5 (.take 6 (.take 7 (.take 8 (.take 9 (.take 10 (.take 11 (.take 12 (.take 13 (.take 14 (.alt 15 [0,1,2,3,4,5,6,7,8,9,10,11,12,13,14] (.take 16 (.take 17 (.take 18 (.done)))) (.yes))))))))))))))) (.yes))) rfl (by kernel_rfl) ?_))
   refine qpu H hB4 (by omega) (by omega) (by have:=JC (b:=e'.1);omega) (by have:=JC (b:=e.1);omega) (fun s5 hE5 hB5=>?_)
   have hE25:Ext s' s5:=hE24.trans hE5
   have hEs5:Ext s s5:=hE.trans hE25
   have c5:s5.h.get s'.nx=some (.cells (celE e) 34 0):=(hE5.2 _ (hB4 _ _ c4)).trans c4
   have z7:s5.h.get id'=some ob:=(hE5.2 _ (hB4 _ _ z5)).trans z5
   cases hbf:decide (Jh e'.1 e.1 < 0) with
   | false =>
    rw[hbf] at hrun
    repeat (first|with_reducible (refine q9 H ?_;constructor)|simp only[rB,rP,rQ,q8,qf,q7,qc,reduceIte,Nat.reduceAdd,Nat.reduceLT,Nat.reduceEqDiff,pe3,pf3,t0,t4,t5,t20,t21,t22,c4,c5,z5,z6,z7,qW,hbf,Bool.not_false,Tryz.results50]|(with_reducible refine qq H (i:=8) (.take 0 (.alt 1 [0] (.take 2 (.take 3 (.take 4 (.take 5 (.take 6 (.take 7 (.take 8 (.take 9 (.take 10 (.take 11 (.take 12 (.take 13 (.take 14 (.alt 15 [0,1,2,3,4,5,6,7,8,9,10,11,12,13,14] (.take 16 (.take 17 (.take 18 (.done)))) (.yes))))))))))))))) (.yes))) rfl (by kernel_rfl) ?_))
    exact hf s5 (by rw[hrun];rfl) hEs5 hB5
   | true =>
   rw[hbf,cond_true] at hrun
   have hVS:=hV.ext hB hEs5
   have RS:=R.extS hB' hE25
   have hatS:s5.h.get s1.nx=some (.map (qL (qP ι K))):=(hE25.2 _ (hB' _ _ hat)).trans hat
   have cS:s5.h.get s'.nx=some (.cells (celE e) 34 0):=c5
   have lk:=Yq (p:=e.1.take (Y2 e.1)) hatS
   have ia:∀ b,inO (s5.h.get s1.nx) b=b:=fun b=>by rw[hatS];rfl
   rw[QG] at lk
   repeat (first|with_reducible (refine q9 H ?_;constructor)|simp only[rB,rP,rQ,q8,qf,q7,qc,reduceIte,Nat.reduceAdd,Nat.reduceLT,Nat.reduceEqDiff,pe3,pf3,t0,t4,t5,t20,t21,t22,hm,Bool.not_true,cS,qi,qA,zW,zB,zP,Qf,Qi,zv,g2,c4,c5,z5,z6,z7,qW,hbf]|(with_reducible refine qq H (i:=8) (.take 0 (.alt 1 [0] (.take 2 (.take 3 (.take 4 (.take 5 (.take 6 (.take 7 (.take 8 (.take 9 (.take 10 (.take 11 (.take 12 (.take 13 (.take 14 (.alt 15 [0,1,2,3,4,5,6,7,8,9,10,11,12,13,14] (.take 16 (.take 17 (.take 18 (.done)))) (.yes))))))))))))))) (.yes))) rfl (by kernel_rfl) ?_))
   refine qgl H (b:=e.1) (c:=47) (by omega) ?_
   cases hlk:ql (e.1.take (Y2 e.1)) K with
   | none =>
    rw[hlk] at lk hrun
    simp only[Option.map_none,QI] at lk
    repeat (first|with_reducible (refine q9 H ?_;constructor)|simp only[rB,rP,rQ,q8,qf,q7,qc,reduceIte,Nat.reduceAdd,Nat.reduceLT,Nat.reduceEqDiff,pe3,pf3,t0,t4,t5,t20,t21,t22,cS,qi,qA,zW,zB,zP,Qf,Qi,Xh,sl2,lk,ia,Vv,Q4,Zx,qJ,Tryz.results50])
    exact hf s5 (by rw[hrun]) hEs5 hB5
   | some u =>
    rw[hlk] at lk hrun
    simp only[Option.map_some,QI] at lk
    obtain⟨ud,hud⟩:=qa9 (M:=M) (k:=u) (qcv hK hlk)
    simp only[hud] at hrun
    have hnd:=RS.nd u ud hud
    have hn1:=hnd.1
    unfold ndA Nd.to at hn1
    cases hkd:ud.kind != 1 with
    | true =>
     rw[hkd] at hrun
     repeat (first|with_reducible (refine q9 H ?_;constructor)|simp only[rB,rP,rQ,q8,qf,q7,qc,reduceIte,Nat.reduceAdd,Nat.reduceLT,Nat.reduceEqDiff,pe3,pf3,t0,t4,t5,t20,t21,t22,cS,qi,qA,zW,zB,zP,Qf,Qi,Xh,sl2,lk,ia,Zh,Q3,Qe,qD,hn1,qB,hkd,Tryz.results50])
     exact hf s5 (by rw[hrun];rfl) hEs5 hB5
    | false =>
     rw[hkd,cond_false] at hrun
     repeat (first|with_reducible (refine q9 H ?_;constructor)|simp only[rB,rP,rQ,q8,qf,q7,qc,reduceIte,Nat.reduceAdd,Nat.reduceLT,Nat.reduceEqDiff,pe3,pf3,t0,t4,t5,t20,t21,t22,cS,qi,qA,zW,zB,zP,Qf,Qi,Xh,sl2,lk,ia,Zh,Q3,Qe,qD,hn1,qB,hkd])
     have hnS:s5.h.get (μ u)=some (.map (qL (qP ι ud.kids))):=hnd.2
     have hul:=QP hud
     have hlu:=RS.li hB5 hul
     have hlm:=RS.lm hB5 hul
     have hs7:s'.nx < s5.nx:=hB5 _ _ cS
     have n7:(s'.nx=s5.nx)=False:=by simp;omega
     have n8:(s'.nx=s5.nx+1)=False:=by simp;omega
     have n9:(s5.nx=s5.nx+1)=False:=by simp
     have hE6':Ext s5 ((s5.alloc (.map [])).alloc (ndA ⟨e.2.1,e.2.2.1,e.2.2.2,[],none,[],s5.nx⟩)):=(Ext.alloc _ _).trans (Ext.alloc _ _)
     have hB6':qb ((s5.alloc (.map [])).alloc (ndA ⟨e.2.1,e.2.2.1,e.2.2.2,[],none,[],s5.nx⟩)):=z8 (z8 hB5 _) _
     have hu6:qfz ((s5.alloc (.map [])).alloc (ndA ⟨e.2.1,e.2.2.1,e.2.2.2,[],none,[],s5.nx⟩)) (ι u) (ud.to ι (μ u)):=⟨(hE6'.2 _ hlu).trans hnd.1,(hE6'.2 _ hlm).trans hnd.2⟩
     have hj6:((s5.alloc (.map [])).alloc (ndA ⟨e.2.1,e.2.2.1,e.2.2.2,[],none,[],s5.nx⟩)).h.get (s5.nx+1)=some (ndA ⟨e.2.1,e.2.2.1,e.2.2.2,[],none,[],s5.nx⟩):=qt
     have ew:IntKind.i64.wrap ((k:Int)+1)=((k+1:Nat):Int):=by
      rw[show (k:Int)+1=((k+1:Nat):Int) from by simp]
      exact qM (by omega)
     have hne6:ι u≠s5.nx+1:=by omega
     repeat (first|with_reducible (refine q9 H ?_;constructor)|simp only[rB,rP,rQ,q8,qf,q7,qc,reduceIte,Nat.reduceAdd,Nat.reduceLT,Nat.reduceEqDiff,pe3,pf3,t0,t4,t5,t20,t21,t22,cS,qi,qr,qo,qp,qA,qD,zB,zP,Qf,Qi,sl3,WR,qd,qW,n7,n8,n9]|(with_reducible refine qq H (i:=14) (.take 0 (.take 1 (.take 2 (.take 3 (.take 4 (.take 5 (.take 6 (.take 7 (.take 9 (.take 10 (.take 11 (.take 12 (.take 13 (.take 14 (.alt 8 [4,5,6,7] (.alt 15 [] (.take 16 (.alt 17 [9,10,11,12,13,14,15,16] (.alt 18 [3,4,5,6,7,8,9,10,11,12,13,14,15,16,17] (.alt 19 [0,1,2,3,4,5,6,7,8,9,10,11,12,13,14,15,16,17,18] (.done) (.yes)) (.yes)) (.yes))) (.yes)) (.alt 15 [] (.take 16 (.alt 8 [4,5,6,7] (.alt 17 [9,10,11,12,13,14,15,16] (.alt 18 [3,4,5,6,7,8,9,10,11,12,13,14,15,16,17] (.alt 19 [0,1,2,3,4,5,6,7,8,9,10,11,12,13,14,15,16,17,18] (.done) (.yes)) (.yes)) (.yes)) (.alt 17 [9,10,11,12,13,14,15,16] (.alt 8 [4,5,6,7] (.alt 18 [3,4,5,6,7,8,9,10,11,12,13,14,15,16,17] (.alt 19 [0,1,2,3,4,5,6,7,8,9,10,11,12,13,14,15,16,17,18] (.done) (.yes)) (.yes)) (.yes)) (.yes)))) (.yes))))))))))))))))) rfl (by kernel_rfl) ?_))
     refine Bool.and_eq_true_iff.mpr ⟨?_,?_⟩
     ·refine qag H ?_
      repeat (first|with_reducible (refine q9 H ?_;constructor)|simp only[rB,rP,rQ,q8,qf,q7,qc,reduceIte,Nat.reduceAdd,Nat.reduceLT,Nat.reduceEqDiff,pe3,pf3,t0,t4,t5,t20,t21,t22,cS,qi,qr,qo,qp,qA,qD,zB,zP,Qf,Qi,sl3,WR,qd,qW,n7,n8,n9]|(with_reducible refine qq H (i:=14) (.take 0 (.take 1 (.take 2 (.take 3 (.take 4 (.take 5 (.take 6 (.take 7 (.take 9 (.take 10 (.take 11 (.take 12 (.take 13 (.take 14 (.alt 8 [4,5,6,7] (.alt 15 [] (.take 16 (.alt 17 [9,10,11,12,13,14,15,16] (.alt 18 [3,4,5,6,7,8,9,10,11,12,13,14,15,16,17] (.alt 19 [0,1,2,3,4,5,6,7,8,9,10,11,12,13,14,15,16,17,18] (.done) (.yes)) (.yes)) (.yes))) (.yes)) (.alt 15 [] (.take 16 (.alt 8 [4,5,6,7] (.alt 17 [9,10,11,12,13,14,15,16] (.alt 18 [3,4,5,6,7,8,9,10,11,12,13,14,15,16,17] (.alt 19 [0,1,2,3,4,5,6,7,8,9,10,11,12,13,14,15,16,17,18] (.done) (.yes)) (.yes)) (.yes)) (.alt 17 [9,10,11,12,13,14,15,16] (.alt 8 [4,5,6,7] (.alt 18 [3,4,5,6,7,8,9,10,11,12,13,14,15,16,17] (.alt 19 [0,1,2,3,4,5,6,7,8,9,10,11,12,13,14,15,16,17,18] (.done) (.yes)) (.yes)) (.yes)) (.yes)))) (.yes))))))))))))))))) rfl (by kernel_rfl) ?_))
      refine Vo H hB6' hu6 hj6 hne6 (fun s6 hnx6 hC6 hB6=>?_)
      obtain⟨hat6,hkeep,q1,q2,q3,q4,q5,q6⟩:=Vw (e:=e) RS hB5 hEs5 (by omega) (by omega) (by omega) hatS hown hud hld hK hnx6 hC6 hB6
      have c6:=hkeep _ _ _ cS
      have up6:=VI (p:=e.1) (j:=s5.nx+1) hat6
      repeat (first|with_reducible (refine q9 H ?_;constructor)|simp only[rB,rP,rQ,q8,qf,q7,qc,reduceIte,Nat.reduceAdd,Nat.reduceLT,Nat.reduceEqDiff,pe3,pf3,t0,t4,t5,t20,t21,t22,cS,c6,up6,qO,ew,qW,zB,zP,Qf,Qi,n7,n8,n9]|(with_reducible refine qq H (i:=14) (.take 0 (.take 1 (.take 2 (.take 3 (.take 4 (.take 5 (.take 6 (.take 7 (.take 9 (.take 10 (.take 11 (.take 12 (.take 13 (.take 14 (.alt 8 [4,5,6,7] (.alt 15 [] (.take 16 (.alt 17 [9,10,11,12,13,14,15,16] (.alt 18 [3,4,5,6,7,8,9,10,11,12,13,14,15,16,17] (.alt 19 [0,1,2,3,4,5,6,7,8,9,10,11,12,13,14,15,16,17,18] (.done) (.yes)) (.yes)) (.yes))) (.yes)) (.alt 15 [] (.take 16 (.alt 8 [4,5,6,7] (.alt 17 [9,10,11,12,13,14,15,16] (.alt 18 [3,4,5,6,7,8,9,10,11,12,13,14,15,16,17] (.alt 19 [0,1,2,3,4,5,6,7,8,9,10,11,12,13,14,15,16,17,18] (.done) (.yes)) (.yes)) (.yes)) (.alt 17 [9,10,11,12,13,14,15,16] (.alt 8 [4,5,6,7] (.alt 18 [3,4,5,6,7,8,9,10,11,12,13,14,15,16,17] (.alt 19 [0,1,2,3,4,5,6,7,8,9,10,11,12,13,14,15,16,17,18] (.done) (.yes)) (.yes)) (.yes)) (.yes)))) (.yes))))))))))))))))) rfl (by kernel_rfl) ?_))
      exact ih n _ _ (Nat.lt_succ_self n) ⟨k+1,_,_,_,_,some e.1,by omega,by simp only[rB,rP,rQ,q8,qf,q7,qc,reduceIte,Nat.reduceAdd,Nat.reduceLT,Nat.reduceEqDiff,t0],by simp only[rB,rP,rQ,q8,qf,q7,qc,reduceIte,Nat.reduceAdd,Nat.reduceLT,Nat.reduceEqDiff,t4],by simp only[rB,rP,rQ,q8,qf,q7,qc,reduceIte,Nat.reduceAdd,Nat.reduceLT,Nat.reduceEqDiff,t5],by simp only[rB,rP,rQ,q8,qf,q7,qc,reduceIte,Nat.reduceAdd,Nat.reduceLT,Nat.reduceEqDiff,t20],by simp only[rB,rP,rQ,q8,qf,q7,qc,reduceIte,Nat.reduceAdd,Nat.reduceLT,Nat.reduceEqDiff,t21],by simp only[rB,rP,rQ,q8,qf,q7,qc,reduceIte,Nat.reduceAdd,Nat.reduceLT,Nat.reduceEqDiff],q1,q2,q3,q4,q5,Or.inr ⟨e,Nat.succ_pos k,by simpa using hke,rfl,hle⟩,hmany,q6,hrun⟩
     ·repeat (first|with_reducible (refine q9 H ?_;constructor)|simp only[rB,rP,rQ,q8,qf,q7,qc,reduceIte,Nat.reduceAdd,Nat.reduceLT,Nat.reduceEqDiff,pe3,pf3,t0,t4,t5,t20,t21,t22,cS,qi,qr,qo,qp,qA,qD,zB,zP,Qf,Qi,sl3,WR,qd,qW,n7,n8,n9]|(with_reducible refine qq H (i:=14) (.take 0 (.take 1 (.take 2 (.take 3 (.take 4 (.take 5 (.take 6 (.take 7 (.take 9 (.take 10 (.take 11 (.take 12 (.take 13 (.take 14 (.alt 8 [4,5,6,7] (.alt 15 [] (.take 16 (.alt 17 [9,10,11,12,13,14,15,16] (.alt 18 [3,4,5,6,7,8,9,10,11,12,13,14,15,16,17] (.alt 19 [0,1,2,3,4,5,6,7,8,9,10,11,12,13,14,15,16,17,18] (.done) (.yes)) (.yes)) (.yes))) (.yes)) (.alt 15 [] (.take 16 (.alt 8 [4,5,6,7] (.alt 17 [9,10,11,12,13,14,15,16] (.alt 18 [3,4,5,6,7,8,9,10,11,12,13,14,15,16,17] (.alt 19 [0,1,2,3,4,5,6,7,8,9,10,11,12,13,14,15,16,17,18] (.done) (.yes)) (.yes)) (.yes)) (.alt 17 [9,10,11,12,13,14,15,16] (.alt 8 [4,5,6,7] (.alt 18 [3,4,5,6,7,8,9,10,11,12,13,14,15,16,17] (.alt 19 [0,1,2,3,4,5,6,7,8,9,10,11,12,13,14,15,16,17,18] (.done) (.yes)) (.yes)) (.yes)) (.yes)))) (.yes))))))))))))))))) rfl (by kernel_rfl) ?_))
      refine Bool.and_eq_true_iff.mpr ⟨?_,?_⟩
      ·refine qag H ?_
       repeat (first|with_reducible (refine q9 H ?_;constructor)|simp only[rB,rP,rQ,q8,qf,q7,qc,reduceIte,Nat.reduceAdd,Nat.reduceLT,Nat.reduceEqDiff,pe3,pf3,t0,t4,t5,t20,t21,t22,cS,qi,qr,qo,qp,qA,qD,zB,zP,Qf,Qi,sl3,WR,qd,qW,n7,n8,n9]|(with_reducible refine qq H (i:=14) (.take 0 (.take 1 (.take 2 (.take 3 (.take 4 (.take 5 (.take 6 (.take 7 (.take 9 (.take 10 (.take 11 (.take 12 (.take 13 (.take 14 (.alt 8 [4,5,6,7] (.alt 15 [] (.take 16 (.alt 17 [9,10,11,12,13,14,15,16] (.alt 18 [3,4,5,6,7,8,9,10,11,12,13,14,15,16,17] (.alt 19 [0,1,2,3,4,5,6,7,8,9,10,11,12,13,14,15,16,17,18] (.done) (.yes)) (.yes)) (.yes))) (.yes)) (.alt 15 [] (.take 16 (.alt 8 [4,5,6,7] (.alt 17 [9,10,11,12,13,14,15,16] (.alt 18 [3,4,5,6,7,8,9,10,11,12,13,14,15,16,17] (.alt 19 [0,1,2,3,4,5,6,7,8,9,10,11,12,13,14,15,16,17,18] (.done) (.yes)) (.yes)) (.yes)) (.alt 17 [9,10,11,12,13,14,15,16] (.alt 8 [4,5,6,7] (.alt 18 [3,4,5,6,7,8,9,10,11,12,13,14,15,16,17] (.alt 19 [0,1,2,3,4,5,6,7,8,9,10,11,12,13,14,15,16,17,18] (.done) (.yes)) (.yes)) (.yes)) (.yes)))) (.yes))))))))))))))))) rfl (by kernel_rfl) ?_))
       refine Vo H hB6' hu6 hj6 hne6 (fun s6 hnx6 hC6 hB6=>?_)
       obtain⟨hat6,hkeep,q1,q2,q3,q4,q5,q6⟩:=Vw (e:=e) RS hB5 hEs5 (by omega) (by omega) (by omega) hatS hown hud hld hK hnx6 hC6 hB6
       have c6:=hkeep _ _ _ cS
       have up6:=VI (p:=e.1) (j:=s5.nx+1) hat6
       repeat (first|with_reducible (refine q9 H ?_;constructor)|simp only[rB,rP,rQ,q8,qf,q7,qc,reduceIte,Nat.reduceAdd,Nat.reduceLT,Nat.reduceEqDiff,pe3,pf3,t0,t4,t5,t20,t21,t22,cS,c6,up6,qO,ew,qW,zB,zP,Qf,Qi,n7,n8,n9]|(with_reducible refine qq H (i:=14) (.take 0 (.take 1 (.take 2 (.take 3 (.take 4 (.take 5 (.take 6 (.take 7 (.take 9 (.take 10 (.take 11 (.take 12 (.take 13 (.take 14 (.alt 8 [4,5,6,7] (.alt 15 [] (.take 16 (.alt 17 [9,10,11,12,13,14,15,16] (.alt 18 [3,4,5,6,7,8,9,10,11,12,13,14,15,16,17] (.alt 19 [0,1,2,3,4,5,6,7,8,9,10,11,12,13,14,15,16,17,18] (.done) (.yes)) (.yes)) (.yes))) (.yes)) (.alt 15 [] (.take 16 (.alt 8 [4,5,6,7] (.alt 17 [9,10,11,12,13,14,15,16] (.alt 18 [3,4,5,6,7,8,9,10,11,12,13,14,15,16,17] (.alt 19 [0,1,2,3,4,5,6,7,8,9,10,11,12,13,14,15,16,17,18] (.done) (.yes)) (.yes)) (.yes)) (.alt 17 [9,10,11,12,13,14,15,16] (.alt 8 [4,5,6,7] (.alt 18 [3,4,5,6,7,8,9,10,11,12,13,14,15,16,17] (.alt 19 [0,1,2,3,4,5,6,7,8,9,10,11,12,13,14,15,16,17,18] (.done) (.yes)) (.yes)) (.yes)) (.yes)))) (.yes))))))))))))))))) rfl (by kernel_rfl) ?_))
       exact ih n _ _ (Nat.lt_succ_self n) ⟨k+1,_,_,_,_,some e.1,by omega,by simp only[rB,rP,rQ,q8,qf,q7,qc,reduceIte,Nat.reduceAdd,Nat.reduceLT,Nat.reduceEqDiff,t0],by simp only[rB,rP,rQ,q8,qf,q7,qc,reduceIte,Nat.reduceAdd,Nat.reduceLT,Nat.reduceEqDiff,t4],by simp only[rB,rP,rQ,q8,qf,q7,qc,reduceIte,Nat.reduceAdd,Nat.reduceLT,Nat.reduceEqDiff,t5],by simp only[rB,rP,rQ,q8,qf,q7,qc,reduceIte,Nat.reduceAdd,Nat.reduceLT,Nat.reduceEqDiff,t20],by simp only[rB,rP,rQ,q8,qf,q7,qc,reduceIte,Nat.reduceAdd,Nat.reduceLT,Nat.reduceEqDiff,t21],by simp only[rB,rP,rQ,q8,qf,q7,qc,reduceIte,Nat.reduceAdd,Nat.reduceLT,Nat.reduceEqDiff],q1,q2,q3,q4,q5,Or.inr ⟨e,Nat.succ_pos k,by simpa using hke,rfl,hle⟩,hmany,q6,hrun⟩
      ·refine qag H ?_
       repeat (first|with_reducible (refine q9 H ?_;constructor)|simp only[rB,rP,rQ,q8,qf,q7,qc,reduceIte,Nat.reduceAdd,Nat.reduceLT,Nat.reduceEqDiff,pe3,pf3,t0,t4,t5,t20,t21,t22,cS,qi,qr,qo,qp,qA,qD,zB,zP,Qf,Qi,sl3,WR,qd,qW,n7,n8,n9]|(with_reducible refine qq H (i:=14) (.take 0 (.take 1 (.take 2 (.take 3 (.take 4 (.take 5 (.take 6 (.take 7 (.take 9 (.take 10 (.take 11 (.take 12 (.take 13 (.take 14 (.alt 8 [4,5,6,7] (.alt 15 [] (.take 16 (.alt 17 [9,10,11,12,13,14,15,16] (.alt 18 [3,4,5,6,7,8,9,10,11,12,13,14,15,16,17] (.alt 19 [0,1,2,3,4,5,6,7,8,9,10,11,12,13,14,15,16,17,18] (.done) (.yes)) (.yes)) (.yes))) (.yes)) (.alt 15 [] (.take 16 (.alt 8 [4,5,6,7] (.alt 17 [9,10,11,12,13,14,15,16] (.alt 18 [3,4,5,6,7,8,9,10,11,12,13,14,15,16,17] (.alt 19 [0,1,2,3,4,5,6,7,8,9,10,11,12,13,14,15,16,17,18] (.done) (.yes)) (.yes)) (.yes)) (.alt 17 [9,10,11,12,13,14,15,16] (.alt 8 [4,5,6,7] (.alt 18 [3,4,5,6,7,8,9,10,11,12,13,14,15,16,17] (.alt 19 [0,1,2,3,4,5,6,7,8,9,10,11,12,13,14,15,16,17,18] (.done) (.yes)) (.yes)) (.yes)) (.yes)))) (.yes))))))))))))))))) rfl (by kernel_rfl) ?_))
       refine Vo H hB6' hu6 hj6 hne6 (fun s6 hnx6 hC6 hB6=>?_)
       obtain⟨hat6,hkeep,q1,q2,q3,q4,q5,q6⟩:=Vw (e:=e) RS hB5 hEs5 (by omega) (by omega) (by omega) hatS hown hud hld hK hnx6 hC6 hB6
       have c6:=hkeep _ _ _ cS
       have up6:=VI (p:=e.1) (j:=s5.nx+1) hat6
       repeat (first|with_reducible (refine q9 H ?_;constructor)|simp only[rB,rP,rQ,q8,qf,q7,qc,reduceIte,Nat.reduceAdd,Nat.reduceLT,Nat.reduceEqDiff,pe3,pf3,t0,t4,t5,t20,t21,t22,cS,c6,up6,qO,ew,qW,zB,zP,Qf,Qi,n7,n8,n9]|(with_reducible refine qq H (i:=14) (.take 0 (.take 1 (.take 2 (.take 3 (.take 4 (.take 5 (.take 6 (.take 7 (.take 9 (.take 10 (.take 11 (.take 12 (.take 13 (.take 14 (.alt 8 [4,5,6,7] (.alt 15 [] (.take 16 (.alt 17 [9,10,11,12,13,14,15,16] (.alt 18 [3,4,5,6,7,8,9,10,11,12,13,14,15,16,17] (.alt 19 [0,1,2,3,4,5,6,7,8,9,10,11,12,13,14,15,16,17,18] (.done) (.yes)) (.yes)) (.yes))) (.yes)) (.alt 15 [] (.take 16 (.alt 8 [4,5,6,7] (.alt 17 [9,10,11,12,13,14,15,16] (.alt 18 [3,4,5,6,7,8,9,10,11,12,13,14,15,16,17] (.alt 19 [0,1,2,3,4,5,6,7,8,9,10,11,12,13,14,15,16,17,18] (.done) (.yes)) (.yes)) (.yes)) (.alt 17 [9,10,11,12,13,14,15,16] (.alt 8 [4,5,6,7] (.alt 18 [3,4,5,6,7,8,9,10,11,12,13,14,15,16,17] (.alt 19 [0,1,2,3,4,5,6,7,8,9,10,11,12,13,14,15,16,17,18] (.done) (.yes)) (.yes)) (.yes)) (.yes)))) (.yes))))))))))))))))) rfl (by kernel_rfl) ?_))
       exact ih n _ _ (Nat.lt_succ_self n) ⟨k+1,_,_,_,_,some e.1,by omega,by simp only[rB,rP,rQ,q8,qf,q7,qc,reduceIte,Nat.reduceAdd,Nat.reduceLT,Nat.reduceEqDiff,t0],by simp only[rB,rP,rQ,q8,qf,q7,qc,reduceIte,Nat.reduceAdd,Nat.reduceLT,Nat.reduceEqDiff,t4],by simp only[rB,rP,rQ,q8,qf,q7,qc,reduceIte,Nat.reduceAdd,Nat.reduceLT,Nat.reduceEqDiff,t5],by simp only[rB,rP,rQ,q8,qf,q7,qc,reduceIte,Nat.reduceAdd,Nat.reduceLT,Nat.reduceEqDiff,t20],by simp only[rB,rP,rQ,q8,qf,q7,qc,reduceIte,Nat.reduceAdd,Nat.reduceLT,Nat.reduceEqDiff,t21],by simp only[rB,rP,rQ,q8,qf,q7,qc,reduceIte,Nat.reduceAdd,Nat.reduceLT,Nat.reduceEqDiff],q1,q2,q3,q4,q5,Or.inr ⟨e,Nat.succ_pos k,by simpa using hke,rfl,hle⟩,hmany,q6,hrun⟩
theorem of_c {s:St} (H:Ok TE Tryz.prog pr3) (hB:qb s) {V:AV} {es:List En} (hV:EsV s V es) (hp:∀ e∈es,e.1.length≤1048575) (hn0:es.length < 1000000000) {kr kp:AV→St→Bool}
  (hk:∀ s' x M,ofT es=some M→Ext s s'→World s' x M []→s.nx≤x→kr (.tuple [.ptr x 0,.raw (.int .i64 0)]) s'=true)
  (hf:∀ s',ofT es=none→Ext s s'→qb s'→kr (.tuple [.raw (.pointer none),.raw (.int .i64 500)]) s'=true) :
  (sem Tryz.prog).call 50 [V] s kr kp=true :=
 q1t H hB hV hp hn0 (fun s' x M h1 h2 h3=>hk s' x M h1 h2 h3.world h3.2.1) hf
end Go.AX
