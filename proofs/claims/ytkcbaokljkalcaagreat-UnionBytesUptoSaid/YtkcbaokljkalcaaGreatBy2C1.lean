import Derived.Test.YtkcbaokljkalcaaGreatBy2B3
set_option linter.unusedVariables false
set_option linter.unusedSimpArgs false
set_option linter.defProp false
namespace Go.AX
open Go.Proofs Go.RowKit
set_option maxRecDepth 1000000
set_option linter.unusedSimpArgs false
structure Nd where
 kind:Int
 mode:Int
 data:List Nat
 kids:List (List Nat × Nat)
 up:Option Nat
 name:List Nat
 mp:Nat
def upA:Option Nat→AV
 | none=>.raw (.pointer none)
 | some u=>.ptr u 0
def zQ (l:List (List Nat × Nat)):List (AV × AV):=l.map fun q=>(.str q.1,.ptr q.2 0)
def ndA (nd:Nd):AO:=.cells [.raw (.int .i64 nd.kind),.raw (.int .i64 nd.mode),.str nd.data,.map nd.mp,upA nd.up,.str nd.name] 117 0
def qvb (s:St) (i:Nat) (nd:Nd):Prop:=s.h.get i=some (ndA nd)∧s.h.get nd.mp=some (.map (zQ nd.kids))
abbrev QH:=Nat→Option Nd
def RepT (s:St) (T:QH):Prop:=∀ i nd,T i=some nd→qvb s i nd
theorem WH {x o:Nat}:qk TE 117 (.ptr x o) 0=some (.ptr x (o+0)):=by kernel_rfl
theorem qy3 {x o:Nat}:qk TE 117 (.ptr x o) 1=some (.ptr x (o+1)):=by kernel_rfl
theorem qib {x o:Nat}:qk TE 117 (.ptr x o) 2=some (.ptr x (o+2)):=by kernel_rfl
theorem qf0 {x o:Nat}:qk TE 117 (.ptr x o) 3=some (.ptr x (o+3)):=by kernel_rfl
theorem q6i {x o:Nat}:qk TE 117 (.ptr x o) 4=some (.ptr x (o+4)):=by kernel_rfl
theorem q8z {x o:Nat}:qk TE 117 (.ptr x o) 5=some (.ptr x (o+5)):=by kernel_rfl
theorem WD {i j:Nat} {u:AV}:qE .eql (.ptr i j) u=none:=(rfl)
theorem qwa {u:AV}:qE .eql (.raw (.pointer none)) u=none:=(rfl)
theorem qka {i j:Nat} {u:AV}:qE .neq (.ptr i j) u=none:=(rfl)
theorem qu1 {u:AV}:qE .neq (.raw (.pointer none)) u=none:=(rfl)
theorem XJ {s:St} {i j:Nat} {d:Option (AV × List Nat)}:eqS TE s .eql 112 (.ptr i j) (.raw (.pointer none)) d=some (.raw (.bool false),[]):=by kernel_rfl
def WF:AV→Bool
 | .raw (.pointer none)=>true
 | _=>false
theorem ZY:WF (.raw (.pointer none))=true:=(rfl)
theorem Kx {v:AV} (h:WF v=true):v=.raw (.pointer none):=by
 unfold WF at h
 split at h
 ·rfl
 ·cases h
theorem q3b {i:Nat}:qX TE.P (do let r ← (do eqGuard .eql 112 (.tmp i) (.const (.pointer none)) (.pointer none) (.pointer none);binOp .eql 112 (.pointer none) (.pointer none));pure (Next.value r))=some (.value (.bool true)):=by kernel_rfl
theorem qs7 {a:Ac} {dst:Option Tmp} {i:Nat} {ty:TypeId} {pos:String} {after:Array Edge} (hx:WF (a.eval (.tmp i))=true) :
  qt TE a ⟨dst,.binOp .eql 112 (.tmp i) (.const (.pointer none)) 112,ty,pos,after,none⟩=some (.raw (.bool true),[]):=by
 have hx:=Kx hx
 have h1:zh a (.tmp i)=.pointer none:=by simp[zh,hx,zu]
 have h2:zh a (.const (.pointer none))=.pointer none:=rfl
 have hall:(Op.operands (.binOp .eql 112 (.tmp i) (.const (.pointer none)) 112)).toList.all (fun x=>(zu (a.eval x)).isSome)=true:=by
  show (List.all [.tmp i,.const (.pointer none)] (fun x=>(zu (a.eval x)).isSome))=true
  simp only[List.all_cons,List.all_nil,hx]
  rfl
 have hr:qX TE.P (execOp (zh a) ⟨dst,.binOp .eql 112 (.tmp i) (.const (.pointer none)) 112,ty,pos,after,none⟩)=some (.value (.bool true)):=by
  have he:execOp (zh a) ⟨dst,.binOp .eql 112 (.tmp i) (.const (.pointer none)) 112,ty,pos,after,none⟩=(do let r ← (do eqGuard .eql 112 (.tmp i) (.const (.pointer none)) (.pointer none) (.pointer none);binOp .eql 112 (.pointer none) (.pointer none));pure (.value r)):=by
   simp only[execOp,h1,h2]
  rw[he]
  exact q3b
 simp only[qt,hall,cond_true,hr]
 rfl
theorem qjh {s:St} {d:Option (AV × List Nat)}:eqS TE s .eql 112 (.raw (.pointer none)) (.raw (.pointer none)) d=d:=by kernel_rfl
theorem qoo {n:Int}:qgb TE 110 (.raw (.int .i64 n))=some (.iface 110 (.raw (.int .i64 n))):=by kernel_rfl
theorem Qp {s:St} (H:Ok TE Tryz.prog pr3) {n:Int} {kr kp:AV→St→Bool} (hk:kr (.tuple []) s=true):(sem Tryz.prog).call 65 [.raw (.bool false),.raw (.int .i64 n)] s kr kp=true:=by
 refine qp H 7 q18 rfl rfl ?_
 repeat (first|with_reducible (refine q9 H ?_;constructor)|simp only[rB,rP,rQ,q8,qa,q7,qb,reduceIte,reduceCtorEq,Nat.reduceAdd,Nat.reduceLT,Nat.reduceEqDiff,UInt8.reduceToNat,Tryz.results65])
 exact hk
theorem zS {s:St} (H:Ok TE Tryz.prog pr3) {n:Int} {kr kp:AV→St→Bool} (hk:kp (.iface 110 (.raw (.int .i64 n))) s=true):(sem Tryz.prog).call 65 [.raw (.bool true),.raw (.int .i64 n)] s kr kp=true:=by
 refine qp H 7 q18 rfl rfl ?_
 repeat (first|with_reducible (refine q9 H ?_;constructor)|simp only[rB,rP,rQ,q8,qa,q7,qb,reduceIte,reduceCtorEq,Nat.reduceAdd,Nat.reduceLT,Nat.reduceEqDiff,UInt8.reduceToNat,qoo,qjm])
 exact hk
theorem qul {r:Tasks} {a:Ac} {dst:Option Tmp} {s:St} {k:Ac→St→Bool} {kp:AV→St→Bool} {x y:List Nat} (h:Nat.ble (x.length+y.length) 1000000=true) :
  YN pr3 r (.fn 103 []) [.str x,.str y] a dst s k kp=zN a dst (.str (YP x y)) s k:=by
 refine Xm (pe3 (by decide)) ?_
 unfold pr3
 rw[Qx (by decide)]
 unfold pr2
 rw[Jk]
 simp only[List.append_nil,qh9,h,cond_true]
def Yg (T:QH):Nat→Nat→Option (List Nat)
 | 0,_=>none
 | f+1,i=>match T i with
  | none=>none
  | some nd=>match nd.up with
   | none=>some []
   | some u=>match Yg T f u with
    | none=>none
    | some p=>bif Nat.ble (p.length+nd.name.length) 1000000 then some (YP p nd.name) else none
theorem qe9 {s:St} (H:Ok TE Tryz.prog pr3) {T:QH} (hT:RepT s T):∀ {f i:Nat} {p:List Nat} {kr kp:AV→St→Bool},Yg T f i=some p→kr (.str p) s=true→(sem Tryz.prog).call 104 [.ptr i 0] s kr kp=true
 | 0,_,_,_,_,h,_=>by cases h
 | f+1,i,p,kr,kp,h,hk=>by
  simp only[Yg] at h
  cases hi:T i with
  | none=>rw[hi] at h;cases h
  | some nd =>
   rw[hi] at h
   simp only at h
   have hn:=(hT i nd hi).1
   refine qp H 18 q11 rfl rfl ?_
   cases hu:nd.up with
   | none =>
    rw[hu] at h
    cases h
    repeat (first|with_reducible (refine q9 H ?_;constructor)|simp only[rB,rP,rQ,q8,qa,q7,qb,reduceIte,reduceCtorEq,Nat.reduceAdd,Nat.reduceLT,Nat.reduceEqDiff,UInt8.reduceToNat,pe3,pf3,q6i,KK,hn,ndA,hu,upA,qwa,qjh,qs7,ZY,Tryz.results104])
    exact hk
   | some u =>
    rw[hu] at h
    simp only at h
    cases hp:Yg T f u with
    | none=>rw[hp] at h;cases h
    | some q =>
     rw[hp] at h
     simp only at h
     cases hb:Nat.ble (q.length+nd.name.length) 1000000 with
     | false=>rw[hb] at h;cases h
     | true =>
      rw[hb] at h
      cases h
      have ih:=@qe9 s H T hT f u q
      have ej:=fun {r a dst k kp}=>qul (r:=r) (a:=a) (dst:=dst) (s:=s) (k:=k) (kp:=kp) hb
      repeat (first|with_reducible (refine q9 H ?_;constructor)|simp only[rB,rP,rQ,q8,qa,q7,qb,reduceIte,reduceCtorEq,Nat.reduceAdd,Nat.reduceLT,Nat.reduceEqDiff,UInt8.reduceToNat,pe3,pf3,q6i,q8z,KK,qD,hn,ndA,hu,upA,WD,XJ,ej,Tryz.results104]|(with_reducible refine qy H (i:=3) (.take 0 (.take 1 (.take 2 (.take 3 (.take 5 (.take 6 (.take 7 (.take 8 (.alt 4 [0,1,2,3] (.alt 9 [0,1,2,3,4,5,6,7,8] (.take 10 (.done)) (.yes)) (.yes)))))))))) rfl (by kernel_rfl) ?_)|(with_reducible refine ih hp ?_))
      exact hk
def qlm (T:QH):Nat→Nat→Option Nat
 | 0,_=>none
 | f+1,i=>match T i with
  | none=>none
  | some nd=>match nd.up with
   | none=>some 0
   | some u=>match qlm T f u with
    | none=>none
    | some d=>bif Nat.ble d 1000000 then some (d+1) else none
theorem qbj {r:Tasks} {a:Ac} {dst:Option Tmp} {s:St} {k:Ac→St→Bool} {kp:AV→St→Bool} {x y:List Nat} (h1:x.length≤1000) (h2:zi x=true) (h3:zi y=true) :
  YN pr3 r (.fn 128 []) [.str x,.str y] a dst s k kp=zN a dst (VX (Qf x y)) s k:=by
 refine Xm (pe3 (by decide)) ?_
 unfold pr3
 rw[Qx (by decide)]
 unfold pr2
 rw[Qx (by decide),Jk]
 simp only[List.append_nil,qca,Nat.ble_eq.mpr h1,h2,h3,Bool.and_self,cond_true]
theorem qbh {r:Tasks} {a:Ac} {dst:Option Tmp} {s:St} {k:Ac→St→Bool} {kp:AV→St→Bool} {b:List Nat} (hb:b.length≤1000):YN pr3 r (.fn 109 []) [.str b] a dst s k kp=zN a dst (JA 9 (qq b) s).1 (JA 9 (qq b) s).2 k:=by
 refine Xm (pe3 (by decide)) ?_
 unfold pr3
 rw[Qx (by decide)]
 unfold pr2
 rw[Qx (by decide),Qx (by decide)]
 unfold pr1
 rw[Qx (by decide),Jk]
 simp only[List.append_nil,qex,Nat.ble_eq.mpr hb,cond_true]
theorem X6 {x y:List Nat}:(Qf x y).1.length≤140:=by
 unfold Qf
 cases Zt x <;> simp only[cond_true,cond_false,List.length_nil,Nat.zero_le]
 cases eqB y [] <;> simp only[cond_true,cond_false,List.length_nil,Nat.zero_le]
 cases Nat.blt 560 y.length <;> simp only[cond_true,cond_false,List.length_nil,Nat.zero_le]
 split
 ·simp
 ·rename_i way _
  cases Nat.blt 8 way.length <;> simp only[cond_true,cond_false,List.length_nil,Nat.zero_le]
  cases h:Nat.blt 140 (qo [47] way).length <;> simp only[cond_true,cond_false,List.length_nil,Nat.zero_le]
  have:¬ 140 < (qo [47] way).length:=fun hh=>by rw[Nat.blt_eq.mpr hh] at h;cases h
  omega
def ZV (cwd b:List Nat):List (List Nat) ⊕ Nat:=match Qf cwd b with
 | (p,c)=>bif Nat.beq c 402||Nat.beq c 403 then .inr 8 else bif Nat.beq c 0 then .inl (qq p) else .inr 5
theorem qbf {s:St} (H:Ok TE Tryz.prog pr3) {T:QH} (hT:RepT s T) {f i:Nat} {cwd b:List Nat} {kr kp:AV→St→Bool} (hp:Yg T f i=some cwd) (h1:cwd.length≤1000) (h2:zi cwd=true) (h3:zi b=true)
  (hk:∀ names,ZV cwd b=.inl names→kr (JA 9 names s).1 (JA 9 names s).2=true) (hq:∀ n:Nat,ZV cwd b=.inr n→kp (.iface 110 (.raw (.int .i64 (n:Int)))) s=true) :
  (sem Tryz.prog).call 111 [.ptr i 0,.str b] s kr kp=true:=by
 refine qp H 26 q4b rfl rfl ?_
 have ec:=fun {r a dst k kp}=>qbj (r:=r) (a:=a) (dst:=dst) (s:=s) (k:=k) (kp:=kp) h1 h2 h3
 have hl:=X6 (x:=cwd) (y:=b)
 unfold ZV at hk hq
 generalize hC:Qf cwd b=C at *
 obtain⟨p,c⟩:=C
 simp only at hk hq hl
 have ep:=fun {r a dst k kp}=>qbh (r:=r) (a:=a) (dst:=dst) (s:=s) (k:=k) (kp:=kp) (b:=p) (by omega)
 by_cases q1:c=402
 ·subst q1
  have e1:(((402:Nat):Int)==402)=true:=rfl
  repeat (first|with_reducible (refine q9 H ?_;constructor)|simp only[rB,rP,rQ,q8,qa,q7,qb,reduceIte,reduceCtorEq,Nat.reduceAdd,Nat.reduceLT,Nat.reduceEqDiff,UInt8.reduceToNat,pe3,pf3,ec,VX,qr,e1]|(with_reducible refine qe9 H hT hp ?_)|(with_reducible refine zS H ?_))
  exact hq 8 rfl
 have e1:((c:Int)==402)=false:=by
  rw[beq_eq_false_iff_ne];omega
 by_cases q2:c=403
 ·subst q2
  have e2:(((403:Nat):Int)==403)=true:=rfl
  repeat (first|with_reducible (refine q9 H ?_;constructor)|simp only[rB,rP,rQ,q8,qa,q7,qb,reduceIte,reduceCtorEq,Nat.reduceAdd,Nat.reduceLT,Nat.reduceEqDiff,UInt8.reduceToNat,pe3,pf3,ec,VX,qr,e1,e2]|(with_reducible refine qe9 H hT hp ?_)|(with_reducible refine zS H ?_))
  exact hq 8 rfl
 have e2:((c:Int)==403)=false:=by
  rw[beq_eq_false_iff_ne];omega
 rw[QN q1,QN q2] at hk hq
 simp only[Bool.or_self,cond_false] at hk hq
 by_cases q3:c=0
 ·subst q3
  have e3:(((0:Nat):Int) != 0)=false:=rfl
  repeat (first|with_reducible (refine q9 H ?_;constructor)|simp only[rB,rP,rQ,q8,qa,q7,qb,reduceIte,reduceCtorEq,Nat.reduceAdd,Nat.reduceLT,Nat.reduceEqDiff,UInt8.reduceToNat,pe3,pf3,ec,ep,VX,qr,qH,e1,e2,e3,Tryz.results111]|(with_reducible refine qe9 H hT hp ?_)|(with_reducible refine Qp H ?_))
  exact hk _ rfl
 ·have e3:((c:Int) != 0)=true:=by
   rw[bne_iff_ne];omega
  rw[QN q3] at hq
  repeat (first|with_reducible (refine q9 H ?_;constructor)|simp only[rB,rP,rQ,q8,qa,q7,qb,reduceIte,reduceCtorEq,Nat.reduceAdd,Nat.reduceLT,Nat.reduceEqDiff,UInt8.reduceToNat,pe3,pf3,ec,VX,qr,qH,e1,e2,e3]|(with_reducible refine qe9 H hT hp ?_)|(with_reducible refine Qp H ?_)|(with_reducible refine zS H ?_))
  exact hq 5 rfl
def SlV (s:St) (V:AV) (names:List (List Nat)):Prop:=(V=.raw (.slice none 0 0)∧names=[])∨(∃ id off ci l z,V=.esl id off ci l z∧names=[]) ∨
 ∃ id off ci cap ex cs fz,V=.slice id off names.length ci cap ex∧s.h.get id=some (.cells cs 9 fz)∧off+names.length≤cs.length∧(cs.drop off).take names.length=names.map .str∧names.length≤cap
theorem SlV.len {s:St} {V:AV} {names:List (List Nat)} (h:SlV s V names):∀ s',Q5 TE s' [36] [V]=some (.raw (.int .i64 (names.length:Int))):=by
 intro s'
 rcases h with⟨rfl,rfl⟩|⟨id,off,ci,l,z,rfl,rfl⟩|⟨id,off,ci,cap,ex,cs,fz,rfl,_⟩ <;> kernel_rfl
theorem SlV.ids {s:St} {V:AV} {names:List (List Nat)} (h:SlV s V names):QG V=[]:=by
 rcases h with⟨rfl,rfl⟩|⟨id,off,ci,l,z,rfl,rfl⟩|⟨id,off,ci,cap,ex,cs,fz,rfl,_⟩ <;> rfl
theorem SlV.cells1 {s:St} {V:AV} {names:List (List Nat)} (h:SlV s V names):V.cells=[V]∧V.one=true:=by
 rcases h with⟨rfl,rfl⟩|⟨id,off,ci,l,z,rfl,rfl⟩|⟨id,off,ci,cap,ex,cs,fz,rfl,_⟩ <;> exact⟨rfl,rfl⟩
def Ext (s s':St):Prop:=s.nx≤s'.nx∧∀ i,i < s.nx→s'.h.get i=s.h.get i
theorem Ext.refl (s:St):Ext s s:=⟨Nat.le_refl _,fun _ _=>rfl⟩
theorem Ext.trans {s s' s'':St} (h:Ext s s') (h':Ext s' s''):Ext s s'':=⟨Nat.le_trans h.1 h'.1,fun i hi=>(h'.2 i (Nat.lt_of_lt_of_le hi h.1)).trans (h.2 i hi)⟩
theorem Ext.alloc (s:St) (o:AO):Ext s (s.alloc o):=⟨Nat.le_succ _,fun i hi=>zg (by omega)⟩
def qc (s:St):Prop:=∀ i o,s.h.get i=some o→i < s.nx
theorem SlV.ext {s s':St} {V:AV} {names:List (List Nat)} (h:SlV s V names) (hb:qc s) (he:Ext s s'):SlV s' V names:=by
 rcases h with h|h|⟨id,off,ci,cap,ex,cs,fz,h1,h2,h3⟩
 ·exact Or.inl h
 ·exact Or.inr (Or.inl h)
 ·exact Or.inr (Or.inr ⟨id,off,ci,cap,ex,cs,fz,h1,(he.2 id (hb id _ h2)).trans h2,h3⟩)
theorem SlV.mk {s:St} {names:List (List Nat)}:SlV (JA 9 names s).2 (JA 9 names s).1 names:=by
 cases names with
 | nil=>exact Or.inl ⟨rfl,rfl⟩
 | cons x l=>exact Or.inr (Or.inr ⟨s.nx,0,0,(x::l).length,false,(x::l).map .str,2,rfl,qu,by simp,by rw[List.drop_zero,List.take_of_length_le (by simp)],Nat.le_refl _⟩)
theorem Ju {names:List (List Nat)} {s:St}:Ext s (JA 9 names s).2:=by
 cases names with
 | nil=>exact Ext.refl s
 | cons x l=>exact Ext.alloc s _
theorem Zi {names:List (List Nat)} {s:St} (h:qc s):qc (JA 9 names s).2:=by
 cases names with
 | nil=>exact h
 | cons x l =>
  intro i o hi
  show i < s.nx+1
  by_cases hn:i=s.nx
  ·omega
  ·have:=h i o (by rw[← zg (s:=s) (o:=.cells ((x::l).map .str) 9 2) hn];exact hi)
   omega
theorem qiu:∀ {n:Nat} {l:List AV},n≤l.length→ZB n l=some (l.drop n)
 | 0,_,_=>(rfl)
 | _+1,[],h=>by simp at h
 | n+1,x::l,h=>by simp only[ZB,qiu (n:=n) (l:=l) (by simpa using h),List.drop_succ_cons]
theorem qb0 {off n:Nat} {l:List AV} (h:off+n≤l.length):ZF off n l=some ((l.drop off).take n):=by
 simp only[ZF,qiu (n:=off) (l:=l) (by omega),qcj (n:=n) (l:=l.drop off) (by simp;omega)]
theorem SlV.first {s:St} {V:AV} {names:List (List Nat)} (h:SlV s V names):zI s 1 names.length V=some (names.map .str)∧K5 V=some names.length:=by
 rcases h with⟨rfl,rfl⟩|⟨id,off,ci,l,z,rfl,rfl⟩|⟨id,off,ci,cap,ex,cs,fz,rfl,h2,h3,h4,_⟩
 ·exact⟨rfl,rfl⟩
 ·exact⟨rfl,rfl⟩
 ·exact⟨by simp only[zI,Zv h2,Nat.mul_one,qb0 h3,h4],rfl⟩
theorem SlV.idx {s:St} {V:AV} {names:List (List Nat)} {p:List Nat} {j:Nat} (h:SlV s V names) (hp:names[j]?=some p):∃ id o,qL TE 36 V (.raw (.int .i64 (j:Int)))=some (.ptr id o)∧ldC s id o=some (.str p)∧(∃ ob,s.h.get id=some ob):=by
 have hj:j < names.length:=(List.getElem?_eq_some_iff.1 hp).1
 rcases h with⟨rfl,rfl⟩|⟨id,off,ci,l,z,rfl,rfl⟩|⟨id,off,ci,cap,ex,cs,fz,rfl,h2,h3,h4,_⟩
 ·simp at hj
 ·simp at hj
 ·refine⟨id,off+j,?_,?_,_,h2⟩
  ·have e:qL TE 36 (.slice id off names.length ci cap ex) (.raw (.int .i64 (j:Int)))=(bif Nat.blt j names.length then some (.ptr id (off+j * 1)) else none):=by kernel_rfl
   rw[e,Nat.blt_eq.mpr hj]
   simp
  ·simp only[ldC,Zv h2]
   have:(names.map AV.str)[j]?=some (.str p):=by rw[List.getElem?_map,hp];rfl
   rw[← h4,List.getElem?_take,if_pos hj,List.getElem?_drop] at this
   exact this
theorem SlV.tail {s:St} {V:AV} {p:List Nat} {l:List (List Nat)} (h:SlV s V (p::l)):∃ V',qF TE 36 V (some (.raw (.int .i64 1))) none none=some V'∧SlV s V' l:=by
 rcases h with⟨_,h⟩|⟨id,off,ci,l',z,_,h⟩|⟨id,off,ci,cap,ex,cs,fz,rfl,h2,h3,h4,h5⟩
 ·cases h
 ·cases h
 ·rw[qlw,qbd (i:=1) no_1 (by simp) h5]
  simp only
  by_cases hc:1 < cap
  ·rw[Nat.blt_eq.mpr hc]
   refine⟨_,rfl,Or.inr (Or.inr ⟨id,off+1 * 1,ci+1,cap - 1,ex,cs,fz,by simp,h2,by simp at h3 ⊢;omega,?_,by simp at h5 ⊢;omega⟩)⟩
   cases hcs:cs.drop off with
   | nil=>rw[hcs] at h4;simp at h4
   | cons x r =>
    rw[hcs] at h4
    simp only[List.length_cons,List.take_succ_cons,List.map_cons,List.cons.injEq] at h4
    have:cs.drop (off+1 * 1)=r:=by
     rw[Nat.one_mul,← List.drop_drop,hcs]
     rfl
    rw[this]
    exact h4.2
  ·have hl:l=[]:=by simp at h5;cases l with|nil=>rfl|cons _ _=>simp at h5;omega
   subst hl
   have:Nat.blt 1 cap=false:=by rw[← Bool.not_eq_true,Nat.blt_eq];exact hc
   rw[this]
   cases ex with
   | true=>exact⟨_,rfl,Or.inr (Or.inr ⟨id,off,ci,0,true,cs,fz,rfl,h2,by simp at h3 ⊢;omega,by simp,by simp⟩)⟩
   | false=>exact⟨_,rfl,Or.inr (Or.inl ⟨id,off,ci,1,1,rfl,rfl⟩)⟩
theorem SlV.take {s:St} {V:AV} {names:List (List Nat)} {j:Nat} (h:SlV s V names) (hj:j≤names.length):∃ V',qF TE 36 V none (some (.raw (.int .i64 (j:Int)))) none=some V'∧SlV s V' (names.take j):=by
 rcases h with⟨rfl,rfl⟩|⟨id,off,ci,l',z,rfl,rfl⟩|⟨id,off,ci,cap,ex,cs,fz,rfl,h2,h3,h4,h5⟩
 ·simp only[List.length_nil,Nat.le_zero_eq] at hj
  subst hj
  exact⟨.raw (.slice none 0 0),by kernel_rfl,Or.inl ⟨rfl,rfl⟩⟩
 ·simp only[List.length_nil,Nat.le_zero_eq] at hj
  subst hj
  exact⟨.esl id off ci l' z,by kernel_rfl,Or.inr (Or.inl ⟨_,_,_,_,_,rfl,rfl⟩)⟩
 ·refine⟨.slice id off j ci cap ex,?_,Or.inr (Or.inr ⟨id,off,ci,cap,ex,cs,fz,?_,h2,?_,?_,?_⟩)⟩
  ·rw[qlw,Xz (i:=j) zC (by omega)]
   simp
  ·rw[List.length_take,Nat.min_eq_left hj]
  ·rw[List.length_take];omega
  ·rw[List.length_take,Nat.min_eq_left hj,List.map_take,← h4,List.take_take,Nat.min_eq_left hj]
  ·rw[List.length_take];omega
theorem qpo:qfl TE [36] [.raw (.slice none 0 0)]=some (.raw (.int .i64 0)):=by kernel_rfl
theorem qoz {s:St}:Q5 TE s [36] [.raw (.slice none 0 0)]=some (.raw (.int .i64 0)):=by kernel_rfl
theorem qs9:qF TE 36 (.raw (.slice none 0 0)) none (some (.raw (.int .i64 0))) none=some (.raw (.slice none 0 0)):=by kernel_rfl
theorem q52 {s:St} {n:Nat} (h0:0 < n) (hn:n≤60000):zO TE s [36,3] [.raw (.slice none 0 0),.raw (.int .i64 (n:Int))]=some (.slice s.nx 0 n 0 n false,s.alloc (.cells (KA [.str []] n) 9 2)):=by
 have e:zO TE s [36,3] [.raw (.slice none 0 0),.raw (.int .i64 (n:Int))]=(bif Nat.ble (n * 16) 1048576&&(Nat.ble n 1048576&&(Nat.blt 0 n&&true)) then ZZ s 9 { desc:=.string,size:=1,bytes:=16,zero:=some (.string ⟨#[]⟩) } (.raw (.slice none 0 0)) n (KA [.str []] n) else none):=by kernel_rfl
 have e1:Nat.ble (n * 16) 1048576=true:=Nat.ble_eq.mpr (by omega)
 have e5:Nat.ble (n * 16) 134217728=true:=Nat.ble_eq.mpr (by omega)
 have e2:Nat.ble n 1048576=true:=Nat.ble_eq.mpr (by omega)
 have e3:Nat.blt 0 n=true:=Nat.blt_eq.mpr h0
 have e4:Nat.beq n 0=false:=QN (by omega)
 rw[e,e1,e2,e3]
 simp only[Bool.and_self,cond_true,ZZ,e4,cond_false,e1,e2,e5]
theorem VV:∀ (n:Nat),(KA [.str []] n).length=n
 | 0=>(rfl)
 | n+1=>by simp[KA,VV n]
theorem q4a {s:St} (H:Ok TE Tryz.prog pr3) {n:Nat} (hn:n≤60000) {kr kp:AV→St→Bool} (hk:0 < n→kr (.slice s.nx 0 0 0 n false) (s.alloc (.cells (KA [.str []] n) 9 2))=true) (hk0:n=0→kr (.raw (.slice none 0 0)) s=true) :
  (sem Tryz.prog).call 163 [.raw (.slice none 0 0),.raw (.int .i64 (n:Int))] s kr kp=true:=by
 refine qp H 27 q1n rfl rfl ?_
 have e1:decide ((n:Int) < 0)=false:=by simp
 have e2:IntKind.i64.wrap (0 - 0)=0:=rfl
 have e3:IntKind.i64.wrap ((n:Int) - 0)=(n:Int):=by rw[Int.sub_zero];exact qU (by omega)
 by_cases h0:0 < n
 ·have e4:decide ((n:Int) > 0)=true:=by simp;omega
  have e5:=q52 (s:=s) h0 hn
  have e6:qF TE 36 (.slice s.nx 0 n 0 n false) none (some (.raw (.int .i64 0))) none=some (.slice s.nx 0 0 0 n false):=by
   rw[qlw,Xz (i:=0) q0s (by omega)];simp
  repeat (first|with_reducible (refine q9 H ?_;constructor)|simp only[rB,rP,rQ,q8,qa,q7,qb,reduceIte,reduceCtorEq,Nat.reduceAdd,Nat.reduceLT,Nat.reduceEqDiff,UInt8.reduceToNat,pe3,pf3,qpo,qoz,qs9,zJ,zD,zf,e1,e2,e3,e4,e5,e6,Tryz.results163])
  exact hk h0
 ·have e4:decide ((n:Int) > 0)=false:=by simp;omega
  repeat (first|with_reducible (refine q9 H ?_;constructor)|simp only[rB,rP,rQ,q8,qa,q7,qb,reduceIte,reduceCtorEq,Nat.reduceAdd,Nat.reduceLT,Nat.reduceEqDiff,UInt8.reduceToNat,pe3,pf3,qpo,qoz,qs9,zJ,zD,zf,e1,e2,e3,e4,Tryz.results163])
  exact hk0 (by omega)
theorem qa4:∀ {cs:List AV} {n:Nat} {xs:List AV},n+xs.length≤cs.length→JW cs n xs=some (cs.take n++xs++cs.drop (n+xs.length))
 | cs,n,[],_=>by cases cs <;> cases n <;> simp[JW]
 | [],n,x::xs,h=>by simp at h
 | c::cs,0,x::xs,h=>by
  have:=qa4 (cs:=cs) (n:=0) (xs:=xs) (by simp at h ⊢;omega)
  simp only[JW,this,List.take_zero,List.nil_append,Nat.zero_add,List.length_cons,List.drop_succ_cons,List.cons_append]
 | c::cs,n+1,x::xs,h=>by
  have:=qa4 (cs:=cs) (n:=n) (xs:=x::xs) (by simp at h ⊢;omega)
  simp only[JW,this,List.take_succ_cons,List.cons_append]
  rw[show n+1+(x::xs).length=(n+(x::xs).length)+1 from by simp;omega,List.drop_succ_cons]
theorem qme:∀ (l:List (List Nat)),(l.map AV.str).all AV.one=true
 | []=>(rfl)
 | x::l=>by simp only[List.map_cons,List.all_cons,qb1,qme l,Bool.and_self]
theorem qiw {s:St} {X:AV} {names:List (List Nat)} {id len cap:Nat} {cs:List AV} (h:SlV s X names) (hg:s.h.get id=some (.cells cs 9 2)) (hl:len+names.length≤cap) (hc:cs.length=cap) :
  zO TE s [36,36] [.slice id 0 len 0 cap false,X]=some (.slice id 0 (len+names.length) 0 cap false,{ s with h:=s.h.set id (.cells (cs.take len++names.map .str++cs.drop (len+names.length)) 9 2) }):=by
 obtain⟨h1,h2⟩:=h.first
 rw[qim]
 simp only[h2,h1,List.length_map,Nat.mul_one,qpb,qme,Bool.and_self,cond_true,ZZ,Zv hg,Nat.ble_eq.mpr hl,zj,Nat.zero_add,qa4 (cs:=cs) (n:=len) (xs:=names.map .str) (by simp;omega)]
theorem qv0 {s:St} {q:Nat}:Q5 TE s [201] [.slice q 0 2 0 2 true]=some (.raw (.int .i64 2)):=by kernel_rfl
theorem q50 {q:Nat}:qL TE 201 (.slice q 0 2 0 2 true) (.raw (.int .i64 0))=some (.ptr q 0):=by kernel_rfl
theorem q8b {q:Nat}:qL TE 201 (.slice q 0 2 0 2 true) (.raw (.int .i64 1))=some (.ptr q 1):=by kernel_rfl
theorem qip {s:St} {X:AV} (h:SlV s X []):zO TE s [36,36] [.raw (.slice none 0 0),X]=some (.raw (.slice none 0 0),s):=by
 obtain⟨h1,h2⟩:=h.first
 rw[qim]
 have h1:zI s 1 0 X=some []:=h1
 have h2:K5 X=some 0:=h2
 simp only[h2,h1]
 rfl
theorem qR {s:St} (h:qc s) (o:AO):qc (s.alloc o):=by
 intro i o' hi
 show i < s.nx+1
 by_cases hn:i=s.nx
 ·omega
 ·have:=h i o' (by rw[← zg (s:=s) (o:=o) hn];exact hi)
  omega
theorem qn {s:St} (h:qc s) {j:Nat} (hj:j < s.nx) (o:AO):qc { s with h:=s.h.set j o }:=by
 intro i o' hi
 show i < s.nx
 by_cases hn:i=j
 ·omega
 ·exact h i o' (by rw[← qe (h:=s.h) (o:=o) hn];exact hi)
theorem qih {s:St} (H:Ok TE Tryz.prog pr3) (hb:qc s) {V1 V2:AV} {n1 n2:List (List Nat)} {q:Nat} (h1:SlV s V1 n1) (h2:SlV s V2 n2) (hq:s.h.get q=some (.cells [V1,V2] 36 0)) (hn:n1.length+n2.length≤60000)
  {kr kp:AV→St→Bool} (hk:∀ V s',SlV s' V (n1++n2)→Ext s s'→qc s'→kr V s'=true):(sem Tryz.prog).call 138 [.slice q 0 2 0 2 true] s kr kp=true:=by
 refine qp H 36 qzz rfl rfl ?_
 have hqn:=hb q _ hq
 have hqe:q≠s.nx:=by omega
 have l1:=h1.len
 have l2:=h2.len
 have i1:=h1.ids
 have i2:=h2.ids
 have d0:decide ((0:Int) < 2)=true:=rfl
 have d1:decide ((1:Int) < 2)=true:=rfl
 have d2:decide ((2:Int) < 2)=false:=rfl
 have w1:IntKind.i64.wrap (0+1)=1:=rfl
 have w2:IntKind.i64.wrap (1+1)=2:=rfl
 have s1:IntKind.i64.wrap (0+(n1.length:Int))=(n1.length:Int):=by rw[Int.zero_add];exact qU (by omega)
 have s2:IntKind.i64.wrap ((n1.length:Int)+(n2.length:Int))=((n1.length+n2.length:Nat):Int):=by
  rw[show (n1.length:Int)+(n2.length:Int)=((n1.length+n2.length:Nat):Int) from by simp]
  exact qU (by omega)
 have z1:decide ((n1.length:Int) < 0)=false:=by simp
 have z2:decide (((n1.length+n2.length:Nat):Int) < 0)=false:=by simp;omega
 repeat (first|with_reducible (refine q9 H ?_;constructor)|simp only[rB,rP,rQ,q8,qa,q7,qb,reduceIte,reduceCtorEq,Nat.reduceAdd,Nat.reduceLT,Nat.reduceEqDiff,UInt8.reduceToNat,pe3,pf3,qv0,q50,q8b,QJ,hq,l1,l2,i1,i2,d0,d1,d2,w1,w2,s1,s2,z1,z2,zJ,qI]|(with_reducible refine qfp H ?_))
 refine q4a H hn (fun h0=>?_) (fun h0=>?_)
 ·have f1:=qiw (s:=s.alloc (.cells (KA [.str []] (n1.length+n2.length)) 9 2)) (id:=s.nx) (len:=0) (cap:=n1.length+n2.length) (h1.ext hb (Ext.alloc s _)) qu (by omega) (VV _)
  have hb1:qc (s.alloc (.cells (KA [.str []] (n1.length+n2.length)) 9 2)):=qR hb _
  generalize hS1:s.alloc (.cells (KA [.str []] (n1.length+n2.length)) 9 2)=S1 at *
  have hx1:Ext s S1:=hS1 ▸ Ext.alloc s _
  have hn1:S1.nx=s.nx+1:=by rw[← hS1];rfl
  rw[Nat.zero_add] at f1
  have q1:S1.h.get q=some (.cells [V1,V2] 36 0):=(hx1.2 q hqn).trans hq
  generalize hS2:({ S1 with h:=S1.h.set s.nx (.cells (List.take 0 (KA [.str []] (n1.length+n2.length))++List.map AV.str n1++List.drop n1.length (KA [.str []] (n1.length+n2.length))) 9 2) }:St)=S2 at f1
  have g2:S2.h.get s.nx=some (.cells (List.take 0 (KA [.str []] (n1.length+n2.length))++List.map AV.str n1++List.drop n1.length (KA [.str []] (n1.length+n2.length))) 9 2):=by rw[← hS2];exact hs_same
  have hx2:Ext s S2:=⟨by rw[← hS2];show s.nx≤S1.nx;omega,fun i hi=>by rw[← hS2];exact (qe (by omega)).trans (hx1.2 i hi)⟩
  have q2:S2.h.get q=some (.cells [V1,V2] 36 0):=(hx2.2 q hqn).trans hq
  have f2:=qiw (s:=S2) (id:=s.nx) (len:=n1.length) (cap:=n1.length+n2.length) (h2.ext hb hx2) g2 (Nat.le_refl _) (by simp[VV])
  repeat (first|with_reducible (refine q9 H ?_;constructor)|simp only[rB,rP,rQ,q8,qa,q7,qb,reduceIte,reduceCtorEq,Nat.reduceAdd,Nat.reduceLT,Nat.reduceEqDiff,UInt8.reduceToNat,pe3,pf3,qv0,q50,q8b,QJ,q1,q2,d0,d1,d2,w1,w2,zJ,qI,i1,i2,f1,f2,Tryz.results138]|(with_reducible refine qfp H ?_))
  refine hk _ _ (Or.inr (Or.inr ⟨s.nx,0,0,n1.length+n2.length,false,_,2,by rw[List.length_append],hs_same,?_,?_,by rw[List.length_append];exact Nat.le_refl _⟩)) ⟨?_,?_⟩ ?_
  ·simp[VV]
  ·simp only[List.drop_zero,List.length_append,List.take_zero,List.nil_append,List.map_append]
   rw[List.take_left' (l₁:=List.map AV.str n1) (by simp)]
   exact List.take_left' (by simp)
  ·exact hx2.1
  ·intro i hi
   exact (qe (by omega)).trans (hx2.2 i hi)
  ·refine qn ?_ ?_ _
   ·rw[← hS2];exact qn hb1 (by omega) _
   ·rw[← hS2];show s.nx < S1.nx;omega
 ·have n10:n1=[]:=List.eq_nil_of_length_eq_zero (by omega)
  have n20:n2=[]:=List.eq_nil_of_length_eq_zero (by omega)
  subst n10 n20
  have f1:=qip h1
  have f2:=qip h2
  repeat (first|with_reducible (refine q9 H ?_;constructor)|simp only[rB,rP,rQ,q8,qa,q7,qb,reduceIte,reduceCtorEq,Nat.reduceAdd,Nat.reduceLT,Nat.reduceEqDiff,UInt8.reduceToNat,pe3,pf3,qv0,q50,q8b,QJ,hq,d0,d1,d2,w1,w2,zJ,qI,i1,i2,f1,f2,Tryz.results138]|(with_reducible refine qfp H ?_))
  exact hk _ _ (Or.inl ⟨rfl,rfl⟩) (Ext.refl s) hb
def qM (p:List Nat):List (List Nat × Nat)→Option Nat
 | []=>none
 | (q,j)::l=>bif eqB p q then some j else qM p l
def qi5:Option Nat→AV
 | some j=>.ptr j 0
 | none=>.raw (.pointer none)
theorem XQ {p:List Nat}:∀ (l:List (List Nat × Nat)) (i:Nat),Qr .string (.str p) (zQ l) i=some (match qM p l with|some j=>some (i+(l.findIdx fun q=>eqB p q.1),.ptr j 0)|none=>none)
 | [],_=>(rfl)
 | (q,j)::l,i=>by
  simp only[zQ,List.map_cons,Qr,qb7,qM]
  cases h:eqB p q with
  | true=>simp[h,List.findIdx_cons]
  | false =>
   have ih:=XQ (p:=p) l (i+1)
   simp only[zQ] at ih
   simp only[ih,cond_false,List.findIdx_cons,h]
   cases qM p l with
   | none=>rfl
   | some _=>simp;omega
theorem qlo {s:St} {mp:Nat} {kids:List (List Nat × Nat)} {p:List Nat} (h:s.h.get mp=some (.map (zQ kids))):Qt TE s 115 (.map mp) (.str p) false=some (qi5 (qM p kids)):=by
 have hz:zt TE 112=some (.raw (.pointer none)):=by kernel_rfl
 have e:Qt TE s 115 (.map mp) (.str p) false=(match (some { desc:=.string,size:=1,bytes:=16,zero:=some (.string ⟨#[]⟩) }:Option TI),YO s (.map mp) with
   | some ki,some es =>
    bif Y7 ki.desc then
     match Qr ki.desc (.str p) es 0 with
     | some (some (_,v))=>some (bif false then .tuple [v,q8 true] else v)
     | some none=>match zt TE 112 with
      | some z=>some (bif false then .tuple [z,q8 false] else z)
      | none=>none
     | none=>none
    else none
   | _,_=>none):=by kernel_rfl
 rw[e]
 simp only[YO,h,XQ,Y7,cond_true,cond_false,hz]
 cases qM p kids <;> rfl
def JP (T:QH) (root:Nat) (follow:Bool):Nat→Nat→Nat→List (List Nat)→Option (Nat ⊕ Nat)
 | 0,_,_,_=>none
 | _+1,cur,_,[]=>some (.inl cur)
 | f+1,cur,hops,p::rest=>match T cur with
  | none=>none
  | some nd=>bif decide (nd.kind≠1) then some (.inr 3) else match qM p nd.kids with
   | none=>some (.inr 1)
   | some kid=>match T kid with
    | none=>none
    | some kd=>bif decide (kd.kind≠3)||(rest.isEmpty&&!follow) then JP T root follow f kid hops rest
     else bif Nat.blt 7 hops then some (.inr 7)
     else match Yg T 20 cur with
      | none=>none
      | some cw=>bif Nat.ble cw.length 1000&&(zi cw&&zi kd.data) then
       match ZV cw kd.data with
       | .inr n=>some (.inr n)
       | .inl names=>bif Nat.ble (names.length+rest.length) 50000 then JP T root follow f root (hops+1) (names++rest) else none
       else none
theorem RepT.ext {s s':St} {T:QH} (h:RepT s T) (hb:qc s) (he:Ext s s'):RepT s' T:=fun i nd hi =>
 ⟨(he.2 i (hb i _ (h i nd hi).1)).trans (h i nd hi).1,(he.2 _ (hb _ _ (h i nd hi).2)).trans (h i nd hi).2⟩
theorem qtj {s:St} {V1 V2:AV} (h1:V1.cells=[V1]) (h2:V2.cells=[V2]):zq TE s 201 2 [(0,V1),(1,V2)]=some (.slice s.nx 0 2 0 2 true,s.alloc (.cells [V1,V2] 36 0)):=by
 have e:zq TE s 201 2 [(0,V1),(1,V2)]=(match qcq (fun i=>some (i * 1,1)) [.raw (.slice none 0 0),.raw (.slice none 0 0)] [(0,V1),(1,V2)] with
  | some cs=>some (.slice s.nx 0 2 0 2 true,s.alloc (.cells cs 36 0))
  | none=>none):=by kernel_rfl
 rw[e]
 simp only[qcq,h1,h2]
 rfl
theorem q5i {x:Nat}:qk TE 120 (.ptr x 0) 0=some (.ptr x 0):=by kernel_rfl
theorem fr_1 {x:Nat}:qk TE 120 (.ptr x 0) 1=some (.ptr x 1):=by kernel_rfl
theorem q36 {s:St} (H:Ok TE Tryz.prog pr3) {T:QH} (hT:RepT s T) (hB:qc s) {x root:Nat} {tl:List AV} (hx:s.h.get x=some (.cells (.ptr root 0::tl) 120 0)) {f:Nat} {V:AV} {names:List (List Nat)} {follow:Bool} {out:Nat ⊕ Nat} (hV:SlV s V names) (hlen:names.length≤50000)
  (hw:JP T root follow f root 0 names=some out) {kr kp:AV→St→Bool} (hk:∀ n s',out=.inl n→Ext s s'→qc s'→kr (.ptr n 0) s'=true) (hq:∀ c s',out=.inr c→Ext s s'→qc s'→kp (.iface 110 (.raw (.int .i64 ((c:Nat):Int)))) s'=true) :
  (sem Tryz.prog).call 110 [.ptr x 0,V,.raw (.bool follow)] s kr kp=true:=by
 refine qp H 70 q1o rfl rfl ?_
 repeat (first|with_reducible (refine q9 H ?_;constructor)|simp only[rB,rP,rQ,q8,qa,q7,qb,reduceIte,reduceCtorEq,Nat.reduceAdd,Nat.reduceLT,Nat.reduceEqDiff,UInt8.reduceToNat,pe3,pf3,q5i,KK,hx])
 refine qB H (fun n t s'=>∃ cur hops names V,tg t 0=.ptr x 0∧tg t 1=V∧tg t 2=.raw (.bool follow)∧tg t 7=.ptr cur 0∧tg t 8=.raw (.int .i64 ((hops:Nat):Int))∧hops≤8∧names.length≤50000∧SlV s' V names∧Ext s s'∧qc s'∧JP T root follow n cur hops names=some out)
  ⟨root,0,names,V,by simp only[rB,rP,rQ,q8,qa,q7,qb,reduceIte,reduceCtorEq,Nat.reduceAdd,Nat.reduceLT,Nat.reduceEqDiff,UInt8.reduceToNat],by simp only[rB,rP,rQ,q8,qa,q7,qb,reduceIte,reduceCtorEq,Nat.reduceAdd,Nat.reduceLT,Nat.reduceEqDiff,UInt8.reduceToNat],by simp only[rB,rP,rQ,q8,qa,q7,qb,reduceIte,reduceCtorEq,Nat.reduceAdd,Nat.reduceLT,Nat.reduceEqDiff,UInt8.reduceToNat],by simp only[rB,rP,rQ,q8,qa,q7,qb,reduceIte,reduceCtorEq,Nat.reduceAdd,Nat.reduceLT,Nat.reduceEqDiff,UInt8.reduceToNat],by simp only[rB,rP,rQ,q8,qa,q7,qb,reduceIte,reduceCtorEq,Nat.reduceAdd,Nat.reduceLT,Nat.reduceEqDiff,UInt8.reduceToNat];rfl,by omega,hlen,hV,Ext.refl s,hB,hw⟩ ?_
 clear hV hlen hw V names
 rintro n t s1 ih ⟨cur,hops,names,V,t0,t1,t2,t7,t8,hh,hlen,hV,hE,hB1,hw⟩
 have hT1:=hT.ext hB hE
 have hx1:=(hE.2 x (hB x _ hx)).trans hx
 cases n with
 | zero=>cases hw
 | succ n =>
 have vl:=hV.len
 have vi:=hV.ids
 cases names with
 | nil =>
  simp only[JP,Option.some.injEq] at hw
  have g0:decide ((([]:List (List Nat)).length:Int) > 0)=false:=rfl
  repeat (first|with_reducible (refine q9 H ?_;constructor)|simp only[rB,rP,rQ,q8,qa,q7,qb,reduceIte,reduceCtorEq,Nat.reduceAdd,Nat.reduceLT,Nat.reduceEqDiff,UInt8.reduceToNat,pe3,pf3,t0,t1,t2,t7,t8,vl,vi,zD,g0,Tryz.results110])
  exact hk cur s1 hw.symm hE hB1
 | cons p rest =>
 have g0:decide (((p::rest).length:Int) > 0)=true:=by
  rw[decide_eq_true_eq]
  simp only[List.length_cons]
  omega
 simp only[JP] at hw
 cases hc:T cur with
 | none=>rw[hc] at hw;cases hw
 | some nd =>
 rw[hc] at hw
 simp only at hw
 obtain⟨hn,hm⟩:=hT1 cur nd hc
 by_cases hd:nd.kind=1
 ·have k1:(nd.kind != 1)=false:=by rw[hd];rfl
  rw[decide_eq_false (by simpa using hd)] at hw
  simp only[cond_false] at hw
  obtain⟨id,o,x1,x2,ob,x3⟩:=hV.idx (p:=p) (j:=0) rfl
  have x1:qL TE 36 V (.raw (.int .i64 0))=some (.ptr id o):=x1
  have x4:QB s1 [id]=true:=by simp[QB,x3]
  have lk:=qlo (p:=p) hm
  obtain⟨V',y1,y2⟩:=hV.tail
  have x2':ldO (s1.h.get id) o=some (.str p):=by rw[← qdt];exact x2
  have x4':∀ b,inO (s1.h.get id) b=b:=fun b=>by rw[x3];rfl
  cases hl:qM p nd.kids with
  | none =>
   rw[hl] at hw lk
   simp only[Option.some.injEq] at hw
   repeat (first|with_reducible (refine q9 H ?_;constructor)|simp only[rB,rP,rQ,q8,qa,q7,qb,reduceIte,reduceCtorEq,Nat.reduceAdd,Nat.reduceLT,Nat.reduceEqDiff,UInt8.reduceToNat,pe3,pf3,t0,t1,t2,t7,t8,vl,vi,zD,g0,WH,qK,hn,ndA,qH,k1,qf0,J3,x1,qD,x2',x4,hm,lk,x4',qi5,qwa,qjh,qs7,ZY]|(with_reducible refine qy H (i:=5) (.take 0 (.take 1 (.take 2 (.take 3 (.take 4 (.take 5 (.take 6 (.take 7 (.take 8 (.done)))))))))) rfl (by kernel_rfl) ?_)|(with_reducible refine Qp H ?_)|(with_reducible refine zS H ?_))
   exact hq 1 s1 hw.symm hE hB1
  | some kid =>
  rw[hl] at hw lk
  simp only at hw
  cases hk2:T kid with
  | none=>rw[hk2] at hw;cases hw
  | some kd =>
  rw[hk2] at hw
  simp only at hw
  obtain⟨hn2,hm2⟩:=hT1 kid kd hk2
  have vl2:=y2.len
  have vi2:=y2.ids
  by_cases h3:kd.kind=3
  ·have k3:(kd.kind != 3)=false:=by rw[h3];rfl
   rw[decide_eq_false (by simpa using h3),Bool.false_or] at hw
   by_cases hre:rest=[]∧follow=false
   ·obtain⟨hr0,hf0⟩:=hre
    have r0:((rest.length:Int)==0)=true:=by rw[hr0];rfl
    rw[hr0,hf0] at hw
    simp only[List.isEmpty_nil,Bool.not_false,Bool.and_self,cond_true] at hw
    rw[← hr0,← hf0] at hw
    repeat (first|with_reducible (refine q9 H ?_;constructor)|simp only[rB,rP,rQ,q8,qa,q7,qb,reduceIte,reduceCtorEq,Nat.reduceAdd,Nat.reduceLT,Nat.reduceEqDiff,UInt8.reduceToNat,pe3,pf3,t0,t1,t2,t7,t8,vl,vi,zD,g0,WH,qK,hn,ndA,qH,k1,qf0,J3,x1,qD,x2',x4,hm,lk,x4',qi5,WD,XJ,y1,k3,hn2,vl2,vi2,qr,r0,hf0]|(with_reducible refine qy H (i:=5) (.take 0 (.take 1 (.take 2 (.take 3 (.take 4 (.take 5 (.take 6 (.take 7 (.take 8 (.done)))))))))) rfl (by kernel_rfl) ?_)|(with_reducible refine Qp H ?_))
    exact ih n _ _ (Nat.lt_succ_self n) ⟨kid,hops,rest,V',by simp only[rB,rP,rQ,q8,qa,q7,qb,reduceIte,reduceCtorEq,Nat.reduceAdd,Nat.reduceLT,Nat.reduceEqDiff,UInt8.reduceToNat,t0],by simp only[rB,rP,rQ,q8,qa,q7,qb,reduceIte,reduceCtorEq,Nat.reduceAdd,Nat.reduceLT,Nat.reduceEqDiff,UInt8.reduceToNat],by simp only[rB,rP,rQ,q8,qa,q7,qb,reduceIte,reduceCtorEq,Nat.reduceAdd,Nat.reduceLT,Nat.reduceEqDiff,UInt8.reduceToNat,t2],by simp only[rB,rP,rQ,q8,qa,q7,qb,reduceIte,reduceCtorEq,Nat.reduceAdd,Nat.reduceLT,Nat.reduceEqDiff,UInt8.reduceToNat],by simp only[rB,rP,rQ,q8,qa,q7,qb,reduceIte,reduceCtorEq,Nat.reduceAdd,Nat.reduceLT,Nat.reduceEqDiff,UInt8.reduceToNat,t8],hh,by simp only[List.length_cons] at hlen;omega,y2,hE,hB1,hw⟩
   ·have hcond:(rest.isEmpty&&!follow)=false:=by
     cases rest with
     | nil=>cases follow with|true=>rfl|false=>exact absurd ⟨rfl,rfl⟩ hre
     | cons _ _=>rfl
    rw[hcond] at hw
    simp only[cond_false] at hw
    have hw1:IntKind.i64.wrap ((hops:Int)+1)=((hops+1:Nat):Int):=by
     rw[show (hops:Int)+1=((hops+1:Nat):Int) from by simp]
     exact qU (by omega)
    have hlr:rest.length≤50000:=by simp only[List.length_cons] at hlen;omega
    by_cases hr0:rest=[]
    ·have hf1:follow=true:=by cases follow with|true=>rfl|false=>exact absurd ⟨hr0,rfl⟩ hre
     have r0:((rest.length:Int)==0)=true:=by rw[hr0];rfl
     by_cases h8:7 < hops
     ·rw[Nat.blt_eq.mpr h8] at hw
      simp only[cond_true,Option.some.injEq] at hw
      have g8:decide (((hops+1:Nat):Int) > 8)=true:=by rw[decide_eq_true_eq];omega
      repeat (first|with_reducible (refine q9 H ?_;constructor)|simp only[rB,rP,rQ,q8,qa,q7,qb,reduceIte,reduceCtorEq,Nat.reduceAdd,Nat.reduceLT,Nat.reduceEqDiff,UInt8.reduceToNat,pe3,pf3,t0,t1,t2,t7,t8,vl,vi,zD,g0,WH,qK,hn,ndA,qH,k1,qf0,J3,x1,qD,x2',x4,hm,lk,x4',qi5,WD,XJ,y1,k3,hn2,vl2,vi2,qr,qI,hw1,qib,r0,hf1,g8]|(with_reducible refine qy H (i:=5) (.take 0 (.take 1 (.take 2 (.take 3 (.take 4 (.take 5 (.take 6 (.take 7 (.take 8 (.done)))))))))) rfl (by kernel_rfl) ?_)|(with_reducible refine Qp H ?_)|(with_reducible refine zS H ?_))
      exact hq 7 s1 hw.symm hE hB1
     ·have h8':Nat.blt 7 hops=false:=by rw[← Bool.not_eq_true,Nat.blt_eq];exact h8
      rw[h8'] at hw
      simp only[cond_false] at hw
      have g8:decide (((hops+1:Nat):Int) > 8)=false:=by rw[decide_eq_false_iff_not];omega
      cases hpp:Yg T 20 cur with
      | none=>rw[hpp] at hw;cases hw
      | some cw =>
      rw[hpp] at hw
      simp only at hw
      cases hcd:(Nat.ble cw.length 1000&&(zi cw&&zi kd.data)) with
      | false=>rw[hcd] at hw;cases hw
      | true =>
      rw[hcd] at hw
      simp only[cond_true] at hw
      simp only[Bool.and_eq_true] at hcd
      repeat (first|with_reducible (refine q9 H ?_;constructor)|simp only[rB,rP,rQ,q8,qa,q7,qb,reduceIte,reduceCtorEq,Nat.reduceAdd,Nat.reduceLT,Nat.reduceEqDiff,UInt8.reduceToNat,pe3,pf3,t0,t1,t2,t7,t8,vl,vi,zD,g0,WH,qK,hn,ndA,qH,k1,qf0,J3,x1,qD,x2',x4,hm,lk,x4',qi5,WD,XJ,y1,k3,hn2,vl2,vi2,qr,qI,hw1,qib,r0,hf1,g8]|(with_reducible refine qy H (i:=5) (.take 0 (.take 1 (.take 2 (.take 3 (.take 4 (.take 5 (.take 6 (.take 7 (.take 8 (.done)))))))))) rfl (by kernel_rfl) ?_)|(with_reducible refine Qp H ?_))
      refine qbf H hT1 hpp (Nat.le_of_ble_eq_true hcd.1) hcd.2.1 hcd.2.2 (fun nm he=>?_) (fun c he=>?_)
      ·rw[he] at hw
       simp only at hw
       cases hbd:Nat.ble (nm.length+rest.length) 50000 with
       | false=>rw[hbd] at hw;cases hw
       | true =>
       rw[hbd] at hw
       simp only[cond_true] at hw
       have hbd:=Nat.le_of_ble_eq_true hbd
       have hV1:=SlV.mk (s:=s1) (names:=nm)
       have hE2:=Ju (s:=s1) (names:=nm)
       have hB2:=Zi (names:=nm) hB1
       generalize (JA 9 nm s1).1=V1 at *
       generalize (JA 9 nm s1).2=s2 at *
       have y2':=y2.ext hB1 hE2
       have bt:=qtj (s:=s2) hV1.cells1.1 y2.cells1.1
       repeat (first|with_reducible (refine q9 H ?_;constructor)|simp only[rB,rP,rQ,q8,qa,q7,qb,reduceIte,reduceCtorEq,Nat.reduceAdd,Nat.reduceLT,Nat.reduceEqDiff,UInt8.reduceToNat,pe3,pf3,t0,t1,t2,t7,t8,vl,vi,zD,g0,WH,qK,hn,ndA,qH,k1,qf0,J3,x1,qD,x2',x4,hm,lk,x4',qi5,WD,XJ,y1,k3,hn2,vl2,vi2,qr,qI,hw1,qib,r0,hf1,bt])
       refine qih H (qR hB2 _) (hV1.ext hB2 (Ext.alloc s2 _)) (y2'.ext hB2 (Ext.alloc s2 _)) qu (by omega) (fun V4 s4 q1 q2 q3=>?_)
       have hE4:=hE.trans (hE2.trans ((Ext.alloc s2 _).trans q2))
       have hx4:=(hE4.2 x (hB x _ hx)).trans hx
       repeat (first|with_reducible (refine q9 H ?_;constructor)|simp only[rB,rP,rQ,q8,qa,q7,qb,reduceIte,reduceCtorEq,Nat.reduceAdd,Nat.reduceLT,Nat.reduceEqDiff,UInt8.reduceToNat,pe3,pf3,t0,t1,t2,t7,t8,q5i,KK,hx4])
       exact ih n _ _ (Nat.lt_succ_self n) ⟨root,hops+1,nm++rest,V4,by simp only[rB,rP,rQ,q8,qa,q7,qb,reduceIte,reduceCtorEq,Nat.reduceAdd,Nat.reduceLT,Nat.reduceEqDiff,UInt8.reduceToNat,t0],by simp only[rB,rP,rQ,q8,qa,q7,qb,reduceIte,reduceCtorEq,Nat.reduceAdd,Nat.reduceLT,Nat.reduceEqDiff,UInt8.reduceToNat],by simp only[rB,rP,rQ,q8,qa,q7,qb,reduceIte,reduceCtorEq,Nat.reduceAdd,Nat.reduceLT,Nat.reduceEqDiff,UInt8.reduceToNat,t2],by simp only[rB,rP,rQ,q8,qa,q7,qb,reduceIte,reduceCtorEq,Nat.reduceAdd,Nat.reduceLT,Nat.reduceEqDiff,UInt8.reduceToNat],by simp only[rB,rP,rQ,q8,qa,q7,qb,reduceIte,reduceCtorEq,Nat.reduceAdd,Nat.reduceLT,Nat.reduceEqDiff,UInt8.reduceToNat,t8],by omega,by rw[List.length_append];omega,q1,hE4,q3,hw⟩
      ·rw[he] at hw
       simp only[Option.some.injEq] at hw
       repeat (first|with_reducible (refine q9 H ?_;constructor)|simp only[rB,rP,rQ,q8,qa,q7,qb,reduceIte,reduceCtorEq,Nat.reduceAdd,Nat.reduceLT,Nat.reduceEqDiff,UInt8.reduceToNat,pe3,pf3,t0])
       exact hq c s1 hw.symm hE hB1
    ·have r0:((rest.length:Int)==0)=false:=by
      rw[beq_eq_false_iff_ne]
      intro h
      exact hr0 (List.eq_nil_of_length_eq_zero (by omega))
     by_cases h8:7 < hops
     ·rw[Nat.blt_eq.mpr h8] at hw
      simp only[cond_true,Option.some.injEq] at hw
      have g8:decide (((hops+1:Nat):Int) > 8)=true:=by rw[decide_eq_true_eq];omega
      repeat (first|with_reducible (refine q9 H ?_;constructor)|simp only[rB,rP,rQ,q8,qa,q7,qb,reduceIte,reduceCtorEq,Nat.reduceAdd,Nat.reduceLT,Nat.reduceEqDiff,UInt8.reduceToNat,pe3,pf3,t0,t1,t2,t7,t8,vl,vi,zD,g0,WH,qK,hn,ndA,qH,k1,qf0,J3,x1,qD,x2',x4,hm,lk,x4',qi5,WD,XJ,y1,k3,hn2,vl2,vi2,qr,qI,hw1,qib,r0,g8]|(with_reducible refine qy H (i:=5) (.take 0 (.take 1 (.take 2 (.take 3 (.take 4 (.take 5 (.take 6 (.take 7 (.take 8 (.done)))))))))) rfl (by kernel_rfl) ?_)|(with_reducible refine Qp H ?_)|(with_reducible refine zS H ?_))
      exact hq 7 s1 hw.symm hE hB1
     ·have h8':Nat.blt 7 hops=false:=by rw[← Bool.not_eq_true,Nat.blt_eq];exact h8
      rw[h8'] at hw
      simp only[cond_false] at hw
      have g8:decide (((hops+1:Nat):Int) > 8)=false:=by rw[decide_eq_false_iff_not];omega
      cases hpp:Yg T 20 cur with
      | none=>rw[hpp] at hw;cases hw
      | some cw =>
      rw[hpp] at hw
      simp only at hw
      cases hcd:(Nat.ble cw.length 1000&&(zi cw&&zi kd.data)) with
      | false=>rw[hcd] at hw;cases hw
      | true =>
      rw[hcd] at hw
      simp only[cond_true] at hw
      simp only[Bool.and_eq_true] at hcd
      repeat (first|with_reducible (refine q9 H ?_;constructor)|simp only[rB,rP,rQ,q8,qa,q7,qb,reduceIte,reduceCtorEq,Nat.reduceAdd,Nat.reduceLT,Nat.reduceEqDiff,UInt8.reduceToNat,pe3,pf3,t0,t1,t2,t7,t8,vl,vi,zD,g0,WH,qK,hn,ndA,qH,k1,qf0,J3,x1,qD,x2',x4,hm,lk,x4',qi5,WD,XJ,y1,k3,hn2,vl2,vi2,qr,qI,hw1,qib,r0,g8]|(with_reducible refine qy H (i:=5) (.take 0 (.take 1 (.take 2 (.take 3 (.take 4 (.take 5 (.take 6 (.take 7 (.take 8 (.done)))))))))) rfl (by kernel_rfl) ?_)|(with_reducible refine Qp H ?_))
      refine qbf H hT1 hpp (Nat.le_of_ble_eq_true hcd.1) hcd.2.1 hcd.2.2 (fun nm he=>?_) (fun c he=>?_)
      ·rw[he] at hw
       simp only at hw
       cases hbd:Nat.ble (nm.length+rest.length) 50000 with
       | false=>rw[hbd] at hw;cases hw
       | true =>
       rw[hbd] at hw
       simp only[cond_true] at hw
       have hbd:=Nat.le_of_ble_eq_true hbd
       have hV1:=SlV.mk (s:=s1) (names:=nm)
       have hE2:=Ju (s:=s1) (names:=nm)
       have hB2:=Zi (names:=nm) hB1
       generalize (JA 9 nm s1).1=V1 at *
       generalize (JA 9 nm s1).2=s2 at *
       have y2':=y2.ext hB1 hE2
       have bt:=qtj (s:=s2) hV1.cells1.1 y2.cells1.1
       repeat (first|with_reducible (refine q9 H ?_;constructor)|simp only[rB,rP,rQ,q8,qa,q7,qb,reduceIte,reduceCtorEq,Nat.reduceAdd,Nat.reduceLT,Nat.reduceEqDiff,UInt8.reduceToNat,pe3,pf3,t0,t1,t2,t7,t8,vl,vi,zD,g0,WH,qK,hn,ndA,qH,k1,qf0,J3,x1,qD,x2',x4,hm,lk,x4',qi5,WD,XJ,y1,k3,hn2,vl2,vi2,qr,qI,hw1,qib,r0,bt])
       refine qih H (qR hB2 _) (hV1.ext hB2 (Ext.alloc s2 _)) (y2'.ext hB2 (Ext.alloc s2 _)) qu (by omega) (fun V4 s4 q1 q2 q3=>?_)
       have hE4:=hE.trans (hE2.trans ((Ext.alloc s2 _).trans q2))
       have hx4:=(hE4.2 x (hB x _ hx)).trans hx
       repeat (first|with_reducible (refine q9 H ?_;constructor)|simp only[rB,rP,rQ,q8,qa,q7,qb,reduceIte,reduceCtorEq,Nat.reduceAdd,Nat.reduceLT,Nat.reduceEqDiff,UInt8.reduceToNat,pe3,pf3,t0,t1,t2,t7,t8,q5i,KK,hx4])
       exact ih n _ _ (Nat.lt_succ_self n) ⟨root,hops+1,nm++rest,V4,by simp only[rB,rP,rQ,q8,qa,q7,qb,reduceIte,reduceCtorEq,Nat.reduceAdd,Nat.reduceLT,Nat.reduceEqDiff,UInt8.reduceToNat,t0],by simp only[rB,rP,rQ,q8,qa,q7,qb,reduceIte,reduceCtorEq,Nat.reduceAdd,Nat.reduceLT,Nat.reduceEqDiff,UInt8.reduceToNat],by simp only[rB,rP,rQ,q8,qa,q7,qb,reduceIte,reduceCtorEq,Nat.reduceAdd,Nat.reduceLT,Nat.reduceEqDiff,UInt8.reduceToNat,t2],by simp only[rB,rP,rQ,q8,qa,q7,qb,reduceIte,reduceCtorEq,Nat.reduceAdd,Nat.reduceLT,Nat.reduceEqDiff,UInt8.reduceToNat],by simp only[rB,rP,rQ,q8,qa,q7,qb,reduceIte,reduceCtorEq,Nat.reduceAdd,Nat.reduceLT,Nat.reduceEqDiff,UInt8.reduceToNat,t8],by omega,by rw[List.length_append];omega,q1,hE4,q3,hw⟩
      ·rw[he] at hw
       simp only[Option.some.injEq] at hw
       repeat (first|with_reducible (refine q9 H ?_;constructor)|simp only[rB,rP,rQ,q8,qa,q7,qb,reduceIte,reduceCtorEq,Nat.reduceAdd,Nat.reduceLT,Nat.reduceEqDiff,UInt8.reduceToNat,pe3,pf3,t0])
       exact hq c s1 hw.symm hE hB1
  ·have k3:(kd.kind != 3)=true:=by rw[bne_iff_ne];exact h3
   rw[decide_eq_true h3,Bool.true_or] at hw
   simp only[cond_true] at hw
   repeat (first|with_reducible (refine q9 H ?_;constructor)|simp only[rB,rP,rQ,q8,qa,q7,qb,reduceIte,reduceCtorEq,Nat.reduceAdd,Nat.reduceLT,Nat.reduceEqDiff,UInt8.reduceToNat,pe3,pf3,t0,t1,t2,t7,t8,vl,vi,zD,g0,WH,qK,hn,ndA,qH,k1,qf0,J3,x1,qD,x2',x4,hm,lk,x4',qi5,WD,XJ,y1,k3,hn2,vl2,vi2]|(with_reducible refine qy H (i:=5) (.take 0 (.take 1 (.take 2 (.take 3 (.take 4 (.take 5 (.take 6 (.take 7 (.take 8 (.done)))))))))) rfl (by kernel_rfl) ?_)|(with_reducible refine Qp H ?_))
   exact ih n _ _ (Nat.lt_succ_self n) ⟨kid,hops,rest,V',by simp only[rB,rP,rQ,q8,qa,q7,qb,reduceIte,reduceCtorEq,Nat.reduceAdd,Nat.reduceLT,Nat.reduceEqDiff,UInt8.reduceToNat,t0],by simp only[rB,rP,rQ,q8,qa,q7,qb,reduceIte,reduceCtorEq,Nat.reduceAdd,Nat.reduceLT,Nat.reduceEqDiff,UInt8.reduceToNat],by simp only[rB,rP,rQ,q8,qa,q7,qb,reduceIte,reduceCtorEq,Nat.reduceAdd,Nat.reduceLT,Nat.reduceEqDiff,UInt8.reduceToNat,t2],by simp only[rB,rP,rQ,q8,qa,q7,qb,reduceIte,reduceCtorEq,Nat.reduceAdd,Nat.reduceLT,Nat.reduceEqDiff,UInt8.reduceToNat],by simp only[rB,rP,rQ,q8,qa,q7,qb,reduceIte,reduceCtorEq,Nat.reduceAdd,Nat.reduceLT,Nat.reduceEqDiff,UInt8.reduceToNat,t8],hh,by simp only[List.length_cons] at hlen;omega,y2,hE,hB1,hw⟩
 ·have k1:(nd.kind != 1)=true:=by rw[bne_iff_ne];exact hd
  rw[decide_eq_true hd] at hw
  simp only[cond_true,Option.some.injEq] at hw
  repeat (first|with_reducible (refine q9 H ?_;constructor)|simp only[rB,rP,rQ,q8,qa,q7,qb,reduceIte,reduceCtorEq,Nat.reduceAdd,Nat.reduceLT,Nat.reduceEqDiff,UInt8.reduceToNat,pe3,pf3,t0,t1,t2,t7,t8,vl,vi,zD,g0,WH,qK,hn,ndA,qH,k1]|(with_reducible refine zS H ?_))
  exact hq 3 s1 hw.symm hE hB1
def YY (T:QH) (cwd:Nat) (b:List Nat):Option (List (List Nat) ⊕ Nat):=match Yg T 20 cwd with
 | none=>none
 | some cw=>bif Nat.ble cw.length 1000&&(zi cw&&zi b) then
  match ZV cw b with
  | .inr n=>some (.inr n)
  | .inl names=>bif Nat.ble names.length 50000 then some (.inl names) else none
  else none
def Zq (T:QH) (root cwd:Nat) (b:List Nat) (follow:Bool):Option (Nat ⊕ Nat):=match YY T cwd b with
 | none=>none
 | some (.inr n)=>some (.inr n)
 | some (.inl names)=>JP T root follow 200 root 0 names
def qti (T:QH) (root cwd:Nat) (b:List Nat):Option ((Nat × List Nat) ⊕ Nat):=match YY T cwd b with
 | none=>none
 | some (.inr n)=>some (.inr n)
 | some (.inl names)=>match names[names.length - 1]? with
  | none=>some (.inr 5)
  | some nm=>match JP T root true 200 root 0 (names.take (names.length - 1)) with
   | none=>none
   | some (.inr n)=>some (.inr n)
   | some (.inl u)=>match T u with
    | none=>none
    | some ud=>bif decide (ud.kind≠1) then some (.inr 3) else some (.inl (u,nm))
theorem qsp {s:St} (H:Ok TE Tryz.prog pr3) {T:QH} (hT:RepT s T) (hB:qc s) {cwd:Nat} {b:List Nat} {out:List (List Nat) ⊕ Nat} (hn:YY T cwd b=some out) {kr kp:AV→St→Bool}
  (hk:∀ names V s',out=.inl names→names.length≤50000→SlV s' V names→Ext s s'→qc s'→kr V s'=true) (hq:∀ c:Nat,out=.inr c→kp (.iface 110 (.raw (.int .i64 (c:Int)))) s=true) :
  (sem Tryz.prog).call 111 [.ptr cwd 0,.str b] s kr kp=true:=by
 unfold YY at hn
 cases hp:Yg T 20 cwd with
 | none=>rw[hp] at hn;cases hn
 | some cw =>
 rw[hp] at hn
 simp only at hn
 cases hc:(Nat.ble cw.length 1000&&(zi cw&&zi b)) with
 | false=>rw[hc] at hn;cases hn
 | true =>
 rw[hc] at hn
 simp only[cond_true] at hn
 simp only[Bool.and_eq_true] at hc
 refine qbf H hT hp (Nat.le_of_ble_eq_true hc.1) hc.2.1 hc.2.2 (fun nm he=>?_) (fun c he=>?_)
 ·rw[he] at hn
  simp only at hn
  cases hb:Nat.ble nm.length 50000 with
  | false=>rw[hb] at hn;cases hn
  | true =>
   rw[hb] at hn
   simp only[cond_true,Option.some.injEq] at hn
   exact hk nm _ _ hn.symm (Nat.le_of_ble_eq_true hb) SlV.mk Ju (Zi hB)
 ·rw[he] at hn
  simp only[Option.some.injEq] at hn
  exact hq c hn.symm
theorem qoi {s:St} (H:Ok TE Tryz.prog pr3) {T:QH} (hT:RepT s T) (hB:qc s) {x root cwd:Nat} {tl:List AV} (hx:s.h.get x=some (.cells (.ptr root 0::.ptr cwd 0::tl) 120 0)) {b:List Nat} {follow:Bool} {out:Nat ⊕ Nat} (hf:Zq T root cwd b follow=some out)
  {kr kp:AV→St→Bool} (hk:∀ n s',out=.inl n→Ext s s'→qc s'→kr (.ptr n 0) s'=true) (hq:∀ c s',out=.inr c→Ext s s'→qc s'→kp (.iface 110 (.raw (.int .i64 ((c:Nat):Int)))) s'=true) :
  (sem Tryz.prog).call 64 [.ptr x 0,.str b,.raw (.bool follow)] s kr kp=true:=by
 refine qp H 16 q5g rfl rfl ?_
 unfold Zq at hf
 cases hn:YY T cwd b with
 | none=>rw[hn] at hf;cases hf
 | some o =>
 rw[hn] at hf
 repeat (first|with_reducible (refine q9 H ?_;constructor)|simp only[rB,rP,rQ,q8,qa,q7,qb,reduceIte,reduceCtorEq,Nat.reduceAdd,Nat.reduceLT,Nat.reduceEqDiff,UInt8.reduceToNat,pe3,pf3,fr_1,KK,hx])
 refine qsp H hT hB hn (fun nm V s1 he hl hV hE hB1=>?_) (fun c he=>?_)
 ·subst he
  simp only at hf
  repeat (first|with_reducible (refine q9 H ?_;constructor)|simp only[rB,rP,rQ,q8,qa,q7,qb,reduceIte,reduceCtorEq,Nat.reduceAdd,Nat.reduceLT,Nat.reduceEqDiff,UInt8.reduceToNat,pe3,pf3])
  refine q36 H (hT.ext hB hE) hB1 ((hE.2 x (hB x _ hx)).trans hx) hV hl hf (fun n s2 h1 h2 h3=>?_) (fun c s2 h1 h2 h3=>?_)
  ·repeat (first|with_reducible (refine q9 H ?_;constructor)|simp only[rB,rP,rQ,q8,qa,q7,qb,reduceIte,reduceCtorEq,Nat.reduceAdd,Nat.reduceLT,Nat.reduceEqDiff,UInt8.reduceToNat,pe3,pf3,Tryz.results64])
   exact hk n s2 h1 (hE.trans h2) h3
  ·repeat (first|with_reducible (refine q9 H ?_;constructor)|simp only[rB,rP,rQ,q8,qa,q7,qb,reduceIte,reduceCtorEq,Nat.reduceAdd,Nat.reduceLT,Nat.reduceEqDiff,UInt8.reduceToNat,pe3,pf3])
   exact hq c s2 h1 (hE.trans h2) h3
 ·subst he
  simp only[Option.some.injEq] at hf
  repeat (first|with_reducible (refine q9 H ?_;constructor)|simp only[rB,rP,rQ,q8,qa,q7,qb,reduceIte,reduceCtorEq,Nat.reduceAdd,Nat.reduceLT,Nat.reduceEqDiff,UInt8.reduceToNat,pe3,pf3])
  exact hq c s hf.symm (Ext.refl s) hB
structure Cl where
 op:Int
 path:List Nat
 path2:List Nat
 fd:Int
 off:Int
 num:Int
 mode:Int
 data:List Nat
def clL (c:Cl):List AV:=[.raw (.int .i64 c.op),.str c.path,.str c.path2,.raw (.int .i64 c.fd),.raw (.int .i64 c.off),.raw (.int .i64 c.num),.raw (.int .i64 c.mode),.str c.data]
def anL (status num kind mode:Int) (data:List Nat) (names:AV):List AV:=[.raw (.int .i64 status),.raw (.int .i64 num),.raw (.int .i64 kind),.raw (.int .i64 mode),.str data,names]
def nilS:AV:=.raw (.slice none 0 0)
theorem qnp {x:Nat}:qk TE 41 (.ptr x 0) 0=some (.ptr x 0):=by kernel_rfl
theorem q7d {x:Nat}:qk TE 41 (.ptr x 0) 1=some (.ptr x 1):=by kernel_rfl
theorem qrn {x:Nat}:qk TE 41 (.ptr x 0) 4=some (.ptr x 4):=by kernel_rfl
theorem qy2 {x:Nat}:qk TE 41 (.ptr x 0) 5=some (.ptr x 5):=by kernel_rfl
theorem q8y {x:Nat}:qk TE 41 (.ptr x 0) 6=some (.ptr x 6):=by kernel_rfl
theorem q0p {x:Nat}:qk TE 41 (.ptr x 0) 7=some (.ptr x 7):=by kernel_rfl
theorem ZG {s:St}:Z5 TE s 38=some (.ptr s.nx 0,s.alloc (.cells (anL 0 0 0 0 [] nilS) 38 0)):=by
 have:zt TE 38=some (.agg (anL 0 0 0 0 [] nilS)):=by kernel_rfl
 simp only[Z5,this];rfl
theorem qwz:qez TE 38=6:=by kernel_rfl
theorem q0f:(match TE.info 38 with|some ti=>Qv ti.desc&&Nat.beq ti.size 6|none=>false)=true:=by kernel_rfl
theorem qz8:(match TE.info 41 with|some ti=>Qv ti.desc&&Nat.beq ti.size 8|none=>false)=true:=by kernel_rfl
def stA (s:St) (x:Nat) (c:Option AO) (vs:List AV):Option St:=match c with
 | some (.cells cs el fz)=>match JW cs 0 vs with
  | some cs'=>some { s with h:=s.h.set x (.cells cs' el fz) }
  | none=>none
 | _=>none
theorem KZ {s:St} {x:Nat} {st n k m:Int} {d:List Nat} {N:AV} (hN:N.one=true):Qu TE s 38 (.ptr x 0) (.agg (anL st n k m d N))=stA s x (s.h.get x) (anL st n k m d N):=by
 have hs:=qwz
 unfold qez at hs
 cases ht:TE.info 38 with
 | none=>rw[ht] at hs;cases hs
 | some ti =>
  rw[ht] at hs
  simp only at hs
  have hall:(anL st n k m d N).all AV.one=true:=by simp[anL,List.all_cons,Kp,qb1,hN]
  simp only[Qu,ht,hs,qf,zj,hall]
  show (bif true then _ else _)=_
  simp only[cond_true,stA,qY]
  cases s.h.get x with
  | none=>rfl
  | some y=>cases y <;> rfl
theorem J7 {s:St} {x el fz:Nat} {a b c d:Int} {e:List Nat} {M:AV} {st n k m:Int} {f:List Nat} {N:AV}:stA s x (some (.cells (anL a b c d e M) el fz)) (anL st n k m f N)=some { s with h:=s.h.set x (.cells (anL st n k m f N) el fz) }:=(rfl)
theorem ZM:nilS.one=true:=(rfl)
def ldG (n:Nat) (o:Option AO):Option AV:=match o with
 | some (.cells cs _ _)=>match ZF 0 n cs with
  | some l=>some (.agg l)
  | none=>none
 | some (.old cs)=>match ZF 0 n cs with
  | some l=>some (.agg l)
  | none=>none
 | _=>none
theorem KJ {t n x:Nat} {s:St} (hs:(match TE.info t with|some ti=>Qv ti.desc&&Nat.beq ti.size n|none=>false)=true):Q3 TE s t (.ptr x 0)=ldG n (s.h.get x):=by
 cases ht:TE.info t with
 | none=>rw[ht] at hs;cases hs
 | some ti =>
  rw[ht] at hs
  simp only[Bool.and_eq_true] at hs
  have h2:=Nat.eq_of_beq_eq_true hs.2
  simp only[Q3,ht,ldG,qY,qp9]
  cases s.h.get x with
  | none=>rfl
  | some y =>
   cases y with
   | cells cs el fz =>
    simp only[hs.1,cond_true,h2]
    rfl
   | old cs =>
    simp only[hs.1,cond_true,h2]
    rfl
   | _=>rfl
theorem VK {s:St} {x:Nat}:Q3 TE s 38 (.ptr x 0)=ldG 6 (s.h.get x):=KJ q0f
theorem qnz {s:St} {x:Nat}:Q3 TE s 41 (.ptr x 0)=ldG 8 (s.h.get x):=KJ qz8
theorem YJ {a b c d:Int} {e:List Nat} {M:AV} {el fz:Nat}:ldG 6 (some (.cells (anL a b c d e M) el fz))=some (.agg (anL a b c d e M)):=(rfl)
theorem qey {a0 a1 a2 a3 a4 a5 a6 a7:AV} {el fz:Nat}:ldG 8 (some (.cells [a0,a1,a2,a3,a4,a5,a6,a7] el fz))=some (.agg [a0,a1,a2,a3,a4,a5,a6,a7]):=(rfl)
def W2 (data:List Nat) (off num:Int):List Nat ⊕ Nat:=bif decide (off < 0)||(decide (num < 0)||decide (num > 512)) then .inr 5 else
 .inl ((data.drop (min off.toNat data.length)).take (min num.toNat (data.length - min off.toNat data.length)))
theorem q7b {d:List Nat} {n:Int}:Qb TE 38 [(4,.str d),(1,.raw (.int .i64 n))]=some (.agg (anL 0 n 0 0 d nilS)):=by kernel_rfl
theorem q3f {s:St} (H:Ok TE Tryz.prog pr3) (hB:qc s) {i:Nat} {nd:Nd} (hn:s.h.get i=some (ndA nd)) (hl:nd.data.length≤1000000) {c:Cl} {kr kp:AV→St→Bool}
  (hk:∀ d s',W2 nd.data c.off c.num=.inl d→Ext s s'→qc s'→kr (.agg (anL 0 (d.length:Int) 0 0 d nilS)) s'=true) (hq:∀ n s',W2 nd.data c.off c.num=.inr n→Ext s s'→qc s'→kp (.iface 110 (.raw (.int .i64 ((n:Nat):Int)))) s'=true) :
  (sem Tryz.prog).call 97 [.ptr i 0,.agg (clL c)] s kr kp=true:=by
 refine qp H 50 q6o rfl rfl ?_
 have hi:=hB i _ hn
 have n1:s.nx≠s.nx+1:=by omega
 have n2:s.nx+1≠s.nx:=by omega
 have n3:i≠s.nx:=by omega
 have n4:i≠s.nx+1:=by omega
 have m1:(s.nx=s.nx+1)=False:=by simp
 have m2:(s.nx+1=s.nx)=False:=by simp
 have m3:(i=s.nx)=False:=by simp[n3]
 have m4:(i=s.nx+1)=False:=by simp[n4]
 have hE:Ext s ((s.alloc (.cells (clL c) 41 0)).alloc (.cells (anL 0 0 0 0 [] nilS) 38 0)):=(Ext.alloc s _).trans (Ext.alloc _ _)
 have hB2:=qR (qR hB (.cells (clL c) 41 0)) (.cells (anL 0 0 0 0 [] nilS) 38 0)
 unfold W2 at hk hq
 by_cases b1:c.off < 0
 ·rw[decide_eq_true b1,Bool.true_or] at hq
  have e1:=decide_eq_true b1
  repeat (first|with_reducible (refine q9 H ?_;constructor)|simp only[rB,rP,rQ,q8,qa,q7,qb,reduceIte,reduceCtorEq,Nat.reduceAdd,Nat.reduceLT,Nat.reduceEqDiff,UInt8.reduceToNat,pe3,pf3,ZG,qf,qrn,qy2,clL,qK,m1,m2,zJ,zD,e1]|(with_reducible refine zS H ?_))
  exact hq 5 _ rfl hE hB2
 have e1:=decide_eq_false b1
 rw[e1,Bool.false_or] at hq hk
 by_cases b2:c.num < 0
 ·rw[decide_eq_true b2,Bool.true_or] at hq
  have e2:=decide_eq_true b2
  repeat (first|with_reducible (refine q9 H ?_;constructor)|simp only[rB,rP,rQ,q8,qa,q7,qb,reduceIte,reduceCtorEq,Nat.reduceAdd,Nat.reduceLT,Nat.reduceEqDiff,UInt8.reduceToNat,pe3,pf3,ZG,qf,qrn,qy2,clL,qK,m1,m2,zJ,zD,e1,e2]|(with_reducible refine zS H ?_))
  exact hq 5 _ rfl hE hB2
 have e2:=decide_eq_false b2
 rw[e2,Bool.false_or] at hq hk
 by_cases b3:c.num > 512
 ·rw[decide_eq_true b3] at hq
  have e3:=decide_eq_true b3
  repeat (first|with_reducible (refine q9 H ?_;constructor)|simp only[rB,rP,rQ,q8,qa,q7,qb,reduceIte,reduceCtorEq,Nat.reduceAdd,Nat.reduceLT,Nat.reduceEqDiff,UInt8.reduceToNat,pe3,pf3,ZG,qf,qrn,qy2,clL,qK,m1,m2,zJ,zD,e1,e2,e3]|(with_reducible refine zS H ?_))
  exact hq 5 _ rfl hE hB2
 have e3:=decide_eq_false b3
 rw[e3] at hk
 simp only[cond_false] at hk
 clear hq
 obtain⟨o,ho⟩:∃ o,min c.off.toNat nd.data.length=o:=⟨_,rfl⟩
 obtain⟨n,hn'⟩:∃ n,min c.num.toNat (nd.data.length - o)=n:=⟨_,rfl⟩
 rw[ho,hn'] at hk
 have j1:(if (nd.data.length:Int) < c.off then (nd.data.length:Int) else c.off)=(o:Int):=by split <;> omega
 have j2:IntKind.i64.wrap ((nd.data.length:Int) - (o:Int))=((nd.data.length - o:Nat):Int):=by
  rw[show (nd.data.length:Int) - (o:Int)=((nd.data.length - o:Nat):Int) from by omega]
  exact qU (by omega)
 have j3:(if ((nd.data.length - o:Nat):Int) < c.num then ((nd.data.length - o:Nat):Int) else c.num)=(n:Int):=by split <;> omega
 have j4:=qbd (n:=nd.data.length) (m:=nd.data.length) (zC (k:=.i64) (n:=o)) (by omega) (Nat.le_refl _)
 have j5:((nd.data.drop o).take (nd.data.length - o))=nd.data.drop o:=List.take_of_length_le (by simp)
 have j6:=Xz (n:=(nd.data.drop o).length) (m:=(nd.data.drop o).length) (zC (k:=.i64) (n:=n)) (by simp;omega)
 have hq1:∀ x:List Nat,List.take (n - 0) (List.drop 0 x)=x.take n:=fun x=>by simp
 repeat (first|with_reducible (refine q9 H ?_;constructor)|simp only[rB,rP,rQ,q8,qa,q7,qb,reduceIte,reduceCtorEq,Nat.reduceAdd,Nat.reduceLT,Nat.reduceEqDiff,UInt8.reduceToNat,pe3,pf3,ZG,qf,qrn,qy2,qib,clL,qK,qD,hn,ndA,m1,m2,m3,m4,zJ,zD,zf,e1,e2,e3,j1,j2,j3,ql,Ym,j4,j5,j6,hq1,q7b,KZ,J7,ZM,VK,YJ,Tryz.results97]|(with_reducible refine Qp H ?_)|(with_reducible refine qy H (i:=2) (.take 0 (.take 1 (.take 2 (.take 3 (.take 4 (.take 5 (.take 6 (.take 7 (.take 8 (.done)))))))))) rfl (by kernel_rfl) ?_)|(with_reducible refine qy H (i:=3) (.take 0 (.take 1 (.take 2 (.take 3 (.take 4 (.take 5 (.take 6 (.take 7 (.take 8 (.take 9 (.take 10 (.take 11 (.take 12 (.take 13 (.take 14 (.take 15 (.take 16 (.take 17 (.done))))))))))))))))))) rfl (by kernel_rfl) ?_))
 refine hk _ _ rfl ⟨Nat.le_trans (Nat.le_succ _) (Nat.le_succ _),fun j hj=>?_⟩ (qn hB2 (by show s.nx+1 < s.nx+1+1;omega) _)
 exact (qe (by omega)).trans (hE.2 j hj)
def JF (data:List Nat) (n:Nat):List Nat:=bif Nat.ble n data.length then data.take n else data++qdd [0] (n - data.length)
theorem qbg:∀ (n:Nat),(qdd [0] n).length=n
 | 0=>(rfl)
 | n+1=>by simp[qdd,qbg n]
theorem qk6 {data:List Nat} {n:Nat}:(JF data n).length=n:=by
 unfold JF
 cases h:Nat.ble n data.length with
 | true=>simp only[cond_true,List.length_take];have:=Nat.le_of_ble_eq_true h;omega
 | false =>
  have:¬ n≤data.length:=fun hh=>by rw[Nat.ble_eq.mpr hh] at h;cases h
  simp only[cond_false,List.length_append,qbg];omega
theorem q4f {r:Tasks} {a:Ac} {dst:Option Tmp} {s:St} {k:Ac→St→Bool} {kp:AV→St→Bool} {n:Nat} (h:n≤1000000) :
  YN pr3 r (.fn 136 []) [.str [0],.raw (.int .i64 (n:Int))] a dst s k kp=zN a dst (.str (qdd [0] n)) s k:=by
 refine Xm (pe3 (by decide)) ?_
 unfold pr3
 rw[Qx (by decide)]
 unfold pr2
 rw[Qx (by decide),Qx (by decide)]
 unfold pr1
 rw[Qx (by decide),Qx (by decide)]
 have e1:Nat.ble (1 * n) 1000000=true:=Nat.ble_eq.mpr (by omega)
 have e2:Nat.ble n 1000000=true:=Nat.ble_eq.mpr h
 show (bif Nat.ble (1 * n) 1000000&&Nat.ble n 1000000 then some (AV.str (qdd [0] n),s) else none)=_
 rw[e1,e2]
 rfl
theorem qx0 {s:St} (H:Ok TE Tryz.prog pr3) {data:List Nat} {n:Nat} (hl:data.length≤40000) (hn:n≤2000) {kr kp:AV→St→Bool} (hk:kr (.str (JF data n)) s=true) :
  (sem Tryz.prog).call 106 [.str data,.raw (.int .i64 (n:Int))] s kr kp=true:=by
 refine qp H 19 q2s rfl rfl ?_
 unfold JF at hk
 by_cases h:n≤data.length
 ·rw[Nat.ble_eq.mpr h] at hk
  have e1:decide ((n:Int)≤(data.length:Int))=true:=by rw[decide_eq_true_eq];omega
  have e2:=Xz (n:=data.length) (m:=data.length) (zC (k:=.i64) (n:=n)) h
  have e3:∀ x:List Nat,List.take (n - 0) (List.drop 0 x)=x.take n:=fun x=>by simp
  repeat (first|with_reducible (refine q9 H ?_;constructor)|simp only[rB,rP,rQ,q8,qa,q7,qb,reduceIte,reduceCtorEq,Nat.reduceAdd,Nat.reduceLT,Nat.reduceEqDiff,UInt8.reduceToNat,pe3,pf3,ql,YL,e1,Ym,e2,e3,Tryz.results106])
  exact hk
 ·have e0:Nat.ble n data.length=false:=by rw[← Bool.not_eq_true,Nat.ble_eq];exact h
  rw[e0] at hk
  have e1:decide ((n:Int)≤(data.length:Int))=false:=by rw[decide_eq_false_iff_not];omega
  have e2:IntKind.i64.wrap ((n:Int) - (data.length:Int))=((n - data.length:Nat):Int):=by
   rw[show (n:Int) - (data.length:Int)=((n - data.length:Nat):Int) from by omega]
   exact qU (by omega)
  have e3:=fun {r a dst k kp}=>q4f (r:=r) (a:=a) (dst:=dst) (s:=s) (k:=k) (kp:=kp) (n:=n - data.length) (by omega)
  have e4:=JJ (a:=data) (b:=qdd [0] (n - data.length)) (by rw[qbg];omega)
  repeat (first|with_reducible (refine q9 H ?_;constructor)|simp only[rB,rP,rQ,q8,qa,q7,qb,reduceIte,reduceCtorEq,Nat.reduceAdd,Nat.reduceLT,Nat.reduceEqDiff,UInt8.reduceToNat,pe3,pf3,ql,YL,e1,zf,e2,e3,e4,Tryz.results106])
  exact hk
def J6 (data:List Nat) (off:Int) (wd:List Nat):List Nat ⊕ Nat:=bif decide (off < 0)||Nat.blt 512 wd.length then .inr 5 else bif decide (off > 1024 - (wd.length:Int)) then .inr 9 else
 bif Nat.blt 0 wd.length then .inl (JF data off.toNat++wd++data.drop (min data.length (off.toNat+wd.length))) else .inl data
theorem q2i {n:Int}:Qb TE 38 [(1,.raw (.int .i64 n))]=some (.agg (anL 0 n 0 0 [] nilS)):=by kernel_rfl
def qit (s s':St) (i:Nat) (o:AO):Prop:=s.nx≤s'.nx∧s'.h.get i=some o∧∀ j,j < s.nx→j≠i→s'.h.get j=s.h.get j
theorem qwu {s:St} (H:Ok TE Tryz.prog pr3) (hB:qc s) {i:Nat} {nd:Nd} (hn:s.h.get i=some (ndA nd)) (hl:nd.data.length≤40000) {c:Cl} (hw:c.data.length≤10000000000000000000) {kr kp:AV→St→Bool}
  (hk:∀ d s',J6 nd.data c.off c.data=.inl d→qit s s' i (ndA { nd with data:=d })→qc s'→kr (.agg (anL 0 (c.data.length:Int) 0 0 [] nilS)) s'=true) (hq:∀ n s',J6 nd.data c.off c.data=.inr n→Ext s s'→qc s'→kp (.iface 110 (.raw (.int .i64 ((n:Nat):Int)))) s'=true) :
  (sem Tryz.prog).call 105 [.ptr i 0,.agg (clL c)] s kr kp=true:=by
 refine qp H 58 q2a rfl rfl ?_
 have hi:=hB i _ hn
 have m1:(s.nx=s.nx+1)=False:=by simp
 have m2:(s.nx+1=s.nx)=False:=by simp
 have m3:(i=s.nx)=False:=by simp;omega
 have m4:(i=s.nx+1)=False:=by simp;omega
 have m5:(s.nx=i)=False:=by simp;omega
 have m6:(s.nx+1=i)=False:=by simp;omega
 have hE:Ext s ((s.alloc (.cells (clL c) 41 0)).alloc (.cells (anL 0 0 0 0 [] nilS) 38 0)):=(Ext.alloc s _).trans (Ext.alloc _ _)
 have hB2:=qR (qR hB (.cells (clL c) 41 0)) (.cells (anL 0 0 0 0 [] nilS) 38 0)
 unfold J6 at hk hq
 by_cases b1:c.off < 0
 ·rw[decide_eq_true b1,Bool.true_or] at hq
  have e1:=decide_eq_true b1
  repeat (first|with_reducible (refine q9 H ?_;constructor)|simp only[rB,rP,rQ,q8,qa,q7,qb,reduceIte,reduceCtorEq,Nat.reduceAdd,Nat.reduceLT,Nat.reduceEqDiff,UInt8.reduceToNat,pe3,pf3,ZG,qf,qrn,q0p,clL,qK,qD,ql,m1,m2,zJ,zD,e1]|(with_reducible refine zS H ?_))
  exact hq 5 _ rfl hE hB2
 have e1:=decide_eq_false b1
 rw[e1,Bool.false_or] at hq hk
 by_cases b2:512 < c.data.length
 ·rw[Nat.blt_eq.mpr b2] at hq
  have e2:decide ((c.data.length:Int) > 512)=true:=by rw[decide_eq_true_eq];omega
  repeat (first|with_reducible (refine q9 H ?_;constructor)|simp only[rB,rP,rQ,q8,qa,q7,qb,reduceIte,reduceCtorEq,Nat.reduceAdd,Nat.reduceLT,Nat.reduceEqDiff,UInt8.reduceToNat,pe3,pf3,ZG,qf,qrn,q0p,clL,qK,qD,ql,m1,m2,zJ,zD,e1,e2]|(with_reducible refine zS H ?_))
  exact hq 5 _ rfl hE hB2
 have e2:decide ((c.data.length:Int) > 512)=false:=by rw[decide_eq_false_iff_not];omega
 have e2':Nat.blt 512 c.data.length=false:=by rw[← Bool.not_eq_true,Nat.blt_eq];exact b2
 rw[e2'] at hq hk
 simp only[cond_false] at hq hk
 have ew:IntKind.i64.wrap (1024 - (c.data.length:Int))=1024 - (c.data.length:Int):=Go.IntWalk.i64_in _ (by omega)
 by_cases b3:c.off > 1024 - (c.data.length:Int)
 ·rw[decide_eq_true b3] at hq
  have e3:=decide_eq_true b3
  repeat (first|with_reducible (refine q9 H ?_;constructor)|simp only[rB,rP,rQ,q8,qa,q7,qb,reduceIte,reduceCtorEq,Nat.reduceAdd,Nat.reduceLT,Nat.reduceEqDiff,UInt8.reduceToNat,pe3,pf3,ZG,qf,qrn,q0p,clL,qK,qD,ql,m1,m2,zJ,zD,zf,e1,e2,ew,e3]|(with_reducible refine Qp H ?_)|(with_reducible refine zS H ?_))
  exact hq 9 _ rfl hE hB2
 have e3:=decide_eq_false b3
 rw[e3] at hk
 simp only[cond_false] at hk
 clear hq
 by_cases b4:0 < c.data.length
 ·rw[Nat.blt_eq.mpr b4] at hk
  simp only[cond_true] at hk
  have e4:decide ((c.data.length:Int) > 0)=true:=by rw[decide_eq_true_eq];omega
  obtain⟨o,ho⟩:∃ o:Nat,c.off=(o:Int):=⟨c.off.toNat,by omega⟩
  have ho':c.off.toNat=o:=by omega
  rw[ho'] at hk
  rw[ho] at e1 e3 b1 b3
  have j1:IntKind.i64.wrap ((o:Int)+(c.data.length:Int))=((o+c.data.length:Nat):Int):=by
   rw[show (o:Int)+(c.data.length:Int)=((o+c.data.length:Nat):Int) from by simp]
   exact qU (by omega)
  obtain⟨q,hq⟩:∃ q,min nd.data.length (o+c.data.length)=q:=⟨_,rfl⟩
  rw[hq] at hk
  have j2:(if ((o+c.data.length:Nat):Int) < (nd.data.length:Int) then ((o+c.data.length:Nat):Int) else (nd.data.length:Int))=(q:Int):=by split <;> omega
  have j3:=qbd (n:=nd.data.length) (m:=nd.data.length) (zC (k:=.i64) (n:=q)) (by omega) (Nat.le_refl _)
  have j4:((nd.data.drop q).take (nd.data.length - q))=nd.data.drop q:=List.take_of_length_le (by simp)
  have hsl:(JF nd.data o).length=o:=qk6
  have j5:=JJ (a:=JF nd.data o) (b:=c.data) (by omega)
  have j6:=JJ (a:=JF nd.data o++c.data) (b:=nd.data.drop q) (by simp;omega)
  repeat (first|with_reducible (refine q9 H ?_;constructor)|simp only[rB,rP,rQ,q8,qa,q7,qb,reduceIte,reduceCtorEq,Nat.reduceAdd,Nat.reduceLT,Nat.reduceEqDiff,UInt8.reduceToNat,pe3,pf3,ZG,qf,qrn,q0p,qib,clL,ho,qK,qD,hn,ndA,m1,m2,m3,m4,m5,m6,zJ,zD,zf,qI,e1,e2,ew,e3,e4,j1,j2,ql,Ym,j3,j4,j5,j6,qct,q2i,KZ,J7,ZM,VK,YJ,Tryz.results105]|(with_reducible refine Qp H ?_)|(with_reducible refine qy H (i:=5) (.take 0 (.take 1 (.take 2 (.take 3 (.take 4 (.take 5 (.take 6 (.take 7 (.take 8 (.take 9 (.take 10 (.take 11 (.take 12 (.take 13 (.take 14 (.take 15 (.done))))))))))))))))) rfl (by kernel_rfl) ?_)|(with_reducible refine qy H (i:=6) (.take 0 (.take 1 (.take 2 (.take 3 (.take 4 (.take 5 (.take 6 (.take 8 (.take 9 (.take 11 (.alt 7 [1,2,3,4,5,6] (.take 10 (.take 12 (.take 13 (.take 14 (.alt 15 [0,1,2,3,4,5,6,7,8,9,10,11,12,13,14] (.done) (.yes)))))) (.yes)))))))))))) rfl (by kernel_rfl) ?_)|(with_reducible refine qx0 H hl (by omega) ?_))
  refine hk _ _ rfl ⟨?_,?_,?_⟩ ?_
  ·show s.nx≤s.nx+1+1;omega
  ·exact (qe (by omega)).trans hs_same
  ·intro j hj hji
   exact (qe (by omega)).trans ((qe hji).trans ((zg (by show j≠s.nx+1;omega)).trans (zg (by omega))))
  ·exact qn (qn (qR (qR hB _) _) (by show i < s.nx+1+1;omega) _) (by show s.nx+1 < s.nx+1+1;omega) _
 ·have e4':Nat.blt 0 c.data.length=false:=by rw[← Bool.not_eq_true,Nat.blt_eq];exact b4
  rw[e4'] at hk
  simp only[cond_false] at hk
  have e4:decide ((c.data.length:Int) > 0)=false:=by rw[decide_eq_false_iff_not];omega
  repeat (first|with_reducible (refine q9 H ?_;constructor)|simp only[rB,rP,rQ,q8,qa,q7,qb,reduceIte,reduceCtorEq,Nat.reduceAdd,Nat.reduceLT,Nat.reduceEqDiff,UInt8.reduceToNat,pe3,pf3,ZG,qf,qrn,q0p,clL,qK,qD,m1,m2,zJ,zD,zf,e1,e2,ew,e3,e4,ql,q2i,KZ,J7,ZM,VK,YJ,Tryz.results105]|(with_reducible refine Qp H ?_))
  refine hk _ _ rfl ⟨?_,?_,?_⟩ ?_
  ·show s.nx≤s.nx+1+1;omega
  ·exact (qe (by omega)).trans ((zg (by show i≠s.nx+1;omega)).trans ((zg (by omega)).trans hn))
  ·intro j hj hji
   exact (qe (by omega)).trans ((zg (by show j≠s.nx+1;omega)).trans (zg (by omega)))
  ·exact qn (qR (qR hB _) _) (by show s.nx+1 < s.nx+1+1;omega) _
def qlb (kids:List (List Nat × Nat)):Option (List (List Nat)):=bif qsv (Qq (kids.map (·.1)))&&Nat.ble (Qq (kids.map (·.1))).length 1000000&&Xc (Qq (kids.map (·.1))) then some (Qq (kids.map (·.1))) else none
theorem qun {s:St} {mp:Nat} {kids:List (List Nat × Nat)} (h:s.h.get mp=some (.map (zQ kids))):Q5 TE s [115] [.map mp]=some (.raw (.int .i64 (kids.length:Int))):=by
 have e:Q5 TE s [115] [.map mp]=(match YO s (.map mp) with|some es=>some (qa es.length)|none=>none):=by kernel_rfl
 rw[e]
 simp only[YO,h,zQ,List.length_map,qa]
theorem qza {a b c:Int}:Qb TE 38 [(2,.raw (.int .i64 a)),(3,.raw (.int .i64 b)),(1,.raw (.int .i64 c))]=some (.agg (anL 0 c a b [] nilS)):=by kernel_rfl
def qb5 (nd:Nd):Int:=bif decide (nd.kind=1) then (nd.kids.length:Int) else (nd.data.length:Int)
theorem qou {s:St} (H:Ok TE Tryz.prog pr3) {T:QH} (hT:RepT s T) (hB:qc s) {x root cwd:Nat} {tl:List AV} (hx:s.h.get x=some (.cells (.ptr root 0::.ptr cwd 0::tl) 120 0)) {c:Cl} (hop:c.op=1) {out:Nat ⊕ Nat} (hf:Zq T root cwd c.path false=some out) (ht:∀ n,out=.inl n→∃ nd,T n=some nd)
  {kr kp:AV→St→Bool} (hk:∀ n nd s',out=.inl n→T n=some nd→Ext s s'→qc s'→kr (.agg (anL 0 (qb5 nd) nd.kind nd.mode [] nilS)) s'=true) (hq:∀ n s',out=.inr n→Ext s s'→qc s'→kp (.iface 110 (.raw (.int .i64 ((n:Nat):Int)))) s'=true) :
  (sem Tryz.prog).call 59 [.ptr x 0,.agg (clL c)] s kr kp=true:=by
 refine qp H 81 q2c rfl rfl ?_
 have m1:(s.nx=s.nx+1)=False:=by simp
 have m2:(s.nx+1=s.nx)=False:=by simp
 have hE:Ext s ((s.alloc (.cells (clL c) 41 0)).alloc (.cells (anL 0 0 0 0 [] nilS) 38 0)):=(Ext.alloc s _).trans (Ext.alloc _ _)
 have hB2:=qR (qR hB (.cells (clL c) 41 0)) (.cells (anL 0 0 0 0 [] nilS) 38 0)
 have hT2:=hT.ext hB hE
 have hx2:=(hE.2 x (hB x _ hx)).trans hx
 have o1:((1:Int)==2)=false:=rfl
 have o2:((1:Int)==3)=false:=rfl
 have o3:((1:Int)==1)=true:=rfl
 have ecl:clL c=[.raw (.int .i64 1),.str c.path,.str c.path2,.raw (.int .i64 c.fd),.raw (.int .i64 c.off),.raw (.int .i64 c.num),.raw (.int .i64 c.mode),.str c.data]:=by unfold clL;rw[hop]
 rw[ecl] at hE hB2 hT2 hx2 ⊢
 repeat (first|with_reducible (refine q9 H ?_;constructor)|simp only[rB,rP,rQ,q8,qa,q7,qb,reduceIte,reduceCtorEq,Nat.reduceAdd,Nat.reduceLT,Nat.reduceEqDiff,UInt8.reduceToNat,pe3,pf3,ZG,qf,qnp,q7d,qK,qD,m1,m2,qr,o1,o2])
 refine qoi H hT2 hB2 hx2 hf (fun n s1 h1 h2 h3=>?_) (fun n s1 h1 h2 h3=>?_)
 ·obtain⟨nd,hnd⟩:=ht n h1
  obtain⟨hn,hm⟩:=(hT2.ext hB2 h2) n nd hnd
  have lm:=qun hm
  have c0:s1.h.get s.nx=some (.cells [.raw (.int .i64 1),.str c.path,.str c.path2,.raw (.int .i64 c.fd),.raw (.int .i64 c.off),.raw (.int .i64 c.num),.raw (.int .i64 c.mode),.str c.data] 41 0):=(h2.2 s.nx (by show s.nx < s.nx+1+1;omega)).trans ((zg (by show s.nx≠s.nx+1;omega)).trans qu)
  have c1:s1.h.get (s.nx+1)=some (.cells (anL 0 0 0 0 [] nilS) 38 0):=(h2.2 (s.nx+1) (by show s.nx+1 < s.nx+1+1;omega)).trans qu
  have hlt:=h3 _ _ c1
  have fin:∀ o,Ext s { s1 with h:=s1.h.set (s.nx+1) o }:=fun o=>⟨Nat.le_trans hE.1 h2.1,fun j hj=>(qe (by omega)).trans ((h2.2 j (Nat.lt_of_lt_of_le hj hE.1)).trans (hE.2 j hj))⟩
  by_cases hd:nd.kind=1
  ·have k1:(nd.kind==1)=true:=by rw[hd];rfl
   have hst:qb5 nd=(nd.kids.length:Int):=by unfold qb5;rw[decide_eq_true hd];rfl
   repeat (first|with_reducible (refine q9 H ?_;constructor)|simp only[rB,rP,rQ,q8,qa,q7,qb,reduceIte,reduceCtorEq,Nat.reduceAdd,Nat.reduceLT,Nat.reduceEqDiff,UInt8.reduceToNat,pe3,pf3,qnp,qK,qD,J3,c0,c1,qr,o3,WH,qy3,qib,qf0,hn,hm,ndA,k1,ql,lm,qza,KZ,J7,ZM,VK,YJ,Tryz.results59]|(with_reducible refine qy H (i:=7) (.take 0 (.take 1 (.take 2 (.take 3 (.take 4 (.take 5 (.take 6 (.take 7 (.take 8 (.take 9 (.alt 10 [0,1,2,3,4,5,6,7,8,9] (.done) (.yes)))))))))))) rfl (by kernel_rfl) ?_))
   rw[← hst]
   exact hk n nd _ h1 hnd (fin _) (qn h3 hlt _)
  ·have k1:(nd.kind==1)=false:=by rw[beq_eq_false_iff_ne];exact hd
   have hst:qb5 nd=(nd.data.length:Int):=by unfold qb5;rw[decide_eq_false hd];rfl
   repeat (first|with_reducible (refine q9 H ?_;constructor)|simp only[rB,rP,rQ,q8,qa,q7,qb,reduceIte,reduceCtorEq,Nat.reduceAdd,Nat.reduceLT,Nat.reduceEqDiff,UInt8.reduceToNat,pe3,pf3,qnp,qK,qD,c0,c1,qr,o3,WH,qy3,qib,qf0,hn,ndA,k1,ql,qza,KZ,J7,ZM,VK,YJ,Tryz.results59]|(with_reducible refine qy H (i:=7) (.take 0 (.take 1 (.take 2 (.take 3 (.take 4 (.take 5 (.take 6 (.take 7 (.take 8 (.take 9 (.alt 10 [0,1,2,3,4,5,6,7,8,9] (.done) (.yes)))))))))))) rfl (by kernel_rfl) ?_))
   rw[← hst]
   exact hk n nd _ h1 hnd (fin _) (qn h3 hlt _)
 ·repeat (first|with_reducible (refine q9 H ?_;constructor)|simp only[rB,rP,rQ,q8,qa,q7,qb,reduceIte,reduceCtorEq,Nat.reduceAdd,Nat.reduceLT,Nat.reduceEqDiff,UInt8.reduceToNat,pe3,pf3])
  exact hq n s1 h1 (hE.trans h2) h3
theorem qo9 {s:St} (H:Ok TE Tryz.prog pr3) {T:QH} (hT:RepT s T) (hB:qc s) {x root cwd:Nat} {tl:List AV} (hx:s.h.get x=some (.cells (.ptr root 0::.ptr cwd 0::tl) 120 0)) {c:Cl} (hop:c.op=2) {out:Nat ⊕ Nat} (hf:Zq T root cwd c.path true=some out) (ht:∀ n,out=.inl n→∃ nd,T n=some nd) (hl:∀ n nd,T n=some nd→nd.data.length≤1000000)
  {kr kp:AV→St→Bool} (hk4:∀ n nd s',out=.inl n→T n=some nd→nd.kind=1→Ext s s'→qc s'→kp (.iface 110 (.raw (.int .i64 4))) s'=true)
  (hk:∀ n nd d s',out=.inl n→T n=some nd→nd.kind≠1→W2 nd.data c.off c.num=.inl d→Ext s s'→qc s'→kr (.agg (anL 0 (d.length:Int) 0 0 d nilS)) s'=true)
  (hk5:∀ n nd e s',out=.inl n→T n=some nd→nd.kind≠1→W2 nd.data c.off c.num=.inr e→Ext s s'→qc s'→kp (.iface 110 (.raw (.int .i64 ((e:Nat):Int)))) s'=true)
  (hq:∀ n s',out=.inr n→Ext s s'→qc s'→kp (.iface 110 (.raw (.int .i64 ((n:Nat):Int)))) s'=true) :
  (sem Tryz.prog).call 59 [.ptr x 0,.agg (clL c)] s kr kp=true:=by
 refine qp H 81 q2c rfl rfl ?_
 have m1:(s.nx=s.nx+1)=False:=by simp
 have m2:(s.nx+1=s.nx)=False:=by simp
 have hE:Ext s ((s.alloc (.cells (clL c) 41 0)).alloc (.cells (anL 0 0 0 0 [] nilS) 38 0)):=(Ext.alloc s _).trans (Ext.alloc _ _)
 have hB2:=qR (qR hB (.cells (clL c) 41 0)) (.cells (anL 0 0 0 0 [] nilS) 38 0)
 have hT2:=hT.ext hB hE
 have hx2:=(hE.2 x (hB x _ hx)).trans hx
 have o1:((2:Int)==2)=true:=rfl
 have o2:((2:Int)==3)=false:=rfl
 have o3:((2:Int)==1)=false:=rfl
 have ecl:clL c=[.raw (.int .i64 2),.str c.path,.str c.path2,.raw (.int .i64 c.fd),.raw (.int .i64 c.off),.raw (.int .i64 c.num),.raw (.int .i64 c.mode),.str c.data]:=by unfold clL;rw[hop]
 rw[ecl] at hE hB2 hT2 hx2 ⊢
 repeat (first|with_reducible (refine q9 H ?_;constructor)|simp only[rB,rP,rQ,q8,qa,q7,qb,reduceIte,reduceCtorEq,Nat.reduceAdd,Nat.reduceLT,Nat.reduceEqDiff,UInt8.reduceToNat,pe3,pf3,ZG,qf,qnp,q7d,qK,qD,m1,m2,qr,o1,o2])
 refine qoi H hT2 hB2 hx2 hf (fun n s1 h1 h2 h3=>?_) (fun n s1 h1 h2 h3=>?_)
 ·obtain⟨nd,hnd⟩:=ht n h1
  obtain⟨hn,hm⟩:=(hT2.ext hB2 h2) n nd hnd
  have c0:s1.h.get s.nx=some (.cells [.raw (.int .i64 2),.str c.path,.str c.path2,.raw (.int .i64 c.fd),.raw (.int .i64 c.off),.raw (.int .i64 c.num),.raw (.int .i64 c.mode),.str c.data] 41 0):=(h2.2 s.nx (by show s.nx < s.nx+1+1;omega)).trans ((zg (by show s.nx≠s.nx+1;omega)).trans qu)
  have c1:s1.h.get (s.nx+1)=some (.cells (anL 0 0 0 0 [] nilS) 38 0):=(h2.2 (s.nx+1) (by show s.nx+1 < s.nx+1+1;omega)).trans qu
  have hlt:=h3 _ _ c1
  have hE1:=hE.trans h2
  have fin:∀ (s2:St) o,Ext s1 s2→Ext s { s2 with h:=s2.h.set (s.nx+1) o }:=fun s2 o he=>⟨Nat.le_trans hE1.1 he.1,fun j hj=>(qe (by omega)).trans ((hE1.trans he).2 j hj)⟩
  by_cases hd:nd.kind=1
  ·have k1:(nd.kind==1)=true:=by rw[hd];rfl
   repeat (first|with_reducible (refine q9 H ?_;constructor)|simp only[rB,rP,rQ,q8,qa,q7,qb,reduceIte,reduceCtorEq,Nat.reduceAdd,Nat.reduceLT,Nat.reduceEqDiff,UInt8.reduceToNat,pe3,pf3,qnp,qK,qD,c0,c1,qr,qH,o1,o2,o3,WH,qy3,qib,qf0,hn,ndA,k1]|(with_reducible refine zS H ?_))
   exact hk4 n nd s1 h1 hnd hd hE1 h3
  ·have k1:(nd.kind==1)=false:=by rw[beq_eq_false_iff_ne];exact hd
   repeat (first|with_reducible (refine q9 H ?_;constructor)|simp only[rB,rP,rQ,q8,qa,q7,qb,reduceIte,reduceCtorEq,Nat.reduceAdd,Nat.reduceLT,Nat.reduceEqDiff,UInt8.reduceToNat,pe3,pf3,qnp,qK,qD,c0,c1,qr,qH,o1,o2,o3,WH,qy3,qib,qf0,hn,ndA,k1,qnz,qey]|(with_reducible refine Qp H ?_))
   rw[← ecl]
   refine q3f H h3 hn (hl n nd hnd) (fun d s2 r1 r2 r3=>?_) (fun e s2 r1 r2 r3=>?_)
   ·have c2:=(r2.2 _ hlt).trans c1
    repeat (first|with_reducible (refine q9 H ?_;constructor)|simp only[rB,rP,rQ,q8,qa,q7,qb,reduceIte,reduceCtorEq,Nat.reduceAdd,Nat.reduceLT,Nat.reduceEqDiff,UInt8.reduceToNat,pe3,pf3,c2,KZ,J7,ZM,VK,YJ,Tryz.results59])
    exact hk n nd d _ h1 hnd hd r1 (fin s2 _ r2) (qn r3 (r3 _ _ c2) _)
   ·repeat (first|with_reducible (refine q9 H ?_;constructor)|simp only[rB,rP,rQ,q8,qa,q7,qb,reduceIte,reduceCtorEq,Nat.reduceAdd,Nat.reduceLT,Nat.reduceEqDiff,UInt8.reduceToNat,pe3,pf3])
    exact hk5 n nd e s2 h1 hnd hd r1 (hE1.trans r2) r3
 ·repeat (first|with_reducible (refine q9 H ?_;constructor)|simp only[rB,rP,rQ,q8,qa,q7,qb,reduceIte,reduceCtorEq,Nat.reduceAdd,Nat.reduceLT,Nat.reduceEqDiff,UInt8.reduceToNat,pe3,pf3])
  exact hq n s1 h1 (hE.trans h2) h3
theorem bd_0:Qb TE 38 []=some (.agg (anL 0 0 0 0 [] nilS)):=by kernel_rfl
theorem qd9 {s:St} (H:Ok TE Tryz.prog pr3) {T:QH} (hT:RepT s T) (hB:qc s) {x root cwd:Nat} {tl:List AV} (hx:s.h.get x=some (.cells (.ptr root 0::.ptr cwd 0::tl) 120 0)) {c:Cl} (hop:c.op=8) {out:Nat ⊕ Nat} (hf:Zq T root cwd c.path true=some out) (ht:∀ n,out=.inl n→∃ nd,T n=some nd) (hl:∀ n nd,T n=some nd→nd.data.length≤40000) (hw:c.data.length≤10000000000000000000)
  {kr kp:AV→St→Bool} (hk4:∀ n nd s',out=.inl n→T n=some nd→nd.kind=1→Ext s s'→qc s'→kp (.iface 110 (.raw (.int .i64 4))) s'=true)
  (hk:∀ n nd d s',out=.inl n→T n=some nd→nd.kind≠1→J6 nd.data c.off c.data=.inl d→qit s s' n (ndA { nd with data:=d })→qc s'→kr (.agg (anL 0 (c.data.length:Int) 0 0 [] nilS)) s'=true)
  (hk5:∀ n nd e s',out=.inl n→T n=some nd→nd.kind≠1→J6 nd.data c.off c.data=.inr e→Ext s s'→qc s'→kp (.iface 110 (.raw (.int .i64 ((e:Nat):Int)))) s'=true)
  (hq:∀ n s',out=.inr n→Ext s s'→qc s'→kp (.iface 110 (.raw (.int .i64 ((n:Nat):Int)))) s'=true) :
  (sem Tryz.prog).call 61 [.ptr x 0,.agg (clL c)] s kr kp=true:=by
 refine qp H 59 q66 rfl rfl ?_
 have m1:(s.nx=s.nx+1)=False:=by simp
 have m2:(s.nx+1=s.nx)=False:=by simp
 have hE:Ext s ((s.alloc (.cells (clL c) 41 0)).alloc (.cells (anL 0 0 0 0 [] nilS) 38 0)):=(Ext.alloc s _).trans (Ext.alloc _ _)
 have hB2:=qR (qR hB (.cells (clL c) 41 0)) (.cells (anL 0 0 0 0 [] nilS) 38 0)
 have hT2:=hT.ext hB hE
 have hx2:=(hE.2 x (hB x _ hx)).trans hx
 have o1:((8:Int)==10)=false:=rfl
 have o2:((8:Int)==8)=true:=rfl
 have ecl:clL c=[.raw (.int .i64 8),.str c.path,.str c.path2,.raw (.int .i64 c.fd),.raw (.int .i64 c.off),.raw (.int .i64 c.num),.raw (.int .i64 c.mode),.str c.data]:=by unfold clL;rw[hop]
 rw[ecl] at hE hB2 hT2 hx2 ⊢
 repeat (first|with_reducible (refine q9 H ?_;constructor)|simp only[rB,rP,rQ,q8,qa,q7,qb,reduceIte,reduceCtorEq,Nat.reduceAdd,Nat.reduceLT,Nat.reduceEqDiff,UInt8.reduceToNat,pe3,pf3,ZG,qf,qnp,q7d,qK,qD,m1,m2,qr,o1,o2])
 refine qoi H hT2 hB2 hx2 hf (fun n s1 h1 h2 h3=>?_) (fun n s1 h1 h2 h3=>?_)
 ·obtain⟨nd,hnd⟩:=ht n h1
  obtain⟨hn,hm⟩:=(hT2.ext hB2 h2) n nd hnd
  have hns:=hB n _ (hT n nd hnd).1
  have c0:s1.h.get s.nx=some (.cells [.raw (.int .i64 8),.str c.path,.str c.path2,.raw (.int .i64 c.fd),.raw (.int .i64 c.off),.raw (.int .i64 c.num),.raw (.int .i64 c.mode),.str c.data] 41 0):=(h2.2 s.nx (by show s.nx < s.nx+1+1;omega)).trans ((zg (by show s.nx≠s.nx+1;omega)).trans qu)
  have c1:s1.h.get (s.nx+1)=some (.cells (anL 0 0 0 0 [] nilS) 38 0):=(h2.2 (s.nx+1) (by show s.nx+1 < s.nx+1+1;omega)).trans qu
  have hlt:=h3 _ _ c1
  have hE1:=hE.trans h2
  have q1:(s.nx+1=n)=False:=by simp;omega
  have q2:(n=s.nx+1)=False:=by simp;omega
  have q3:(s.nx=n)=False:=by simp;omega
  by_cases hd:nd.kind=1
  ·have k1:(nd.kind==1)=true:=by rw[hd];rfl
   repeat (first|with_reducible (refine q9 H ?_;constructor)|simp only[rB,rP,rQ,q8,qa,q7,qb,reduceIte,reduceCtorEq,Nat.reduceAdd,Nat.reduceLT,Nat.reduceEqDiff,UInt8.reduceToNat,pe3,pf3,qnp,qy2,q8y,qK,qD,c0,c1,qr,qH,zJ,zD,o1,o2,WH,qy3,qib,qf0,hn,ndA,q1,q2,q3,m1,m2,k1]|(with_reducible refine zS H ?_))
   exact hk4 n nd s1 h1 hnd hd hE1 h3
  ·have k1:(nd.kind==1)=false:=by rw[beq_eq_false_iff_ne];exact hd
   repeat (first|with_reducible (refine q9 H ?_;constructor)|simp only[rB,rP,rQ,q8,qa,q7,qb,reduceIte,reduceCtorEq,Nat.reduceAdd,Nat.reduceLT,Nat.reduceEqDiff,UInt8.reduceToNat,pe3,pf3,qnp,qy2,q8y,qK,qD,c0,c1,qr,qH,zJ,zD,o1,o2,WH,qy3,qib,qf0,hn,ndA,q1,q2,q3,m1,m2,k1,qnz,qey]|(with_reducible refine Qp H ?_))
   rw[← ecl]
   refine qwu H h3 hn (hl n nd hnd) hw (fun d s2 r1 r2 r3=>?_) (fun e s2 r1 r2 r3=>?_)
   ·have c2:s2.h.get (s.nx+1)=some (.cells (anL 0 0 0 0 [] nilS) 38 0):=(r2.2.2 (s.nx+1) hlt (by omega)).trans c1
    repeat (first|with_reducible (refine q9 H ?_;constructor)|simp only[rB,rP,rQ,q8,qa,q7,qb,reduceIte,reduceCtorEq,Nat.reduceAdd,Nat.reduceLT,Nat.reduceEqDiff,UInt8.reduceToNat,pe3,pf3,c2,bd_0,KZ,J7,ZM,VK,YJ,Tryz.results61])
    exact hk n nd d _ h1 hnd hd r1 ⟨Nat.le_trans hE1.1 r2.1,(qe (by omega)).trans r2.2.1,fun j hj hji=>(qe (by omega)).trans ((r2.2.2 j (Nat.lt_of_lt_of_le hj hE1.1) hji).trans (hE1.2 j hj))⟩ (qn r3 (r3 _ _ c2) _)
   ·repeat (first|with_reducible (refine q9 H ?_;constructor)|simp only[rB,rP,rQ,q8,qa,q7,qb,reduceIte,reduceCtorEq,Nat.reduceAdd,Nat.reduceLT,Nat.reduceEqDiff,UInt8.reduceToNat,pe3,pf3])
    exact hk5 n nd e s2 h1 hnd hd r1 (hE1.trans r2) r3
 ·repeat (first|with_reducible (refine q9 H ?_;constructor)|simp only[rB,rP,rQ,q8,qa,q7,qb,reduceIte,reduceCtorEq,Nat.reduceAdd,Nat.reduceLT,Nat.reduceEqDiff,UInt8.reduceToNat,pe3,pf3])
  exact hq n s1 h1 (hE.trans h2) h3
def JB (p:List Nat):List (List Nat × Nat)→List (List Nat × Nat)
 | []=>[]
 | (q,j)::l=>bif eqB p q then l else (q,j)::JB p l
def Chg (s s':St) (l:List (Nat × AO)):Prop:=s.nx≤s'.nx∧(∀ q∈l,s'.h.get q.1=some q.2)∧∀ j,j < s.nx→(∀ q∈l,j≠q.1)→s'.h.get j=s.h.get j
end Go.AX
