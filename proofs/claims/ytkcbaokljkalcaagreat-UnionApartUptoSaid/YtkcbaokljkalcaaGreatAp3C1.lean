import Derived.Test.YtkcbaokljkalcaaGreatAp3B3
set_option linter.unusedVariables false
set_option linter.unusedSimpArgs false
set_option linter.defProp false
namespace Go.AX
open Go.Proofs Go.RowKit
set_option maxRecDepth 1000000
set_option linter.unusedSimpArgs false
structure Nd where
 kind:Int
 mode:Int
 data:List Nat
 kids:List (List Nat × Nat)
 up:Option Nat
 name:List Nat
 mp:Nat
def upA:Option Nat→AV
 | none=>.raw (.pointer none)
 | some u=>.ptr u 0
def qL (l:List (List Nat × Nat)):List (AV × AV):=l.map fun q=>(.str q.1,.ptr q.2 0)
def ndA (nd:Nd):AO:=.cells [.raw (.int .i64 nd.kind),.raw (.int .i64 nd.mode),.str nd.data,.map nd.mp,upA nd.up,.str nd.name] 117 0
def qfz (s:St) (i:Nat) (nd:Nd):Prop:=s.h.get i=some (ndA nd)∧s.h.get nd.mp=some (.map (qL nd.kids))
abbrev zi:=Nat→Option Nd
def RepT (s:St) (T:zi):Prop:=∀ i nd,T i=some nd→qfz s i nd
theorem Qe {x o:Nat}:qn TE 117 (.ptr x o) 0=some (.ptr x (o+0)):=by kernel_rfl
theorem JV {x o:Nat}:qn TE 117 (.ptr x o) 1=some (.ptr x (o+1)):=by kernel_rfl
theorem YF {x o:Nat}:qn TE 117 (.ptr x o) 2=some (.ptr x (o+2)):=by kernel_rfl
theorem Q8 {x o:Nat}:qn TE 117 (.ptr x o) 3=some (.ptr x (o+3)):=by kernel_rfl
theorem qxz {x o:Nat}:qn TE 117 (.ptr x o) 4=some (.ptr x (o+4)):=by kernel_rfl
theorem q57 {x o:Nat}:qn TE 117 (.ptr x o) 5=some (.ptr x (o+5)):=by kernel_rfl
theorem Zh {i j:Nat} {u:AV}:qN .eql (.ptr i j) u=none:=(rfl)
theorem Vv {u:AV}:qN .eql (.raw (.pointer none)) u=none:=(rfl)
theorem Zo {i j:Nat} {u:AV}:qN .neq (.ptr i j) u=none:=(rfl)
theorem Qo {u:AV}:qN .neq (.raw (.pointer none)) u=none:=(rfl)
theorem Q3 {s:St} {i j:Nat} {d:Option (AV × List Nat)}:eqS TE s .eql 112 (.ptr i j) (.raw (.pointer none)) d=some (.raw (.bool false),[]):=by kernel_rfl
theorem qwq {s:St} {i j:Nat} {d:Option (AV × List Nat)}:eqS TE s .neq 112 (.ptr i j) (.raw (.pointer none)) d=some (.raw (.bool true),[]):=by kernel_rfl
def KY:AV→Bool
 | .raw (.pointer none)=>true
 | _=>false
theorem qJ:KY (.raw (.pointer none))=true:=(rfl)
theorem XE {v:AV} (h:KY v=true):v=.raw (.pointer none):=by
 unfold KY at h
 split at h
 ·rfl
 ·cases h
theorem qzf {i:Nat}:zp TE.P (do let r ← (do eqGuard .eql 112 (.tmp i) (.const (.pointer none)) (.pointer none) (.pointer none);binOp .eql 112 (.pointer none) (.pointer none));pure (Next.value r))=some (.value (.bool true)):=by kernel_rfl
theorem Zx {a:Ac} {dst:Option Tmp} {i:Nat} {ty:TypeId} {pos:String} {after:Array Edge} (hx:KY (a.eval (.tmp i))=true) :
  qz TE a ⟨dst,.binOp .eql 112 (.tmp i) (.const (.pointer none)) 112,ty,pos,after,none⟩=some (.raw (.bool true),[]):=by
 have hx:=XE hx
 have h1:zO a (.tmp i)=.pointer none:=by simp[zO,hx,Q9]
 have h2:zO a (.const (.pointer none))=.pointer none:=rfl
 have hall:(Op.operands (.binOp .eql 112 (.tmp i) (.const (.pointer none)) 112)).toList.all (fun x=>(Q9 (a.eval x)).isSome)=true:=by
  show (List.all [.tmp i,.const (.pointer none)] (fun x=>(Q9 (a.eval x)).isSome))=true
  simp only[List.all_cons,List.all_nil,hx]
  rfl
 have hr:zp TE.P (execOp (zO a) ⟨dst,.binOp .eql 112 (.tmp i) (.const (.pointer none)) 112,ty,pos,after,none⟩)=some (.value (.bool true)):=by
  have he:execOp (zO a) ⟨dst,.binOp .eql 112 (.tmp i) (.const (.pointer none)) 112,ty,pos,after,none⟩=(do let r ← (do eqGuard .eql 112 (.tmp i) (.const (.pointer none)) (.pointer none) (.pointer none);binOp .eql 112 (.pointer none) (.pointer none));pure (.value r)):=by
   simp only[execOp,h1,h2]
  rw[he]
  exact qzf
 simp only[qz,hall,cond_true,hr]
 rfl
theorem Q4 {s:St} {d:Option (AV × List Nat)}:eqS TE s .eql 112 (.raw (.pointer none)) (.raw (.pointer none)) d=d:=by kernel_rfl
theorem qn3 {n:Int}:qg7 TE 110 (.raw (.int .i64 n))=some (.iface 110 (.raw (.int .i64 n))):=by kernel_rfl
theorem qv {s:St} (H:Ok TE Tryz.prog pr3) {n:Int} {kr kp:AV→St→Bool} (hk:kr (.tuple []) s=true):(sem Tryz.prog).call 65 [.raw (.bool false),.raw (.int .i64 n)] s kr kp=true:=by
 refine qk H 7 q2b rfl rfl ?_
 repeat (first|with_reducible (refine q9 H ?_;constructor)|simp only[rB,rP,rQ,reduceIte,Nat.reduceLT,Nat.reduceEqDiff,Tryz.results65])
 exact hk
theorem qj {s:St} (H:Ok TE Tryz.prog pr3) {n:Int} {kr kp:AV→St→Bool} (hk:kp (.iface 110 (.raw (.int .i64 n))) s=true):(sem Tryz.prog).call 65 [.raw (.bool true),.raw (.int .i64 n)] s kr kp=true:=by
 refine qk H 7 q2b rfl rfl ?_
 repeat (first|with_reducible (refine q9 H ?_;constructor)|simp only[rB,rP,rQ,reduceIte,Nat.reduceLT,Nat.reduceEqDiff,qn3,qji])
 exact hk
theorem Yg {r:Tasks} {a:Ac} {dst:Option Tmp} {s:St} {k:Ac→St→Bool} {kp:AV→St→Bool} {x y:List Nat} (h:Nat.ble (x.length+y.length) 1000000=true) :
  YQ pr3 r (.fn 103 []) [.str x,.str y] a dst s k kp=Q2 a dst (.str (zd x y)) s k:=by
 refine JU (pe3 (by decide)) ?_
 unfold pr3
 rw[Qb (by decide)]
 unfold pr2
 rw[JI]
 simp only[List.append_nil,qhy,h,cond_true]
def zM (T:zi):Nat→Nat→Option (List Nat)
 | 0,_=>none
 | f+1,i=>match T i with
  | none=>none
  | some nd=>match nd.up with
   | none=>some []
   | some u=>match zM T f u with
    | none=>none
    | some p=>bif Nat.ble (p.length+nd.name.length) 1000000 then some (zd p nd.name) else none
theorem Qu {s:St} (H:Ok TE Tryz.prog pr3) {T:zi} (hT:RepT s T):∀ {f i:Nat} {p:List Nat} {kr kp:AV→St→Bool},zM T f i=some p→kr (.str p) s=true→(sem Tryz.prog).call 104 [.ptr i 0] s kr kp=true
 | 0,_,_,_,_,h,_=>by cases h
 | f+1,i,p,kr,kp,h,hk=>by
  simp only[zM] at h
  cases hi:T i with
  | none=>rw[hi] at h;cases h
  | some nd =>
   rw[hi] at h
   simp only at h
   have hn:=(hT i nd hi).1
   refine qk H 18 q0d rfl rfl ?_
   cases hu:nd.up with
   | none =>
    rw[hu] at h
    cases h
    repeat (first|with_reducible (refine q9 H ?_;constructor)|simp only[rB,rP,rQ,reduceIte,Nat.reduceLT,Nat.reduceEqDiff,pe3,pf3,qxz,qK,hn,ndA,hu,upA,Vv,Q4,Zx,qJ,Tryz.results104])
    exact hk
   | some u =>
    rw[hu] at h
    simp only at h
    cases hp:zM T f u with
    | none=>rw[hp] at h;cases h
    | some q =>
     rw[hp] at h
     simp only at h
     cases hb:Nat.ble (q.length+nd.name.length) 1000000 with
     | false=>rw[hb] at h;cases h
     | true =>
      rw[hb] at h
      cases h
      have ih:=@Qu s H T hT f u q
      have ej:=fun {r a dst k kp}=>Yg (r:=r) (a:=a) (dst:=dst) (s:=s) (k:=k) (kp:=kp) hb
      repeat (first|with_reducible (refine q9 H ?_;constructor)|simp only[rB,rP,rQ,reduceIte,Nat.reduceLT,Nat.reduceEqDiff,pe3,pf3,qxz,q57,qK,qA,hn,ndA,hu,upA,Zh,Q3,ej,Tryz.results104]|(with_reducible refine qq H (i:=3) (.take 0 (.take 1 (.take 2 (.take 3 (.take 5 (.take 6 (.take 7 (.take 8 (.alt 4 [0,1,2,3] (.alt 9 [0,1,2,3,4,5,6,7,8] (.take 10 (.done)) (.yes)) (.yes)))))))))) rfl (by kernel_rfl) ?_)|(with_reducible refine ih hp ?_))
      exact hk
def Qh (T:zi):Nat→Nat→Option Nat
 | 0,_=>none
 | f+1,i=>match T i with
  | none=>none
  | some nd=>match nd.up with
   | none=>some 0
   | some u=>match Qh T f u with
    | none=>none
    | some d=>bif Nat.ble d 1000000 then some (d+1) else none
theorem Z2 {s:St} (H:Ok TE Tryz.prog pr3) {T:zi} (hT:RepT s T):∀ {f i:Nat} {d:Nat} {kr kp:AV→St→Bool},Qh T f i=some d→kr (.raw (.int .i64 (d:Int))) s=true→(sem Tryz.prog).call 102 [.ptr i 0] s kr kp=true
 | 0,_,_,_,_,h,_=>by cases h
 | f+1,i,d,kr,kp,h,hk=>by
  simp only[Qh] at h
  cases hi:T i with
  | none=>rw[hi] at h;cases h
  | some nd =>
   rw[hi] at h
   simp only at h
   have hn:=(hT i nd hi).1
   refine qk H 14 qzh rfl rfl ?_
   cases hu:nd.up with
   | none =>
    rw[hu] at h
    cases h
    repeat (first|with_reducible (refine q9 H ?_;constructor)|simp only[rB,rQ,q8,reduceIte,Nat.reduceLT,Nat.reduceEqDiff,pe3,pf3,qxz,qK,hn,ndA,hu,upA,Vv,Q4,Zx,qJ,Tryz.results102])
    exact hk
   | some u =>
    rw[hu] at h
    simp only at h
    cases hp:Qh T f u with
    | none=>rw[hp] at h;cases h
    | some q =>
     rw[hp] at h
     simp only at h
     cases hb:Nat.ble q 1000000 with
     | false=>rw[hb] at h;cases h
     | true =>
      rw[hb] at h
      cases h
      have hb:=Nat.le_of_ble_eq_true hb
      have ih:=@Z2 s H T hT f u q
      have ew:IntKind.i64.wrap ((q:Int)+1)=((q+1:Nat):Int):=by
       rw[show (q:Int)+1=((q+1:Nat):Int) from by simp]
       exact qM (by omega)
      repeat (first|with_reducible (refine q9 H ?_;constructor)|simp only[rB,rQ,q8,reduceIte,Nat.reduceLT,Nat.reduceEqDiff,pe3,pf3,qxz,q57,qK,hn,ndA,hu,upA,Zh,Q3,qO,ew,Tryz.results102]|(with_reducible refine ih hp ?_))
      exact hk
theorem qc5 {r:Tasks} {a:Ac} {dst:Option Tmp} {s:St} {k:Ac→St→Bool} {kp:AV→St→Bool} {x y:List Nat} (h1:x.length≤1000) (h2:zs x=true) (h3:zs y=true) :
  YQ pr3 r (.fn 128 []) [.str x,.str y] a dst s k kp=Q2 a dst (Kr (Qr x y)) s k:=by
 refine JU (pe3 (by decide)) ?_
 unfold pr3
 rw[Qb (by decide)]
 unfold pr2
 rw[Qb (by decide),JI]
 simp only[List.append_nil,qc3,Nat.ble_eq.mpr h1,h2,h3,Bool.and_self,cond_true]
theorem Ku {r:Tasks} {a:Ac} {dst:Option Tmp} {s:St} {k:Ac→St→Bool} {kp:AV→St→Bool} {b:List Nat} (hb:b.length≤1000):YQ pr3 r (.fn 109 []) [.str b] a dst s k kp=Q2 a dst (Xw 9 (qw b) s).1 (Xw 9 (qw b) s).2 k:=by
 refine JU (pe3 (by decide)) ?_
 unfold pr3
 rw[Qb (by decide)]
 unfold pr2
 rw[Qb (by decide),Qb (by decide)]
 unfold pr1
 rw[Qb (by decide),JI]
 simp only[List.append_nil,qd2,Nat.ble_eq.mpr hb,cond_true]
theorem XU {x y:List Nat}:(Qr x y).1.length≤140:=by
 unfold Qr
 cases ZM x <;> simp only[cond_true,cond_false,List.length_nil,Nat.zero_le]
 cases eqB y [] <;> simp only[cond_true,cond_false,List.length_nil,Nat.zero_le]
 cases Nat.blt 560 y.length <;> simp only[cond_true,cond_false,List.length_nil,Nat.zero_le]
 split
 ·simp
 ·rename_i way _
  cases Nat.blt 8 way.length <;> simp only[cond_true,cond_false,List.length_nil,Nat.zero_le]
  cases h:Nat.blt 140 (qu [47] way).length <;> simp only[cond_true,cond_false,List.length_nil,Nat.zero_le]
  have:¬ 140 < (qu [47] way).length:=fun hh=>by rw[Nat.blt_eq.mpr hh] at h;cases h
  omega
def Yj (cwd b:List Nat):List (List Nat) ⊕ Nat:=match Qr cwd b with
 | (p,c)=>bif Nat.beq c 402||Nat.beq c 403 then .inr 8 else bif Nat.beq c 0 then .inl (qw p) else .inr 5
theorem qcd {s:St} (H:Ok TE Tryz.prog pr3) {T:zi} (hT:RepT s T) {f i:Nat} {cwd b:List Nat} {kr kp:AV→St→Bool} (hp:zM T f i=some cwd) (h1:cwd.length≤1000) (h2:zs cwd=true) (h3:zs b=true)
  (hk:∀ names,Yj cwd b=.inl names→kr (Xw 9 names s).1 (Xw 9 names s).2=true) (hq:∀ n:Nat,Yj cwd b=.inr n→kp (.iface 110 (.raw (.int .i64 (n:Int)))) s=true) :
  (sem Tryz.prog).call 111 [.ptr i 0,.str b] s kr kp=true:=by
 refine qk H 26 q0v rfl rfl ?_
 have ec:=fun {r a dst k kp}=>qc5 (r:=r) (a:=a) (dst:=dst) (s:=s) (k:=k) (kp:=kp) h1 h2 h3
 have hl:=XU (x:=cwd) (y:=b)
 unfold Yj at hk hq
 generalize hC:Qr cwd b=C at *
 obtain⟨p,c⟩:=C
 simp only at hk hq hl
 have ep:=fun {r a dst k kp}=>Ku (r:=r) (a:=a) (dst:=dst) (s:=s) (k:=k) (kp:=kp) (b:=p) (by omega)
 by_cases q1:c=402
 ·subst q1
  have e1:(((402:Nat):Int)==402)=true:=rfl
  repeat (first|with_reducible (refine q9 H ?_;constructor)|simp only[rB,rQ,q8,reduceIte,Nat.reduceLT,Nat.reduceEqDiff,pe3,pf3,ec,Kr,qh,e1]|(with_reducible refine Qu H hT hp ?_)|(with_reducible refine qj H ?_))
  exact hq 8 rfl
 have e1:((c:Int)==402)=false:=by
  rw[beq_eq_false_iff_ne];omega
 by_cases q2:c=403
 ·subst q2
  have e2:(((403:Nat):Int)==403)=true:=rfl
  repeat (first|with_reducible (refine q9 H ?_;constructor)|simp only[rB,rQ,q8,reduceIte,Nat.reduceLT,Nat.reduceEqDiff,pe3,pf3,ec,Kr,qh,e1,e2]|(with_reducible refine Qu H hT hp ?_)|(with_reducible refine qj H ?_))
  exact hq 8 rfl
 have e2:((c:Int)==403)=false:=by
  rw[beq_eq_false_iff_ne];omega
 rw[Qk q1,Qk q2] at hk hq
 simp only[Bool.or_self,cond_false] at hk hq
 by_cases q3:c=0
 ·subst q3
  have e3:(((0:Nat):Int) != 0)=false:=rfl
  repeat (first|with_reducible (refine q9 H ?_;constructor)|simp only[rB,rQ,q8,reduceIte,Nat.reduceLT,Nat.reduceEqDiff,pe3,pf3,ec,ep,Kr,qh,qB,e1,e2,e3,Tryz.results111]|(with_reducible refine Qu H hT hp ?_)|(with_reducible refine qv H ?_))
  exact hk _ rfl
 ·have e3:((c:Int) != 0)=true:=by
   rw[bne_iff_ne];omega
  rw[Qk q3] at hq
  repeat (first|with_reducible (refine q9 H ?_;constructor)|simp only[rB,rQ,q8,reduceIte,Nat.reduceLT,Nat.reduceEqDiff,pe3,pf3,ec,Kr,qh,qB,e1,e2,e3]|(with_reducible refine Qu H hT hp ?_)|(with_reducible refine qv H ?_)|(with_reducible refine qj H ?_))
  exact hq 5 rfl
def SlV (s:St) (V:AV) (names:List (List Nat)):Prop:=(V=.raw (.slice none 0 0)∧names=[])∨(∃ id off ci l z,V=.esl id off ci l z∧names=[]) ∨
 ∃ id off ci cap ex cs fz,V=.slice id off names.length ci cap ex∧s.h.get id=some (.cells cs 9 fz)∧off+names.length≤cs.length∧(cs.drop off).take names.length=names.map .str∧names.length≤cap
theorem SlV.len {s:St} {V:AV} {names:List (List Nat)} (h:SlV s V names):∀ s',Qv TE s' [36] [V]=some (.raw (.int .i64 (names.length:Int))):=by
 intro s'
 rcases h with⟨rfl,rfl⟩|⟨id,off,ci,l,z,rfl,rfl⟩|⟨id,off,ci,cap,ex,cs,fz,rfl,_⟩ <;> kernel_rfl
theorem SlV.ids {s:St} {V:AV} {names:List (List Nat)} (h:SlV s V names):Z4 V=[]:=by
 rcases h with⟨rfl,rfl⟩|⟨id,off,ci,l,z,rfl,rfl⟩|⟨id,off,ci,cap,ex,cs,fz,rfl,_⟩ <;> rfl
theorem SlV.cells1 {s:St} {V:AV} {names:List (List Nat)} (h:SlV s V names):V.cells=[V]∧V.one=true:=by
 rcases h with⟨rfl,rfl⟩|⟨id,off,ci,l,z,rfl,rfl⟩|⟨id,off,ci,cap,ex,cs,fz,rfl,_⟩ <;> exact⟨rfl,rfl⟩
def Ext (s s':St):Prop:=s.nx≤s'.nx∧∀ i,i < s.nx→s'.h.get i=s.h.get i
theorem Ext.refl (s:St):Ext s s:=⟨Nat.le_refl _,fun _ _=>rfl⟩
theorem Ext.trans {s s' s'':St} (h:Ext s s') (h':Ext s' s''):Ext s s'':=⟨Nat.le_trans h.1 h'.1,fun i hi=>(h'.2 i (Nat.lt_of_lt_of_le hi h.1)).trans (h.2 i hi)⟩
theorem Ext.alloc (s:St) (o:AO):Ext s (s.alloc o):=⟨Nat.le_succ _,fun i hi=>zm (by omega)⟩
def qb (s:St):Prop:=∀ i o,s.h.get i=some o→i < s.nx
theorem SlV.ext {s s':St} {V:AV} {names:List (List Nat)} (h:SlV s V names) (hb:qb s) (he:Ext s s'):SlV s' V names:=by
 rcases h with h|h|⟨id,off,ci,cap,ex,cs,fz,h1,h2,h3⟩
 ·exact Or.inl h
 ·exact Or.inr (Or.inl h)
 ·exact Or.inr (Or.inr ⟨id,off,ci,cap,ex,cs,fz,h1,(he.2 id (hb id _ h2)).trans h2,h3⟩)
theorem SlV.mk {s:St} {names:List (List Nat)}:SlV (Xw 9 names s).2 (Xw 9 names s).1 names:=by
 cases names with
 | nil=>exact Or.inl ⟨rfl,rfl⟩
 | cons x l=>exact Or.inr (Or.inr ⟨s.nx,0,0,(x::l).length,false,(x::l).map .str,2,rfl,qt,by simp,by rw[List.drop_zero,List.take_of_length_le (by simp)],Nat.le_refl _⟩)
theorem J2 {names:List (List Nat)} {s:St}:Ext s (Xw 9 names s).2:=by
 cases names with
 | nil=>exact Ext.refl s
 | cons x l=>exact Ext.alloc s _
theorem Z6 {names:List (List Nat)} {s:St} (h:qb s):qb (Xw 9 names s).2:=by
 cases names with
 | nil=>exact h
 | cons x l =>
  intro i o hi
  show i < s.nx+1
  by_cases hn:i=s.nx
  ·omega
  ·have:=h i o (by rw[← zm (s:=s) (o:=.cells ((x::l).map .str) 9 2) hn];exact hi)
   omega
theorem qig:∀ {n:Nat} {l:List AV},n≤l.length→YN n l=some (l.drop n)
 | 0,_,_=>(rfl)
 | _+1,[],h=>by simp at h
 | n+1,x::l,h=>by simp only[YN,qig (n:=n) (l:=l) (by simpa using h),List.drop_succ_cons]
theorem qu0 {off n:Nat} {l:List AV} (h:off+n≤l.length):Yn off n l=some ((l.drop off).take n):=by
 simp only[Yn,qig (n:=off) (l:=l) (by omega),qcn (n:=n) (l:=l.drop off) (by simp;omega)]
theorem SlV.first {s:St} {V:AV} {names:List (List Nat)} (h:SlV s V names):YD s 1 names.length V=some (names.map .str)∧qi4 V=some names.length:=by
 rcases h with⟨rfl,rfl⟩|⟨id,off,ci,l,z,rfl,rfl⟩|⟨id,off,ci,cap,ex,cs,fz,rfl,h2,h3,h4,_⟩
 ·exact⟨rfl,rfl⟩
 ·exact⟨rfl,rfl⟩
 ·exact⟨by simp only[YD,W7 h2,Nat.mul_one,qu0 h3,h4],rfl⟩
theorem SlV.idx {s:St} {V:AV} {names:List (List Nat)} {p:List Nat} {j:Nat} (h:SlV s V names) (hp:names[j]?=some p):∃ id o,qQ TE 36 V (.raw (.int .i64 (j:Int)))=some (.ptr id o)∧ldC s id o=some (.str p)∧(∃ ob,s.h.get id=some ob):=by
 have hj:j < names.length:=(List.getElem?_eq_some_iff.1 hp).1
 rcases h with⟨rfl,rfl⟩|⟨id,off,ci,l,z,rfl,rfl⟩|⟨id,off,ci,cap,ex,cs,fz,rfl,h2,h3,h4,_⟩
 ·simp at hj
 ·simp at hj
 ·refine⟨id,off+j,?_,?_,_,h2⟩
  ·have e:qQ TE 36 (.slice id off names.length ci cap ex) (.raw (.int .i64 (j:Int)))=(bif Nat.blt j names.length then some (.ptr id (off+j * 1)) else none):=by kernel_rfl
   rw[e,Nat.blt_eq.mpr hj]
   simp
  ·simp only[ldC,W7 h2]
   have:(names.map AV.str)[j]?=some (.str p):=by rw[List.getElem?_map,hp];rfl
   rw[← h4,List.getElem?_take,if_pos hj,List.getElem?_drop] at this
   exact this
theorem SlV.tail {s:St} {V:AV} {p:List Nat} {l:List (List Nat)} (h:SlV s V (p::l)):∃ V',zq TE 36 V (some (.raw (.int .i64 1))) none none=some V'∧SlV s V' l:=by
 rcases h with⟨_,h⟩|⟨id,off,ci,l',z,_,h⟩|⟨id,off,ci,cap,ex,cs,fz,rfl,h2,h3,h4,h5⟩
 ·cases h
 ·cases h
 ·rw[qqc,qk8 (i:=1) no_1 (by simp) h5]
  simp only
  by_cases hc:1 < cap
  ·rw[Nat.blt_eq.mpr hc]
   refine⟨_,rfl,Or.inr (Or.inr ⟨id,off+1 * 1,ci+1,cap - 1,ex,cs,fz,by simp,h2,by simp at h3 ⊢;omega,?_,by simp at h5 ⊢;omega⟩)⟩
   cases hcs:cs.drop off with
   | nil=>rw[hcs] at h4;simp at h4
   | cons x r =>
    rw[hcs] at h4
    simp only[List.length_cons,List.take_succ_cons,List.map_cons,List.cons.injEq] at h4
    have:cs.drop (off+1 * 1)=r:=by
     rw[Nat.one_mul,← List.drop_drop,hcs]
     rfl
    rw[this]
    exact h4.2
  ·have hl:l=[]:=by simp at h5;cases l with|nil=>rfl|cons _ _=>simp at h5;omega
   subst hl
   have:Nat.blt 1 cap=false:=by rw[← Bool.not_eq_true,Nat.blt_eq];exact hc
   rw[this]
   cases ex with
   | true=>exact⟨_,rfl,Or.inr (Or.inr ⟨id,off,ci,0,true,cs,fz,rfl,h2,by simp at h3 ⊢;omega,by simp,by simp⟩)⟩
   | false=>exact⟨_,rfl,Or.inr (Or.inl ⟨id,off,ci,1,1,rfl,rfl⟩)⟩
theorem SlV.take {s:St} {V:AV} {names:List (List Nat)} {j:Nat} (h:SlV s V names) (hj:j≤names.length):∃ V',zq TE 36 V none (some (.raw (.int .i64 (j:Int)))) none=some V'∧SlV s V' (names.take j):=by
 rcases h with⟨rfl,rfl⟩|⟨id,off,ci,l',z,rfl,rfl⟩|⟨id,off,ci,cap,ex,cs,fz,rfl,h2,h3,h4,h5⟩
 ·simp only[List.length_nil,Nat.le_zero_eq] at hj
  subst hj
  exact⟨.raw (.slice none 0 0),by kernel_rfl,Or.inl ⟨rfl,rfl⟩⟩
 ·simp only[List.length_nil,Nat.le_zero_eq] at hj
  subst hj
  exact⟨.esl id off ci l' z,by kernel_rfl,Or.inr (Or.inl ⟨_,_,_,_,_,rfl,rfl⟩)⟩
 ·refine⟨.slice id off j ci cap ex,?_,Or.inr (Or.inr ⟨id,off,ci,cap,ex,cs,fz,?_,h2,?_,?_,?_⟩)⟩
  ·rw[qqc,WK (i:=j) QW (by omega)]
   simp
  ·rw[List.length_take,Nat.min_eq_left hj]
  ·rw[List.length_take];omega
  ·rw[List.length_take,Nat.min_eq_left hj,List.map_take,← h4,List.take_take,Nat.min_eq_left hj]
  ·rw[List.length_take];omega
theorem qnu:qdx TE [36] [.raw (.slice none 0 0)]=some (.raw (.int .i64 0)):=by kernel_rfl
theorem ql2 {s:St}:Qv TE s [36] [.raw (.slice none 0 0)]=some (.raw (.int .i64 0)):=by kernel_rfl
theorem qso:zq TE 36 (.raw (.slice none 0 0)) none (some (.raw (.int .i64 0))) none=some (.raw (.slice none 0 0)):=by kernel_rfl
theorem q34 {s:St} {n:Nat} (h0:0 < n) (hn:n≤60000):Z9 TE s [36,3] [.raw (.slice none 0 0),.raw (.int .i64 (n:Int))]=some (.slice s.nx 0 n 0 n false,s.alloc (.cells (Wo [.str []] n) 9 2)):=by
 have e:Z9 TE s [36,3] [.raw (.slice none 0 0),.raw (.int .i64 (n:Int))]=(bif Nat.ble (n * 16) 1048576&&(Nat.ble n 1048576&&(Nat.blt 0 n&&true)) then X6 s 9 { desc:=.string,size:=1,bytes:=16,zero:=some (.string ⟨#[]⟩) } (.raw (.slice none 0 0)) n (Wo [.str []] n) else none):=by kernel_rfl
 have e1:Nat.ble (n * 16) 1048576=true:=Nat.ble_eq.mpr (by omega)
 have e5:Nat.ble (n * 16) 134217728=true:=Nat.ble_eq.mpr (by omega)
 have e2:Nat.ble n 1048576=true:=Nat.ble_eq.mpr (by omega)
 have e3:Nat.blt 0 n=true:=Nat.blt_eq.mpr h0
 have e4:Nat.beq n 0=false:=Qk (by omega)
 rw[e,e1,e2,e3]
 simp only[Bool.and_self,cond_true,X6,e4,cond_false,e1,e2,e5]
theorem Ko:∀ (n:Nat),(Wo [.str []] n).length=n
 | 0=>(rfl)
 | n+1=>by simp[Wo,Ko n]
theorem q1d {s:St} (H:Ok TE Tryz.prog pr3) {n:Nat} (hn:n≤60000) {kr kp:AV→St→Bool} (hk:0 < n→kr (.slice s.nx 0 0 0 n false) (s.alloc (.cells (Wo [.str []] n) 9 2))=true) (hk0:n=0→kr (.raw (.slice none 0 0)) s=true) :
  (sem Tryz.prog).call 163 [.raw (.slice none 0 0),.raw (.int .i64 (n:Int))] s kr kp=true:=by
 refine qk H 27 qyu rfl rfl ?_
 have e1:decide ((n:Int) < 0)=false:=by simp
 have e2:IntKind.i64.wrap (0 - 0)=0:=rfl
 have e3:IntKind.i64.wrap ((n:Int) - 0)=(n:Int):=by rw[Int.sub_zero];exact qM (by omega)
 by_cases h0:0 < n
 ·have e4:decide ((n:Int) > 0)=true:=by simp;omega
  have e5:=q34 (s:=s) h0 hn
  have e6:zq TE 36 (.slice s.nx 0 n 0 n false) none (some (.raw (.int .i64 0))) none=some (.slice s.nx 0 0 0 n false):=by
   rw[qqc,WK (i:=0) q0g (by omega)];simp
  repeat (first|with_reducible (refine q9 H ?_;constructor)|simp only[rB,rQ,q8,reduceIte,Nat.reduceLT,Nat.reduceEqDiff,pe3,pf3,qnu,ql2,qso,zX,zv,zj,e1,e2,e3,e4,e5,e6,Tryz.results163])
  exact hk h0
 ·have e4:decide ((n:Int) > 0)=false:=by simp;omega
  repeat (first|with_reducible (refine q9 H ?_;constructor)|simp only[rB,rQ,q8,reduceIte,Nat.reduceLT,Nat.reduceEqDiff,pe3,pf3,qnu,ql2,qso,zX,zv,zj,e1,e2,e3,e4,Tryz.results163])
  exact hk0 (by omega)
theorem qb0:∀ {cs:List AV} {n:Nat} {xs:List AV},n+xs.length≤cs.length→JF cs n xs=some (cs.take n++xs++cs.drop (n+xs.length))
 | cs,n,[],_=>by cases cs <;> cases n <;> simp[JF]
 | [],n,x::xs,h=>by simp at h
 | c::cs,0,x::xs,h=>by
  have:=qb0 (cs:=cs) (n:=0) (xs:=xs) (by simp at h ⊢;omega)
  simp only[JF,this,List.take_zero,List.nil_append,Nat.zero_add,List.length_cons,List.drop_succ_cons,List.cons_append]
 | c::cs,n+1,x::xs,h=>by
  have:=qb0 (cs:=cs) (n:=n) (xs:=x::xs) (by simp at h ⊢;omega)
  simp only[JF,this,List.take_succ_cons,List.cons_append]
  rw[show n+1+(x::xs).length=(n+(x::xs).length)+1 from by simp;omega,List.drop_succ_cons]
theorem qm5:∀ (l:List (List Nat)),(l.map AV.str).all AV.one=true
 | []=>(rfl)
 | x::l=>by simp only[List.map_cons,List.all_cons,qbr,qm5 l,Bool.and_self]
theorem qjb {s:St} {X:AV} {names:List (List Nat)} {id len cap:Nat} {cs:List AV} (h:SlV s X names) (hg:s.h.get id=some (.cells cs 9 2)) (hl:len+names.length≤cap) (hc:cs.length=cap) :
  Z9 TE s [36,36] [.slice id 0 len 0 cap false,X]=some (.slice id 0 (len+names.length) 0 cap false,{ s with h:=s.h.set id (.cells (cs.take len++names.map .str++cs.drop (len+names.length)) 9 2) }):=by
 obtain⟨h1,h2⟩:=h.first
 rw[qmz]
 simp only[h2,h1,List.length_map,Nat.mul_one,qlo,qm5,Bool.and_self,cond_true,X6,W7 hg,Nat.ble_eq.mpr hl,zJ,Nat.zero_add,qb0 (cs:=cs) (n:=len) (xs:=names.map .str) (by simp;omega)]
theorem qxf {s:St} {q:Nat}:Qv TE s [201] [.slice q 0 2 0 2 true]=some (.raw (.int .i64 2)):=by kernel_rfl
theorem q4w {q:Nat}:qQ TE 201 (.slice q 0 2 0 2 true) (.raw (.int .i64 0))=some (.ptr q 0):=by kernel_rfl
theorem q55 {q:Nat}:qQ TE 201 (.slice q 0 2 0 2 true) (.raw (.int .i64 1))=some (.ptr q 1):=by kernel_rfl
theorem qh5 {s:St} {X:AV} (h:SlV s X []):Z9 TE s [36,36] [.raw (.slice none 0 0),X]=some (.raw (.slice none 0 0),s):=by
 obtain⟨h1,h2⟩:=h.first
 rw[qmz]
 have h1:YD s 1 0 X=some []:=h1
 have h2:qi4 X=some 0:=h2
 simp only[h2,h1]
 rfl
theorem qg {s:St} (h:qb s) (o:AO):qb (s.alloc o):=by
 intro i o' hi
 show i < s.nx+1
 by_cases hn:i=s.nx
 ·omega
 ·have:=h i o' (by rw[← zm (s:=s) (o:=o) hn];exact hi)
  omega
theorem qe {s:St} (h:qb s) {j:Nat} (hj:j < s.nx) (o:AO):qb { s with h:=s.h.set j o }:=by
 intro i o' hi
 show i < s.nx
 by_cases hn:i=j
 ·omega
 ·exact h i o' (by rw[← qa (h:=s.h) (o:=o) hn];exact hi)
theorem qjm {s:St} (H:Ok TE Tryz.prog pr3) (hb:qb s) {V1 V2:AV} {n1 n2:List (List Nat)} {q:Nat} (h1:SlV s V1 n1) (h2:SlV s V2 n2) (hq:s.h.get q=some (.cells [V1,V2] 36 0)) (hn:n1.length+n2.length≤60000)
  {kr kp:AV→St→Bool} (hk:∀ V s',SlV s' V (n1++n2)→Ext s s'→qb s'→kr V s'=true):(sem Tryz.prog).call 138 [.slice q 0 2 0 2 true] s kr kp=true:=by
 refine qk H 36 q1w rfl rfl ?_
 have hqn:=hb q _ hq
 have hqe:q≠s.nx:=by omega
 have l1:=h1.len
 have l2:=h2.len
 have i1:=h1.ids
 have i2:=h2.ids
 have d0:decide ((0:Int) < 2)=true:=rfl
 have d1:decide ((1:Int) < 2)=true:=rfl
 have d2:decide ((2:Int) < 2)=false:=rfl
 have w1:IntKind.i64.wrap (0+1)=1:=rfl
 have w2:IntKind.i64.wrap (1+1)=2:=rfl
 have s1:IntKind.i64.wrap (0+(n1.length:Int))=(n1.length:Int):=by rw[Int.zero_add];exact qM (by omega)
 have s2:IntKind.i64.wrap ((n1.length:Int)+(n2.length:Int))=((n1.length+n2.length:Nat):Int):=by
  rw[show (n1.length:Int)+(n2.length:Int)=((n1.length+n2.length:Nat):Int) from by simp]
  exact qM (by omega)
 have z1:decide ((n1.length:Int) < 0)=false:=by simp
 have z2:decide (((n1.length+n2.length:Nat):Int) < 0)=false:=by simp;omega
 repeat (first|with_reducible (refine q9 H ?_;constructor)|simp only[rB,rQ,q8,reduceIte,Nat.reduceLT,Nat.reduceEqDiff,pe3,pf3,qxf,q4w,q55,ZR,hq,l1,l2,i1,i2,d0,d1,d2,w1,w2,s1,s2,z1,z2,zX,qO]|(with_reducible refine qi9 H ?_))
 refine q1d H hn (fun h0=>?_) (fun h0=>?_)
 ·have f1:=qjb (s:=s.alloc (.cells (Wo [.str []] (n1.length+n2.length)) 9 2)) (id:=s.nx) (len:=0) (cap:=n1.length+n2.length) (h1.ext hb (Ext.alloc s _)) qt (by omega) (Ko _)
  have hb1:qb (s.alloc (.cells (Wo [.str []] (n1.length+n2.length)) 9 2)):=qg hb _
  generalize hS1:s.alloc (.cells (Wo [.str []] (n1.length+n2.length)) 9 2)=S1 at *
  have hx1:Ext s S1:=hS1 ▸ Ext.alloc s _
  have hn1:S1.nx=s.nx+1:=by rw[← hS1];rfl
  rw[Nat.zero_add] at f1
  have q1:S1.h.get q=some (.cells [V1,V2] 36 0):=(hx1.2 q hqn).trans hq
  generalize hS2:({ S1 with h:=S1.h.set s.nx (.cells (List.take 0 (Wo [.str []] (n1.length+n2.length))++List.map AV.str n1++List.drop n1.length (Wo [.str []] (n1.length+n2.length))) 9 2) }:St)=S2 at f1
  have g2:S2.h.get s.nx=some (.cells (List.take 0 (Wo [.str []] (n1.length+n2.length))++List.map AV.str n1++List.drop n1.length (Wo [.str []] (n1.length+n2.length))) 9 2):=by rw[← hS2];exact hs_same
  have hx2:Ext s S2:=⟨by rw[← hS2];show s.nx≤S1.nx;omega,fun i hi=>by rw[← hS2];exact (qa (by omega)).trans (hx1.2 i hi)⟩
  have q2:S2.h.get q=some (.cells [V1,V2] 36 0):=(hx2.2 q hqn).trans hq
  have f2:=qjb (s:=S2) (id:=s.nx) (len:=n1.length) (cap:=n1.length+n2.length) (h2.ext hb hx2) g2 (Nat.le_refl _) (by simp[Ko])
  repeat (first|with_reducible (refine q9 H ?_;constructor)|simp only[rB,rQ,q8,reduceIte,Nat.reduceLT,Nat.reduceEqDiff,pe3,pf3,qxf,q4w,q55,ZR,q1,q2,d0,d1,d2,w1,w2,zX,qO,i1,i2,f1,f2,Tryz.results138]|(with_reducible refine qi9 H ?_))
  refine hk _ _ (Or.inr (Or.inr ⟨s.nx,0,0,n1.length+n2.length,false,_,2,by rw[List.length_append],hs_same,?_,?_,by rw[List.length_append];exact Nat.le_refl _⟩)) ⟨?_,?_⟩ ?_
  ·simp[Ko]
  ·simp only[List.drop_zero,List.length_append,List.take_zero,List.nil_append,List.map_append]
   rw[List.take_left' (l₁:=List.map AV.str n1) (by simp)]
   exact List.take_left' (by simp)
  ·exact hx2.1
  ·intro i hi
   exact (qa (by omega)).trans (hx2.2 i hi)
  ·refine qe ?_ ?_ _
   ·rw[← hS2];exact qe hb1 (by omega) _
   ·rw[← hS2];show s.nx < S1.nx;omega
 ·have n10:n1=[]:=List.eq_nil_of_length_eq_zero (by omega)
  have n20:n2=[]:=List.eq_nil_of_length_eq_zero (by omega)
  subst n10 n20
  have f1:=qh5 h1
  have f2:=qh5 h2
  repeat (first|with_reducible (refine q9 H ?_;constructor)|simp only[rB,rQ,q8,reduceIte,Nat.reduceLT,Nat.reduceEqDiff,pe3,pf3,qxf,q4w,q55,ZR,hq,d0,d1,d2,w1,w2,zX,qO,i1,i2,f1,f2,Tryz.results138]|(with_reducible refine qi9 H ?_))
  exact hk _ _ (Or.inl ⟨rfl,rfl⟩) (Ext.refl s) hb
def ql (p:List Nat):List (List Nat × Nat)→Option Nat
 | []=>none
 | (q,j)::l=>bif eqB p q then some j else ql p l
def QI:Option Nat→AV
 | some j=>.ptr j 0
 | none=>.raw (.pointer none)
theorem Jy {p:List Nat}:∀ (l:List (List Nat × Nat)) (i:Nat),QJ .string (.str p) (qL l) i=some (match ql p l with|some j=>some (i+(l.findIdx fun q=>eqB p q.1),.ptr j 0)|none=>none)
 | [],_=>(rfl)
 | (q,j)::l,i=>by
  simp only[qL,List.map_cons,QJ,qcz,ql]
  cases h:eqB p q with
  | true=>simp[h,List.findIdx_cons]
  | false =>
   have ih:=Jy (p:=p) l (i+1)
   simp only[qL] at ih
   simp only[ih,cond_false,List.findIdx_cons,h]
   cases ql p l with
   | none=>rfl
   | some _=>simp;omega
theorem Yq {s:St} {mp:Nat} {kids:List (List Nat × Nat)} {p:List Nat} (h:s.h.get mp=some (.map (qL kids))):Z8 TE s 115 (.map mp) (.str p) false=some (QI (ql p kids)):=by
 have hz:zA TE 112=some (.raw (.pointer none)):=by kernel_rfl
 have e:Z8 TE s 115 (.map mp) (.str p) false=(match (some { desc:=.string,size:=1,bytes:=16,zero:=some (.string ⟨#[]⟩) }:Option TI),JQ s (.map mp) with
   | some ki,some es =>
    bif J8 ki.desc then
     match QJ ki.desc (.str p) es 0 with
     | some (some (_,v))=>some (bif false then .tuple [v,q8 true] else v)
     | some none=>match zA TE 112 with
      | some z=>some (bif false then .tuple [z,q8 false] else z)
      | none=>none
     | none=>none
    else none
   | _,_=>none):=by kernel_rfl
 rw[e]
 simp only[JQ,h,Jy,J8,cond_true,cond_false,hz]
 cases ql p kids <;> rfl
def Jk (T:zi) (root:Nat) (follow:Bool):Nat→Nat→Nat→List (List Nat)→Option (Nat ⊕ Nat)
 | 0,_,_,_=>none
 | _+1,cur,_,[]=>some (.inl cur)
 | f+1,cur,hops,p::rest=>match T cur with
  | none=>none
  | some nd=>bif decide (nd.kind≠1) then some (.inr 3) else match ql p nd.kids with
   | none=>some (.inr 1)
   | some kid=>match T kid with
    | none=>none
    | some kd=>bif decide (kd.kind≠3)||(rest.isEmpty&&!follow) then Jk T root follow f kid hops rest
     else bif Nat.blt 7 hops then some (.inr 7)
     else match zM T 20 cur with
      | none=>none
      | some cw=>bif Nat.ble cw.length 1000&&(zs cw&&zs kd.data) then
       match Yj cw kd.data with
       | .inr n=>some (.inr n)
       | .inl names=>bif Nat.ble (names.length+rest.length) 50000 then Jk T root follow f root (hops+1) (names++rest) else none
       else none
theorem RepT.ext {s s':St} {T:zi} (h:RepT s T) (hb:qb s) (he:Ext s s'):RepT s' T:=fun i nd hi =>
 ⟨(he.2 i (hb i _ (h i nd hi).1)).trans (h i nd hi).1,(he.2 _ (hb _ _ (h i nd hi).2)).trans (h i nd hi).2⟩
theorem qs0 {s:St} {V1 V2:AV} (h1:V1.cells=[V1]) (h2:V2.cells=[V2]):Q6 TE s 201 2 [(0,V1),(1,V2)]=some (.slice s.nx 0 2 0 2 true,s.alloc (.cells [V1,V2] 36 0)):=by
 have e:Q6 TE s 201 2 [(0,V1),(1,V2)]=(match qbu (fun i=>some (i * 1,1)) [.raw (.slice none 0 0),.raw (.slice none 0 0)] [(0,V1),(1,V2)] with
  | some cs=>some (.slice s.nx 0 2 0 2 true,s.alloc (.cells cs 36 0))
  | none=>none):=by kernel_rfl
 rw[e]
 simp only[qbu,h1,h2]
 rfl
theorem q4d {x:Nat}:qn TE 120 (.ptr x 0) 0=some (.ptr x 0):=by kernel_rfl
theorem qlw {x:Nat}:qn TE 120 (.ptr x 0) 1=some (.ptr x 1):=by kernel_rfl
theorem qs4 {s:St} (H:Ok TE Tryz.prog pr3) {T:zi} (hT:RepT s T) (hB:qb s) {x root:Nat} {tl:List AV} (hx:s.h.get x=some (.cells (.ptr root 0::tl) 120 0)) {f:Nat} {V:AV} {names:List (List Nat)} {follow:Bool} {out:Nat ⊕ Nat} (hV:SlV s V names) (hlen:names.length≤50000)
  (hw:Jk T root follow f root 0 names=some out) {kr kp:AV→St→Bool} (hk:∀ n s',out=.inl n→Ext s s'→qb s'→kr (.ptr n 0) s'=true) (hq:∀ c s',out=.inr c→Ext s s'→qb s'→kp (.iface 110 (.raw (.int .i64 ((c:Nat):Int)))) s'=true) :
  (sem Tryz.prog).call 110 [.ptr x 0,V,.raw (.bool follow)] s kr kp=true:=by
 refine qk H 70 q1u rfl rfl ?_
 repeat (first|with_reducible (refine q9 H ?_;constructor)|simp only[rB,rP,rQ,q8,q7,qc,reduceIte,Nat.reduceAdd,Nat.reduceLT,Nat.reduceEqDiff,pe3,pf3,q4d,qK,hx])
 refine qZ H (fun n t s'=>∃ cur hops names V,tg t 0=.ptr x 0∧tg t 1=V∧tg t 2=.raw (.bool follow)∧tg t 7=.ptr cur 0∧tg t 8=.raw (.int .i64 ((hops:Nat):Int))∧hops≤8∧names.length≤50000∧SlV s' V names∧Ext s s'∧qb s'∧Jk T root follow n cur hops names=some out)
  ⟨root,0,names,V,by simp only[rB,rP,rQ,q8,q7,qc,reduceIte,Nat.reduceAdd,Nat.reduceLT,Nat.reduceEqDiff],by simp only[rB,rP,rQ,q8,q7,qc,reduceIte,Nat.reduceAdd,Nat.reduceLT,Nat.reduceEqDiff],by simp only[rB,rP,rQ,q8,q7,qc,reduceIte,Nat.reduceAdd,Nat.reduceLT,Nat.reduceEqDiff],by simp only[rB,rP,rQ,q8,q7,qc,reduceIte,Nat.reduceAdd,Nat.reduceLT,Nat.reduceEqDiff],by simp only[rB,rP,rQ,q8,q7,qc,reduceIte,Nat.reduceAdd,Nat.reduceLT,Nat.reduceEqDiff];rfl,by omega,hlen,hV,Ext.refl s,hB,hw⟩ ?_
 clear hV hlen hw V names
 rintro n t s1 ih ⟨cur,hops,names,V,t0,t1,t2,t7,t8,hh,hlen,hV,hE,hB1,hw⟩
 have hT1:=hT.ext hB hE
 have hx1:=(hE.2 x (hB x _ hx)).trans hx
 cases n with
 | zero=>cases hw
 | succ n =>
 have vl:=hV.len
 have vi:=hV.ids
 cases names with
 | nil =>
  simp only[Jk,Option.some.injEq] at hw
  have g0:decide ((([]:List (List Nat)).length:Int) > 0)=false:=rfl
  repeat (first|with_reducible (refine q9 H ?_;constructor)|simp only[rB,rP,rQ,q8,q7,qc,reduceIte,Nat.reduceAdd,Nat.reduceLT,Nat.reduceEqDiff,pe3,pf3,t0,t1,t2,t7,t8,vl,vi,zv,g0,Tryz.results110])
  exact hk cur s1 hw.symm hE hB1
 | cons p rest =>
 have g0:decide (((p::rest).length:Int) > 0)=true:=by
  rw[decide_eq_true_eq]
  simp only[List.length_cons]
  omega
 simp only[Jk] at hw
 cases hc:T cur with
 | none=>rw[hc] at hw;cases hw
 | some nd =>
 rw[hc] at hw
 simp only at hw
 obtain⟨hn,hm⟩:=hT1 cur nd hc
 by_cases hd:nd.kind=1
 ·have k1:(nd.kind != 1)=false:=by rw[hd];rfl
  rw[decide_eq_false (by simpa using hd)] at hw
  simp only[cond_false] at hw
  obtain⟨id,o,x1,x2,ob,x3⟩:=hV.idx (p:=p) (j:=0) rfl
  have x1:qQ TE 36 V (.raw (.int .i64 0))=some (.ptr id o):=x1
  have x4:zZ s1 [id]=true:=by simp[zZ,x3]
  have lk:=Yq (p:=p) hm
  obtain⟨V',y1,y2⟩:=hV.tail
  have x2':ldO (s1.h.get id) o=some (.str p):=by rw[← Kb];exact x2
  have x4':∀ b,inO (s1.h.get id) b=b:=fun b=>by rw[x3];rfl
  cases hl:ql p nd.kids with
  | none =>
   rw[hl] at hw lk
   simp only[Option.some.injEq] at hw
   repeat (first|with_reducible (refine q9 H ?_;constructor)|simp only[rB,rP,rQ,q8,q7,qc,reduceIte,Nat.reduceAdd,Nat.reduceLT,Nat.reduceEqDiff,pe3,pf3,t0,t1,t2,t7,t8,vl,vi,zv,g0,Qe,qD,hn,ndA,qB,k1,Q8,qI,x1,qA,x2',x4,hm,lk,x4',QI,Vv,Q4,Zx,qJ]|(with_reducible refine qq H (i:=5) (.take 0 (.take 1 (.take 2 (.take 3 (.take 4 (.take 5 (.take 6 (.take 7 (.take 8 (.done)))))))))) rfl (by kernel_rfl) ?_)|(with_reducible refine qv H ?_)|(with_reducible refine qj H ?_))
   exact hq 1 s1 hw.symm hE hB1
  | some kid =>
  rw[hl] at hw lk
  simp only at hw
  cases hk2:T kid with
  | none=>rw[hk2] at hw;cases hw
  | some kd =>
  rw[hk2] at hw
  simp only at hw
  obtain⟨hn2,hm2⟩:=hT1 kid kd hk2
  have vl2:=y2.len
  have vi2:=y2.ids
  by_cases h3:kd.kind=3
  ·have k3:(kd.kind != 3)=false:=by rw[h3];rfl
   rw[decide_eq_false (by simpa using h3),Bool.false_or] at hw
   by_cases hre:rest=[]∧follow=false
   ·obtain⟨hr0,hf0⟩:=hre
    have r0:((rest.length:Int)==0)=true:=by rw[hr0];rfl
    rw[hr0,hf0] at hw
    simp only[List.isEmpty_nil,Bool.not_false,Bool.and_self,cond_true] at hw
    rw[← hr0,← hf0] at hw
    repeat (first|with_reducible (refine q9 H ?_;constructor)|simp only[rB,rP,rQ,q8,q7,qc,reduceIte,Nat.reduceAdd,Nat.reduceLT,Nat.reduceEqDiff,pe3,pf3,t0,t1,t2,t7,t8,vl,vi,zv,g0,Qe,qD,hn,ndA,qB,k1,Q8,qI,x1,qA,x2',x4,hm,lk,x4',QI,Zh,Q3,y1,k3,hn2,vl2,vi2,qh,r0,hf0]|(with_reducible refine qq H (i:=5) (.take 0 (.take 1 (.take 2 (.take 3 (.take 4 (.take 5 (.take 6 (.take 7 (.take 8 (.done)))))))))) rfl (by kernel_rfl) ?_)|(with_reducible refine qv H ?_))
    exact ih n _ _ (Nat.lt_succ_self n) ⟨kid,hops,rest,V',by simp only[rB,rP,rQ,q8,q7,qc,reduceIte,Nat.reduceAdd,Nat.reduceLT,Nat.reduceEqDiff,t0],by simp only[rB,rP,rQ,q8,q7,qc,reduceIte,Nat.reduceAdd,Nat.reduceLT,Nat.reduceEqDiff],by simp only[rB,rP,rQ,q8,q7,qc,reduceIte,Nat.reduceAdd,Nat.reduceLT,Nat.reduceEqDiff,t2],by simp only[rB,rP,rQ,q8,q7,qc,reduceIte,Nat.reduceAdd,Nat.reduceLT,Nat.reduceEqDiff],by simp only[rB,rP,rQ,q8,q7,qc,reduceIte,Nat.reduceAdd,Nat.reduceLT,Nat.reduceEqDiff,t8],hh,by simp only[List.length_cons] at hlen;omega,y2,hE,hB1,hw⟩
   ·have hcond:(rest.isEmpty&&!follow)=false:=by
     cases rest with
     | nil=>cases follow with|true=>rfl|false=>exact absurd ⟨rfl,rfl⟩ hre
     | cons _ _=>rfl
    rw[hcond] at hw
    simp only[cond_false] at hw
    have hw1:IntKind.i64.wrap ((hops:Int)+1)=((hops+1:Nat):Int):=by
     rw[show (hops:Int)+1=((hops+1:Nat):Int) from by simp]
     exact qM (by omega)
    have hlr:rest.length≤50000:=by simp only[List.length_cons] at hlen;omega
    by_cases hr0:rest=[]
    ·have hf1:follow=true:=by cases follow with|true=>rfl|false=>exact absurd ⟨hr0,rfl⟩ hre
     have r0:((rest.length:Int)==0)=true:=by rw[hr0];rfl
     by_cases h8:7 < hops
     ·rw[Nat.blt_eq.mpr h8] at hw
      simp only[cond_true,Option.some.injEq] at hw
      have g8:decide (((hops+1:Nat):Int) > 8)=true:=by rw[decide_eq_true_eq];omega
      repeat (first|with_reducible (refine q9 H ?_;constructor)|simp only[rB,rP,rQ,q8,q7,qc,reduceIte,Nat.reduceAdd,Nat.reduceLT,Nat.reduceEqDiff,pe3,pf3,t0,t1,t2,t7,t8,vl,vi,zv,g0,Qe,qD,hn,ndA,qB,k1,Q8,qI,x1,qA,x2',x4,hm,lk,x4',QI,Zh,Q3,y1,k3,hn2,vl2,vi2,qh,qO,hw1,YF,r0,hf1,g8]|(with_reducible refine qq H (i:=5) (.take 0 (.take 1 (.take 2 (.take 3 (.take 4 (.take 5 (.take 6 (.take 7 (.take 8 (.done)))))))))) rfl (by kernel_rfl) ?_)|(with_reducible refine qv H ?_)|(with_reducible refine qj H ?_))
      exact hq 7 s1 hw.symm hE hB1
     ·have h8':Nat.blt 7 hops=false:=by rw[← Bool.not_eq_true,Nat.blt_eq];exact h8
      rw[h8'] at hw
      simp only[cond_false] at hw
      have g8:decide (((hops+1:Nat):Int) > 8)=false:=by rw[decide_eq_false_iff_not];omega
      cases hpp:zM T 20 cur with
      | none=>rw[hpp] at hw;cases hw
      | some cw =>
      rw[hpp] at hw
      simp only at hw
      cases hcd:(Nat.ble cw.length 1000&&(zs cw&&zs kd.data)) with
      | false=>rw[hcd] at hw;cases hw
      | true =>
      rw[hcd] at hw
      simp only[cond_true] at hw
      simp only[Bool.and_eq_true] at hcd
      repeat (first|with_reducible (refine q9 H ?_;constructor)|simp only[rB,rP,rQ,q8,q7,qc,reduceIte,Nat.reduceAdd,Nat.reduceLT,Nat.reduceEqDiff,pe3,pf3,t0,t1,t2,t7,t8,vl,vi,zv,g0,Qe,qD,hn,ndA,qB,k1,Q8,qI,x1,qA,x2',x4,hm,lk,x4',QI,Zh,Q3,y1,k3,hn2,vl2,vi2,qh,qO,hw1,YF,r0,hf1,g8]|(with_reducible refine qq H (i:=5) (.take 0 (.take 1 (.take 2 (.take 3 (.take 4 (.take 5 (.take 6 (.take 7 (.take 8 (.done)))))))))) rfl (by kernel_rfl) ?_)|(with_reducible refine qv H ?_))
      refine qcd H hT1 hpp (Nat.le_of_ble_eq_true hcd.1) hcd.2.1 hcd.2.2 (fun nm he=>?_) (fun c he=>?_)
      ·rw[he] at hw
       simp only at hw
       cases hbd:Nat.ble (nm.length+rest.length) 50000 with
       | false=>rw[hbd] at hw;cases hw
       | true =>
       rw[hbd] at hw
       simp only[cond_true] at hw
       have hbd:=Nat.le_of_ble_eq_true hbd
       have hV1:=SlV.mk (s:=s1) (names:=nm)
       have hE2:=J2 (s:=s1) (names:=nm)
       have hB2:=Z6 (names:=nm) hB1
       generalize (Xw 9 nm s1).1=V1 at *
       generalize (Xw 9 nm s1).2=s2 at *
       have y2':=y2.ext hB1 hE2
       have bt:=qs0 (s:=s2) hV1.cells1.1 y2.cells1.1
       repeat (first|with_reducible (refine q9 H ?_;constructor)|simp only[rB,rP,rQ,q8,q7,qc,reduceIte,Nat.reduceAdd,Nat.reduceLT,Nat.reduceEqDiff,pe3,pf3,t0,t1,t2,t7,t8,vl,vi,zv,g0,Qe,qD,hn,ndA,qB,k1,Q8,qI,x1,qA,x2',x4,hm,lk,x4',QI,Zh,Q3,y1,k3,hn2,vl2,vi2,qh,qO,hw1,YF,r0,hf1,bt])
       refine qjm H (qg hB2 _) (hV1.ext hB2 (Ext.alloc s2 _)) (y2'.ext hB2 (Ext.alloc s2 _)) qt (by omega) (fun V4 s4 q1 q2 q3=>?_)
       have hE4:=hE.trans (hE2.trans ((Ext.alloc s2 _).trans q2))
       have hx4:=(hE4.2 x (hB x _ hx)).trans hx
       repeat (first|with_reducible (refine q9 H ?_;constructor)|simp only[rB,rP,rQ,q8,q7,qc,reduceIte,Nat.reduceAdd,Nat.reduceLT,Nat.reduceEqDiff,pe3,pf3,t0,t1,t2,t7,t8,q4d,qK,hx4])
       exact ih n _ _ (Nat.lt_succ_self n) ⟨root,hops+1,nm++rest,V4,by simp only[rB,rP,rQ,q8,q7,qc,reduceIte,Nat.reduceAdd,Nat.reduceLT,Nat.reduceEqDiff,t0],by simp only[rB,rP,rQ,q8,q7,qc,reduceIte,Nat.reduceAdd,Nat.reduceLT,Nat.reduceEqDiff],by simp only[rB,rP,rQ,q8,q7,qc,reduceIte,Nat.reduceAdd,Nat.reduceLT,Nat.reduceEqDiff,t2],by simp only[rB,rP,rQ,q8,q7,qc,reduceIte,Nat.reduceAdd,Nat.reduceLT,Nat.reduceEqDiff],by simp only[rB,rP,rQ,q8,q7,qc,reduceIte,Nat.reduceAdd,Nat.reduceLT,Nat.reduceEqDiff,t8],by omega,by rw[List.length_append];omega,q1,hE4,q3,hw⟩
      ·rw[he] at hw
       simp only[Option.some.injEq] at hw
       repeat (first|with_reducible (refine q9 H ?_;constructor)|simp only[rB,rP,rQ,q8,q7,qc,reduceIte,Nat.reduceAdd,Nat.reduceLT,Nat.reduceEqDiff,pe3,pf3,t0])
       exact hq c s1 hw.symm hE hB1
    ·have r0:((rest.length:Int)==0)=false:=by
      rw[beq_eq_false_iff_ne]
      intro h
      exact hr0 (List.eq_nil_of_length_eq_zero (by omega))
     by_cases h8:7 < hops
     ·rw[Nat.blt_eq.mpr h8] at hw
      simp only[cond_true,Option.some.injEq] at hw
      have g8:decide (((hops+1:Nat):Int) > 8)=true:=by rw[decide_eq_true_eq];omega
      repeat (first|with_reducible (refine q9 H ?_;constructor)|simp only[rB,rP,rQ,q8,q7,qc,reduceIte,Nat.reduceAdd,Nat.reduceLT,Nat.reduceEqDiff,pe3,pf3,t0,t1,t2,t7,t8,vl,vi,zv,g0,Qe,qD,hn,ndA,qB,k1,Q8,qI,x1,qA,x2',x4,hm,lk,x4',QI,Zh,Q3,y1,k3,hn2,vl2,vi2,qh,qO,hw1,YF,r0,g8]|(with_reducible refine qq H (i:=5) (.take 0 (.take 1 (.take 2 (.take 3 (.take 4 (.take 5 (.take 6 (.take 7 (.take 8 (.done)))))))))) rfl (by kernel_rfl) ?_)|(with_reducible refine qv H ?_)|(with_reducible refine qj H ?_))
      exact hq 7 s1 hw.symm hE hB1
     ·have h8':Nat.blt 7 hops=false:=by rw[← Bool.not_eq_true,Nat.blt_eq];exact h8
      rw[h8'] at hw
      simp only[cond_false] at hw
      have g8:decide (((hops+1:Nat):Int) > 8)=false:=by rw[decide_eq_false_iff_not];omega
      cases hpp:zM T 20 cur with
      | none=>rw[hpp] at hw;cases hw
      | some cw =>
      rw[hpp] at hw
      simp only at hw
      cases hcd:(Nat.ble cw.length 1000&&(zs cw&&zs kd.data)) with
      | false=>rw[hcd] at hw;cases hw
      | true =>
      rw[hcd] at hw
      simp only[cond_true] at hw
      simp only[Bool.and_eq_true] at hcd
      repeat (first|with_reducible (refine q9 H ?_;constructor)|simp only[rB,rP,rQ,q8,q7,qc,reduceIte,Nat.reduceAdd,Nat.reduceLT,Nat.reduceEqDiff,pe3,pf3,t0,t1,t2,t7,t8,vl,vi,zv,g0,Qe,qD,hn,ndA,qB,k1,Q8,qI,x1,qA,x2',x4,hm,lk,x4',QI,Zh,Q3,y1,k3,hn2,vl2,vi2,qh,qO,hw1,YF,r0,g8]|(with_reducible refine qq H (i:=5) (.take 0 (.take 1 (.take 2 (.take 3 (.take 4 (.take 5 (.take 6 (.take 7 (.take 8 (.done)))))))))) rfl (by kernel_rfl) ?_)|(with_reducible refine qv H ?_))
      refine qcd H hT1 hpp (Nat.le_of_ble_eq_true hcd.1) hcd.2.1 hcd.2.2 (fun nm he=>?_) (fun c he=>?_)
      ·rw[he] at hw
       simp only at hw
       cases hbd:Nat.ble (nm.length+rest.length) 50000 with
       | false=>rw[hbd] at hw;cases hw
       | true =>
       rw[hbd] at hw
       simp only[cond_true] at hw
       have hbd:=Nat.le_of_ble_eq_true hbd
       have hV1:=SlV.mk (s:=s1) (names:=nm)
       have hE2:=J2 (s:=s1) (names:=nm)
       have hB2:=Z6 (names:=nm) hB1
       generalize (Xw 9 nm s1).1=V1 at *
       generalize (Xw 9 nm s1).2=s2 at *
       have y2':=y2.ext hB1 hE2
       have bt:=qs0 (s:=s2) hV1.cells1.1 y2.cells1.1
       repeat (first|with_reducible (refine q9 H ?_;constructor)|simp only[rB,rP,rQ,q8,q7,qc,reduceIte,Nat.reduceAdd,Nat.reduceLT,Nat.reduceEqDiff,pe3,pf3,t0,t1,t2,t7,t8,vl,vi,zv,g0,Qe,qD,hn,ndA,qB,k1,Q8,qI,x1,qA,x2',x4,hm,lk,x4',QI,Zh,Q3,y1,k3,hn2,vl2,vi2,qh,qO,hw1,YF,r0,bt])
       refine qjm H (qg hB2 _) (hV1.ext hB2 (Ext.alloc s2 _)) (y2'.ext hB2 (Ext.alloc s2 _)) qt (by omega) (fun V4 s4 q1 q2 q3=>?_)
       have hE4:=hE.trans (hE2.trans ((Ext.alloc s2 _).trans q2))
       have hx4:=(hE4.2 x (hB x _ hx)).trans hx
       repeat (first|with_reducible (refine q9 H ?_;constructor)|simp only[rB,rP,rQ,q8,q7,qc,reduceIte,Nat.reduceAdd,Nat.reduceLT,Nat.reduceEqDiff,pe3,pf3,t0,t1,t2,t7,t8,q4d,qK,hx4])
       exact ih n _ _ (Nat.lt_succ_self n) ⟨root,hops+1,nm++rest,V4,by simp only[rB,rP,rQ,q8,q7,qc,reduceIte,Nat.reduceAdd,Nat.reduceLT,Nat.reduceEqDiff,t0],by simp only[rB,rP,rQ,q8,q7,qc,reduceIte,Nat.reduceAdd,Nat.reduceLT,Nat.reduceEqDiff],by simp only[rB,rP,rQ,q8,q7,qc,reduceIte,Nat.reduceAdd,Nat.reduceLT,Nat.reduceEqDiff,t2],by simp only[rB,rP,rQ,q8,q7,qc,reduceIte,Nat.reduceAdd,Nat.reduceLT,Nat.reduceEqDiff],by simp only[rB,rP,rQ,q8,q7,qc,reduceIte,Nat.reduceAdd,Nat.reduceLT,Nat.reduceEqDiff,t8],by omega,by rw[List.length_append];omega,q1,hE4,q3,hw⟩
      ·rw[he] at hw
       simp only[Option.some.injEq] at hw
       repeat (first|with_reducible (refine q9 H ?_;constructor)|simp only[rB,rP,rQ,q8,q7,qc,reduceIte,Nat.reduceAdd,Nat.reduceLT,Nat.reduceEqDiff,pe3,pf3,t0])
       exact hq c s1 hw.symm hE hB1
  ·have k3:(kd.kind != 3)=true:=by rw[bne_iff_ne];exact h3
   rw[decide_eq_true h3,Bool.true_or] at hw
   simp only[cond_true] at hw
   repeat (first|with_reducible (refine q9 H ?_;constructor)|simp only[rB,rP,rQ,q8,q7,qc,reduceIte,Nat.reduceAdd,Nat.reduceLT,Nat.reduceEqDiff,pe3,pf3,t0,t1,t2,t7,t8,vl,vi,zv,g0,Qe,qD,hn,ndA,qB,k1,Q8,qI,x1,qA,x2',x4,hm,lk,x4',QI,Zh,Q3,y1,k3,hn2,vl2,vi2]|(with_reducible refine qq H (i:=5) (.take 0 (.take 1 (.take 2 (.take 3 (.take 4 (.take 5 (.take 6 (.take 7 (.take 8 (.done)))))))))) rfl (by kernel_rfl) ?_)|(with_reducible refine qv H ?_))
   exact ih n _ _ (Nat.lt_succ_self n) ⟨kid,hops,rest,V',by simp only[rB,rP,rQ,q8,q7,qc,reduceIte,Nat.reduceAdd,Nat.reduceLT,Nat.reduceEqDiff,t0],by simp only[rB,rP,rQ,q8,q7,qc,reduceIte,Nat.reduceAdd,Nat.reduceLT,Nat.reduceEqDiff],by simp only[rB,rP,rQ,q8,q7,qc,reduceIte,Nat.reduceAdd,Nat.reduceLT,Nat.reduceEqDiff,t2],by simp only[rB,rP,rQ,q8,q7,qc,reduceIte,Nat.reduceAdd,Nat.reduceLT,Nat.reduceEqDiff],by simp only[rB,rP,rQ,q8,q7,qc,reduceIte,Nat.reduceAdd,Nat.reduceLT,Nat.reduceEqDiff,t8],hh,by simp only[List.length_cons] at hlen;omega,y2,hE,hB1,hw⟩
 ·have k1:(nd.kind != 1)=true:=by rw[bne_iff_ne];exact hd
  rw[decide_eq_true hd] at hw
  simp only[cond_true,Option.some.injEq] at hw
  repeat (first|with_reducible (refine q9 H ?_;constructor)|simp only[rB,rP,rQ,q8,q7,qc,reduceIte,Nat.reduceAdd,Nat.reduceLT,Nat.reduceEqDiff,pe3,pf3,t0,t1,t2,t7,t8,vl,vi,zv,g0,Qe,qD,hn,ndA,qB,k1]|(with_reducible refine qj H ?_))
  exact hq 3 s1 hw.symm hE hB1
def Yp (T:zi) (cwd:Nat) (b:List Nat):Option (List (List Nat) ⊕ Nat):=match zM T 20 cwd with
 | none=>none
 | some cw=>bif Nat.ble cw.length 1000&&(zs cw&&zs b) then
  match Yj cw b with
  | .inr n=>some (.inr n)
  | .inl names=>bif Nat.ble names.length 50000 then some (.inl names) else none
  else none
def zE (T:zi) (root cwd:Nat) (b:List Nat) (follow:Bool):Option (Nat ⊕ Nat):=match Yp T cwd b with
 | none=>none
 | some (.inr n)=>some (.inr n)
 | some (.inl names)=>Jk T root follow 200 root 0 names
def zy (T:zi) (root cwd:Nat) (b:List Nat):Option ((Nat × List Nat) ⊕ Nat):=match Yp T cwd b with
 | none=>none
 | some (.inr n)=>some (.inr n)
 | some (.inl names)=>match names[names.length - 1]? with
  | none=>some (.inr 5)
  | some nm=>match Jk T root true 200 root 0 (names.take (names.length - 1)) with
   | none=>none
   | some (.inr n)=>some (.inr n)
   | some (.inl u)=>match T u with
    | none=>none
    | some ud=>bif decide (ud.kind≠1) then some (.inr 3) else some (.inl (u,nm))
theorem qja {s:St} (H:Ok TE Tryz.prog pr3) {T:zi} (hT:RepT s T) (hB:qb s) {cwd:Nat} {b:List Nat} {out:List (List Nat) ⊕ Nat} (hn:Yp T cwd b=some out) {kr kp:AV→St→Bool}
  (hk:∀ names V s',out=.inl names→names.length≤50000→SlV s' V names→Ext s s'→qb s'→kr V s'=true) (hq:∀ c:Nat,out=.inr c→kp (.iface 110 (.raw (.int .i64 (c:Int)))) s=true) :
  (sem Tryz.prog).call 111 [.ptr cwd 0,.str b] s kr kp=true:=by
 unfold Yp at hn
 cases hp:zM T 20 cwd with
 | none=>rw[hp] at hn;cases hn
 | some cw =>
 rw[hp] at hn
 simp only at hn
 cases hc:(Nat.ble cw.length 1000&&(zs cw&&zs b)) with
 | false=>rw[hc] at hn;cases hn
 | true =>
 rw[hc] at hn
 simp only[cond_true] at hn
 simp only[Bool.and_eq_true] at hc
 refine qcd H hT hp (Nat.le_of_ble_eq_true hc.1) hc.2.1 hc.2.2 (fun nm he=>?_) (fun c he=>?_)
 ·rw[he] at hn
  simp only at hn
  cases hb:Nat.ble nm.length 50000 with
  | false=>rw[hb] at hn;cases hn
  | true =>
   rw[hb] at hn
   simp only[cond_true,Option.some.injEq] at hn
   exact hk nm _ _ hn.symm (Nat.le_of_ble_eq_true hb) SlV.mk J2 (Z6 hB)
 ·rw[he] at hn
  simp only[Option.some.injEq] at hn
  exact hq c hn.symm
theorem Xv {s:St} (H:Ok TE Tryz.prog pr3) {T:zi} (hT:RepT s T) (hB:qb s) {x root cwd:Nat} {tl:List AV} (hx:s.h.get x=some (.cells (.ptr root 0::.ptr cwd 0::tl) 120 0)) {b:List Nat} {follow:Bool} {out:Nat ⊕ Nat} (hf:zE T root cwd b follow=some out)
  {kr kp:AV→St→Bool} (hk:∀ n s',out=.inl n→Ext s s'→qb s'→kr (.ptr n 0) s'=true) (hq:∀ c s',out=.inr c→Ext s s'→qb s'→kp (.iface 110 (.raw (.int .i64 ((c:Nat):Int)))) s'=true) :
  (sem Tryz.prog).call 64 [.ptr x 0,.str b,.raw (.bool follow)] s kr kp=true:=by
 refine qk H 16 q5t rfl rfl ?_
 unfold zE at hf
 cases hn:Yp T cwd b with
 | none=>rw[hn] at hf;cases hf
 | some o =>
 rw[hn] at hf
 repeat (first|with_reducible (refine q9 H ?_;constructor)|simp only[rB,rP,rQ,q8,reduceIte,Nat.reduceAdd,Nat.reduceLT,Nat.reduceEqDiff,pe3,pf3,qlw,qK,hx])
 refine qja H hT hB hn (fun nm V s1 he hl hV hE hB1=>?_) (fun c he=>?_)
 ·subst he
  simp only at hf
  repeat (first|with_reducible (refine q9 H ?_;constructor)|simp only[rB,rP,rQ,q8,reduceIte,Nat.reduceAdd,Nat.reduceLT,Nat.reduceEqDiff,pe3,pf3])
  refine qs4 H (hT.ext hB hE) hB1 ((hE.2 x (hB x _ hx)).trans hx) hV hl hf (fun n s2 h1 h2 h3=>?_) (fun c s2 h1 h2 h3=>?_)
  ·repeat (first|with_reducible (refine q9 H ?_;constructor)|simp only[rB,rP,rQ,q8,reduceIte,Nat.reduceAdd,Nat.reduceLT,Nat.reduceEqDiff,pe3,pf3,Tryz.results64])
   exact hk n s2 h1 (hE.trans h2) h3
  ·repeat (first|with_reducible (refine q9 H ?_;constructor)|simp only[rB,rP,rQ,q8,reduceIte,Nat.reduceAdd,Nat.reduceLT,Nat.reduceEqDiff,pe3,pf3])
   exact hq c s2 h1 (hE.trans h2) h3
 ·subst he
  simp only[Option.some.injEq] at hf
  repeat (first|with_reducible (refine q9 H ?_;constructor)|simp only[rB,rP,rQ,q8,reduceIte,Nat.reduceAdd,Nat.reduceLT,Nat.reduceEqDiff,pe3,pf3])
  exact hq c s hf.symm (Ext.refl s) hB
theorem Vx {s:St} (H:Ok TE Tryz.prog pr3) {T:zi} (hT:RepT s T) (hB:qb s) {x root cwd:Nat} {tl:List AV} (hx:s.h.get x=some (.cells (.ptr root 0::.ptr cwd 0::tl) 120 0)) {b:List Nat} {out:(Nat × List Nat) ⊕ Nat} (hf:zy T root cwd b=some out)
  {kr kp:AV→St→Bool} (hk:∀ u nm s',out=.inl (u,nm)→Ext s s'→qb s'→kr (.tuple [.ptr u 0,.str nm]) s'=true) (hq:∀ c s',out=.inr c→Ext s s'→qb s'→kp (.iface 110 (.raw (.int .i64 ((c:Nat):Int)))) s'=true) :
  (sem Tryz.prog).call 99 [.ptr x 0,.str b] s kr kp=true:=by
 refine qk H 38 q6k rfl rfl ?_
 unfold zy at hf
 cases hn:Yp T cwd b with
 | none=>rw[hn] at hf;cases hf
 | some o =>
 rw[hn] at hf
 repeat (first|with_reducible (refine q9 H ?_;constructor)|simp only[rB,rP,rQ,q8,reduceIte,Nat.reduceAdd,Nat.reduceLT,Nat.reduceEqDiff,pe3,pf3,qlw,qK,hx])
 refine qja H hT hB hn (fun nm V s1 he hl hV hE hB1=>?_) (fun c he=>?_)
 ·subst he
  simp only at hf
  have vl:=hV.len
  have vi:=hV.ids
  cases hlast:nm[nm.length - 1]? with
  | none =>
   rw[hlast] at hf
   simp only[Option.some.injEq] at hf
   have h0:nm=[]:=by
    cases nm with
    | nil=>rfl
    | cons y l=>simp at hlast
   have e0:((nm.length:Int)==0)=true:=by rw[h0];rfl
   repeat (first|with_reducible (refine q9 H ?_;constructor)|simp only[rB,rP,rQ,q8,reduceIte,Nat.reduceAdd,Nat.reduceLT,Nat.reduceEqDiff,pe3,pf3,vl,vi,qh,e0]|(with_reducible refine qj H ?_))
   exact hq 5 s1 hf.symm hE hB1
  | some last =>
   rw[hlast] at hf
   simp only at hf
   have hlt:nm.length - 1 < nm.length:=(List.getElem?_eq_some_iff.1 hlast).1
   have e0:((nm.length:Int)==0)=false:=by rw[beq_eq_false_iff_ne];omega
   have e1:IntKind.i64.wrap ((nm.length:Int) - 1)=((nm.length - 1:Nat):Int):=by
    rw[show (nm.length:Int) - 1=((nm.length - 1:Nat):Int) from by omega]
    exact qM (by omega)
   obtain⟨V',y1,y2⟩:=hV.take (j:=nm.length - 1) (by omega)
   repeat (first|with_reducible (refine q9 H ?_;constructor)|simp only[rB,rP,rQ,q8,reduceIte,Nat.reduceAdd,Nat.reduceLT,Nat.reduceEqDiff,pe3,pf3,vl,vi,qh,e0,zj,e1,y1]|(with_reducible refine qv H ?_))
   cases hwk:Jk T root true 200 root 0 (nm.take (nm.length - 1)) with
   | none=>rw[hwk] at hf;cases hf
   | some wo =>
   rw[hwk] at hf
   have hT1:=hT.ext hB hE
   refine qs4 H hT1 hB1 ((hE.2 x (hB x _ hx)).trans hx) y2 (by rw[List.length_take];omega) hwk (fun u s2 h1 h2 h3=>?_) (fun c s2 h1 h2 h3=>?_)
   ·subst h1
    simp only at hf
    cases hu:T u with
    | none=>rw[hu] at hf;cases hf
    | some ud =>
    rw[hu] at hf
    simp only at hf
    obtain⟨hn2,_⟩:=(hT1.ext hB1 h2) u ud hu
    by_cases hd:ud.kind=1
    ·rw[decide_eq_false (by simpa using hd)] at hf
     simp only[cond_false,Option.some.injEq] at hf
     have k1:(ud.kind != 1)=false:=by rw[hd];rfl
     obtain⟨id,o,x1,x2,ob,x3⟩:=(hV.ext hB1 h2).idx (p:=last) (j:=nm.length - 1) hlast
     have x2':ldO (s2.h.get id) o=some (.str last):=by rw[← Kb];exact x2
     have x4':∀ b,inO (s2.h.get id) b=b:=fun b=>by rw[x3];rfl
     repeat (first|with_reducible (refine q9 H ?_;constructor)|simp only[rB,rP,rQ,q8,reduceIte,Nat.reduceAdd,Nat.reduceLT,Nat.reduceEqDiff,pe3,pf3,Qe,qD,hn2,ndA,qB,k1,x1,qA,x2',x4',Tryz.results99]|(with_reducible refine qv H ?_)|(with_reducible refine qq H (i:=6) (.take 0 (.take 1 (.take 2 (.take 3 (.take 4 (.take 5 (.take 6 (.done)))))))) rfl (by kernel_rfl) ?_))
     exact hk u last s2 hf.symm (hE.trans h2) h3
    ·rw[decide_eq_true hd] at hf
     simp only[cond_true,Option.some.injEq] at hf
     have k1:(ud.kind != 1)=true:=by rw[bne_iff_ne];exact hd
     repeat (first|with_reducible (refine q9 H ?_;constructor)|simp only[rB,rP,rQ,q8,reduceIte,Nat.reduceAdd,Nat.reduceLT,Nat.reduceEqDiff,pe3,pf3,Qe,qD,hn2,ndA,qB,k1]|(with_reducible refine qj H ?_))
     exact hq 3 s2 hf.symm (hE.trans h2) h3
   ·subst h1
    simp only[Option.some.injEq] at hf
    repeat (first|with_reducible (refine q9 H ?_;constructor)|simp only[rB,rP,rQ,q8,reduceIte,Nat.reduceAdd,Nat.reduceLT,Nat.reduceEqDiff,pe3,pf3])
    exact hq c s2 hf.symm (hE.trans h2) h3
 ·subst he
  simp only[Option.some.injEq] at hf
  repeat (first|with_reducible (refine q9 H ?_;constructor)|simp only[rB,rP,rQ,q8,reduceIte,Nat.reduceAdd,Nat.reduceLT,Nat.reduceEqDiff,pe3,pf3])
  exact hq c s hf.symm (Ext.refl s) hB
structure Cl where
 op:Int
 path:List Nat
 path2:List Nat
 fd:Int
 off:Int
 num:Int
 mode:Int
 data:List Nat
def clL (c:Cl):List AV:=[.raw (.int .i64 c.op),.str c.path,.str c.path2,.raw (.int .i64 c.fd),.raw (.int .i64 c.off),.raw (.int .i64 c.num),.raw (.int .i64 c.mode),.str c.data]
def anL (status num kind mode:Int) (data:List Nat) (names:AV):List AV:=[.raw (.int .i64 status),.raw (.int .i64 num),.raw (.int .i64 kind),.raw (.int .i64 mode),.str data,names]
def nilS:AV:=.raw (.slice none 0 0)
theorem QD {x:Nat}:qn TE 41 (.ptr x 0) 0=some (.ptr x 0):=by kernel_rfl
theorem qjk {x:Nat}:qn TE 41 (.ptr x 0) 1=some (.ptr x 1):=by kernel_rfl
theorem fc_2 {x:Nat}:qn TE 41 (.ptr x 0) 2=some (.ptr x 2):=by kernel_rfl
theorem qxy {x:Nat}:qn TE 41 (.ptr x 0) 3=some (.ptr x 3):=by kernel_rfl
theorem qqn {x:Nat}:qn TE 41 (.ptr x 0) 4=some (.ptr x 4):=by kernel_rfl
theorem qki {x:Nat}:qn TE 41 (.ptr x 0) 5=some (.ptr x 5):=by kernel_rfl
theorem KN {x:Nat}:qn TE 41 (.ptr x 0) 6=some (.ptr x 6):=by kernel_rfl
theorem qcg {x:Nat}:qn TE 41 (.ptr x 0) 7=some (.ptr x 7):=by kernel_rfl
theorem zn {s:St}:Qz TE s 38=some (.ptr s.nx 0,s.alloc (.cells (anL 0 0 0 0 [] nilS) 38 0)):=by
 have:zA TE 38=some (.agg (anL 0 0 0 0 [] nilS)):=by kernel_rfl
 simp only[Qz,this];rfl
theorem qv4:qe1 TE 38=6:=by kernel_rfl
theorem q1y:(match TE.info 38 with|some ti=>QF ti.desc&&Nat.beq ti.size 6|none=>false)=true:=by kernel_rfl
theorem qyj:(match TE.info 41 with|some ti=>QF ti.desc&&Nat.beq ti.size 8|none=>false)=true:=by kernel_rfl
def stA (s:St) (x:Nat) (c:Option AO) (vs:List AV):Option St:=match c with
 | some (.cells cs el fz)=>match JF cs 0 vs with
  | some cs'=>some { s with h:=s.h.set x (.cells cs' el fz) }
  | none=>none
 | _=>none
theorem Qj {s:St} {x:Nat} {st n k m:Int} {d:List Nat} {N:AV} (hN:N.one=true):QZ TE s 38 (.ptr x 0) (.agg (anL st n k m d N))=stA s x (s.h.get x) (anL st n k m d N):=by
 have hs:=qv4
 unfold qe1 at hs
 cases ht:TE.info 38 with
 | none=>rw[ht] at hs;cases hs
 | some ti =>
  rw[ht] at hs
  simp only at hs
  have hall:(anL st n k m d N).all AV.one=true:=by simp[anL,List.all_cons,KZ,qbr,hN]
  simp only[QZ,ht,hs,qd,zJ,hall]
  show (bif true then _ else _)=_
  simp only[cond_true,stA,za]
  cases s.h.get x with
  | none=>rfl
  | some y=>cases y <;> rfl
theorem zr {s:St} {x el fz:Nat} {a b c d:Int} {e:List Nat} {M:AV} {st n k m:Int} {f:List Nat} {N:AV}:stA s x (some (.cells (anL a b c d e M) el fz)) (anL st n k m f N)=some { s with h:=s.h.set x (.cells (anL st n k m f N) el fz) }:=(rfl)
theorem zb:nilS.one=true:=(rfl)
def ldG (n:Nat) (o:Option AO):Option AV:=match o with
 | some (.cells cs _ _)=>match Yn 0 n cs with
  | some l=>some (.agg l)
  | none=>none
 | some (.old cs)=>match Yn 0 n cs with
  | some l=>some (.agg l)
  | none=>none
 | _=>none
theorem KT {t n x:Nat} {s:St} (hs:(match TE.info t with|some ti=>QF ti.desc&&Nat.beq ti.size n|none=>false)=true):Q1 TE s t (.ptr x 0)=ldG n (s.h.get x):=by
 cases ht:TE.info t with
 | none=>rw[ht] at hs;cases hs
 | some ti =>
  rw[ht] at hs
  simp only[Bool.and_eq_true] at hs
  have h2:=Nat.eq_of_beq_eq_true hs.2
  simp only[Q1,ht,ldG,za,qrt]
  cases s.h.get x with
  | none=>rfl
  | some y =>
   cases y with
   | cells cs el fz =>
    simp only[hs.1,cond_true,h2]
    rfl
   | old cs =>
    simp only[hs.1,cond_true,h2]
    rfl
   | _=>rfl
theorem zD {s:St} {x:Nat}:Q1 TE s 38 (.ptr x 0)=ldG 6 (s.h.get x):=KT q1y
theorem Kd {s:St} {x:Nat}:Q1 TE s 41 (.ptr x 0)=ldG 8 (s.h.get x):=KT qyj
theorem qY {a b c d:Int} {e:List Nat} {M:AV} {el fz:Nat}:ldG 6 (some (.cells (anL a b c d e M) el fz))=some (.agg (anL a b c d e M)):=(rfl)
theorem J3 {a0 a1 a2 a3 a4 a5 a6 a7:AV} {el fz:Nat}:ldG 8 (some (.cells [a0,a1,a2,a3,a4,a5,a6,a7] el fz))=some (.agg [a0,a1,a2,a3,a4,a5,a6,a7]):=(rfl)
def Jf (data:List Nat) (off num:Int):List Nat ⊕ Nat:=bif decide (off < 0)||(decide (num < 0)||decide (num > 512)) then .inr 5 else
 .inl ((data.drop (min off.toNat data.length)).take (min num.toNat (data.length - min off.toNat data.length)))
theorem q5e {d:List Nat} {n:Int}:Qq TE 38 [(4,.str d),(1,.raw (.int .i64 n))]=some (.agg (anL 0 n 0 0 d nilS)):=by kernel_rfl
theorem qtk {s:St} (H:Ok TE Tryz.prog pr3) (hB:qb s) {i:Nat} {nd:Nd} (hn:s.h.get i=some (ndA nd)) (hl:nd.data.length≤1000000) {c:Cl} {kr kp:AV→St→Bool}
  (hk:∀ d s',Jf nd.data c.off c.num=.inl d→Ext s s'→qb s'→kr (.agg (anL 0 (d.length:Int) 0 0 d nilS)) s'=true) (hq:∀ n s',Jf nd.data c.off c.num=.inr n→Ext s s'→qb s'→kp (.iface 110 (.raw (.int .i64 ((n:Nat):Int)))) s'=true) :
  (sem Tryz.prog).call 97 [.ptr i 0,.agg (clL c)] s kr kp=true:=by
 refine qk H 50 q5f rfl rfl ?_
 have hi:=hB i _ hn
 have n1:s.nx≠s.nx+1:=by omega
 have n2:s.nx+1≠s.nx:=by omega
 have n3:i≠s.nx:=by omega
 have n4:i≠s.nx+1:=by omega
 have m1:(s.nx=s.nx+1)=False:=by simp
 have m2:(s.nx+1=s.nx)=False:=by simp
 have m3:(i=s.nx)=False:=by simp[n3]
 have m4:(i=s.nx+1)=False:=by simp[n4]
 have hE:Ext s ((s.alloc (.cells (clL c) 41 0)).alloc (.cells (anL 0 0 0 0 [] nilS) 38 0)):=(Ext.alloc s _).trans (Ext.alloc _ _)
 have hB2:=qg (qg hB (.cells (clL c) 41 0)) (.cells (anL 0 0 0 0 [] nilS) 38 0)
 unfold Jf at hk hq
 by_cases b1:c.off < 0
 ·rw[decide_eq_true b1,Bool.true_or] at hq
  have e1:=decide_eq_true b1
  repeat (first|with_reducible (refine q9 H ?_;constructor)|simp only[rB,rP,rQ,q8,qf,q7,qc,reduceIte,Nat.reduceLT,Nat.reduceEqDiff,pe3,pf3,zn,qd,qqn,qki,clL,qD,m1,m2,zX,zv,e1]|(with_reducible refine qj H ?_))
  exact hq 5 _ rfl hE hB2
 have e1:=decide_eq_false b1
 rw[e1,Bool.false_or] at hq hk
 by_cases b2:c.num < 0
 ·rw[decide_eq_true b2,Bool.true_or] at hq
  have e2:=decide_eq_true b2
  repeat (first|with_reducible (refine q9 H ?_;constructor)|simp only[rB,rP,rQ,q8,qf,q7,qc,reduceIte,Nat.reduceLT,Nat.reduceEqDiff,pe3,pf3,zn,qd,qqn,qki,clL,qD,m1,m2,zX,zv,e1,e2]|(with_reducible refine qj H ?_))
  exact hq 5 _ rfl hE hB2
 have e2:=decide_eq_false b2
 rw[e2,Bool.false_or] at hq hk
 by_cases b3:c.num > 512
 ·rw[decide_eq_true b3] at hq
  have e3:=decide_eq_true b3
  repeat (first|with_reducible (refine q9 H ?_;constructor)|simp only[rB,rP,rQ,q8,qf,q7,qc,reduceIte,Nat.reduceLT,Nat.reduceEqDiff,pe3,pf3,zn,qd,qqn,qki,clL,qD,m1,m2,zX,zv,e1,e2,e3]|(with_reducible refine qj H ?_))
  exact hq 5 _ rfl hE hB2
 have e3:=decide_eq_false b3
 rw[e3] at hk
 simp only[cond_false] at hk
 clear hq
 obtain⟨o,ho⟩:∃ o,min c.off.toNat nd.data.length=o:=⟨_,rfl⟩
 obtain⟨n,hn'⟩:∃ n,min c.num.toNat (nd.data.length - o)=n:=⟨_,rfl⟩
 rw[ho,hn'] at hk
 have j1:(if (nd.data.length:Int) < c.off then (nd.data.length:Int) else c.off)=(o:Int):=by split <;> omega
 have j2:IntKind.i64.wrap ((nd.data.length:Int) - (o:Int))=((nd.data.length - o:Nat):Int):=by
  rw[show (nd.data.length:Int) - (o:Int)=((nd.data.length - o:Nat):Int) from by omega]
  exact qM (by omega)
 have j3:(if ((nd.data.length - o:Nat):Int) < c.num then ((nd.data.length - o:Nat):Int) else c.num)=(n:Int):=by split <;> omega
 have j4:=qk8 (n:=nd.data.length) (m:=nd.data.length) (QW (k:=.i64) (n:=o)) (by omega) (Nat.le_refl _)
 have j5:((nd.data.drop o).take (nd.data.length - o))=nd.data.drop o:=List.take_of_length_le (by simp)
 have j6:=WK (n:=(nd.data.drop o).length) (m:=(nd.data.drop o).length) (QW (k:=.i64) (n:=n)) (by simp;omega)
 have hq1:∀ x:List Nat,List.take (n - 0) (List.drop 0 x)=x.take n:=fun x=>by simp
 repeat (first|with_reducible (refine q9 H ?_;constructor)|simp only[rB,rP,rQ,q8,qf,q7,qc,reduceIte,Nat.reduceLT,Nat.reduceEqDiff,pe3,pf3,zn,qd,qqn,qki,YF,clL,qD,qA,hn,ndA,m1,m2,m3,m4,zX,zv,zj,e1,e2,e3,j1,j2,j3,qx,Xq,j4,j5,j6,hq1,q5e,Qj,zr,zb,zD,qY,Tryz.results97]|(with_reducible refine qv H ?_)|(with_reducible refine qq H (i:=2) (.take 0 (.take 1 (.take 2 (.take 3 (.take 4 (.take 5 (.take 6 (.take 7 (.take 8 (.done)))))))))) rfl (by kernel_rfl) ?_)|(with_reducible refine qq H (i:=3) (.take 0 (.take 1 (.take 2 (.take 3 (.take 4 (.take 5 (.take 6 (.take 7 (.take 8 (.take 9 (.take 10 (.take 11 (.take 12 (.take 13 (.take 14 (.take 15 (.take 16 (.take 17 (.done))))))))))))))))))) rfl (by kernel_rfl) ?_))
 refine hk _ _ rfl ⟨Nat.le_trans (Nat.le_succ _) (Nat.le_succ _),fun j hj=>?_⟩ (qe hB2 (by show s.nx+1 < s.nx+1+1;omega) _)
 exact (qa (by omega)).trans (hE.2 j hj)
def Y4 (data:List Nat) (n:Nat):List Nat:=bif Nat.ble n data.length then data.take n else data++qds [0] (n - data.length)
theorem qcc:∀ (n:Nat),(qds [0] n).length=n
 | 0=>(rfl)
 | n+1=>by simp[qds,qcc n]
theorem qay {data:List Nat} {n:Nat}:(Y4 data n).length=n:=by
 unfold Y4
 cases h:Nat.ble n data.length with
 | true=>simp only[cond_true,List.length_take];have:=Nat.le_of_ble_eq_true h;omega
 | false =>
  have:¬ n≤data.length:=fun hh=>by rw[Nat.ble_eq.mpr hh] at h;cases h
  simp only[cond_false,List.length_append,qcc];omega
theorem qyx {r:Tasks} {a:Ac} {dst:Option Tmp} {s:St} {k:Ac→St→Bool} {kp:AV→St→Bool} {n:Nat} (h:n≤1000000) :
  YQ pr3 r (.fn 136 []) [.str [0],.raw (.int .i64 (n:Int))] a dst s k kp=Q2 a dst (.str (qds [0] n)) s k:=by
 refine JU (pe3 (by decide)) ?_
 unfold pr3
 rw[Qb (by decide)]
 unfold pr2
 rw[Qb (by decide),Qb (by decide)]
 unfold pr1
 rw[Qb (by decide),Qb (by decide)]
 have e1:Nat.ble (1 * n) 1000000=true:=Nat.ble_eq.mpr (by omega)
 have e2:Nat.ble n 1000000=true:=Nat.ble_eq.mpr h
 show (bif Nat.ble (1 * n) 1000000&&Nat.ble n 1000000 then some (AV.str (qds [0] n),s) else none)=_
 rw[e1,e2]
 rfl
theorem qol {s:St} (H:Ok TE Tryz.prog pr3) {data:List Nat} {n:Nat} (hl:data.length≤40000) (hn:n≤2000) {kr kp:AV→St→Bool} (hk:kr (.str (Y4 data n)) s=true) :
  (sem Tryz.prog).call 106 [.str data,.raw (.int .i64 (n:Int))] s kr kp=true:=by
 refine qk H 19 q0s rfl rfl ?_
 unfold Y4 at hk
 by_cases h:n≤data.length
 ·rw[Nat.ble_eq.mpr h] at hk
  have e1:decide ((n:Int)≤(data.length:Int))=true:=by rw[decide_eq_true_eq];omega
  have e2:=WK (n:=data.length) (m:=data.length) (QW (k:=.i64) (n:=n)) h
  have e3:∀ x:List Nat,List.take (n - 0) (List.drop 0 x)=x.take n:=fun x=>by simp
  repeat (first|with_reducible (refine q9 H ?_;constructor)|simp only[rB,rP,rQ,q8,qf,q7,qc,reduceIte,Nat.reduceLT,Nat.reduceEqDiff,UInt8.reduceToNat,pe3,pf3,qx,J9,e1,Xq,e2,e3,Tryz.results106])
  exact hk
 ·have e0:Nat.ble n data.length=false:=by rw[← Bool.not_eq_true,Nat.ble_eq];exact h
  rw[e0] at hk
  have e1:decide ((n:Int)≤(data.length:Int))=false:=by rw[decide_eq_false_iff_not];omega
  have e2:IntKind.i64.wrap ((n:Int) - (data.length:Int))=((n - data.length:Nat):Int):=by
   rw[show (n:Int) - (data.length:Int)=((n - data.length:Nat):Int) from by omega]
   exact qM (by omega)
  have e3:=fun {r a dst k kp}=>qyx (r:=r) (a:=a) (dst:=dst) (s:=s) (k:=k) (kp:=kp) (n:=n - data.length) (by omega)
  have e4:=Ka (a:=data) (b:=qds [0] (n - data.length)) (by rw[qcc];omega)
  repeat (first|with_reducible (refine q9 H ?_;constructor)|simp only[rB,rP,rQ,q8,qf,q7,qc,reduceIte,Nat.reduceLT,Nat.reduceEqDiff,UInt8.reduceToNat,pe3,pf3,qx,J9,e1,zj,e2,e3,e4,Tryz.results106])
  exact hk
def Zt (data:List Nat) (off:Int) (wd:List Nat):List Nat ⊕ Nat:=bif decide (off < 0)||Nat.blt 512 wd.length then .inr 5 else bif decide (off > 1024 - (wd.length:Int)) then .inr 9 else
 bif Nat.blt 0 wd.length then .inl (Y4 data off.toNat++wd++data.drop (min data.length (off.toNat+wd.length))) else .inl data
theorem qvs {n:Int}:Qq TE 38 [(1,.raw (.int .i64 n))]=some (.agg (anL 0 n 0 0 [] nilS)):=by kernel_rfl
def JT (s s':St) (i:Nat) (o:AO):Prop:=s.nx≤s'.nx∧s'.h.get i=some o∧∀ j,j < s.nx→j≠i→s'.h.get j=s.h.get j
theorem qoc {s:St} (H:Ok TE Tryz.prog pr3) (hB:qb s) {i:Nat} {nd:Nd} (hn:s.h.get i=some (ndA nd)) (hl:nd.data.length≤40000) {c:Cl} (hw:c.data.length≤10000000000000000000) {kr kp:AV→St→Bool}
  (hk:∀ d s',Zt nd.data c.off c.data=.inl d→JT s s' i (ndA { nd with data:=d })→qb s'→kr (.agg (anL 0 (c.data.length:Int) 0 0 [] nilS)) s'=true) (hq:∀ n s',Zt nd.data c.off c.data=.inr n→Ext s s'→qb s'→kp (.iface 110 (.raw (.int .i64 ((n:Nat):Int)))) s'=true) :
  (sem Tryz.prog).call 105 [.ptr i 0,.agg (clL c)] s kr kp=true:=by
 refine qk H 58 q0p rfl rfl ?_
 have hi:=hB i _ hn
 have m1:(s.nx=s.nx+1)=False:=by simp
 have m2:(s.nx+1=s.nx)=False:=by simp
 have m3:(i=s.nx)=False:=by simp;omega
 have m4:(i=s.nx+1)=False:=by simp;omega
 have m5:(s.nx=i)=False:=by simp;omega
 have m6:(s.nx+1=i)=False:=by simp;omega
 have hE:Ext s ((s.alloc (.cells (clL c) 41 0)).alloc (.cells (anL 0 0 0 0 [] nilS) 38 0)):=(Ext.alloc s _).trans (Ext.alloc _ _)
 have hB2:=qg (qg hB (.cells (clL c) 41 0)) (.cells (anL 0 0 0 0 [] nilS) 38 0)
 unfold Zt at hk hq
 by_cases b1:c.off < 0
 ·rw[decide_eq_true b1,Bool.true_or] at hq
  have e1:=decide_eq_true b1
  repeat (first|with_reducible (refine q9 H ?_;constructor)|simp only[rB,rP,rQ,q8,qf,q7,qc,reduceIte,Nat.reduceLT,Nat.reduceEqDiff,UInt8.reduceToNat,pe3,pf3,zn,qd,qqn,qcg,clL,qD,qA,qx,m1,m2,zX,zv,e1]|(with_reducible refine qj H ?_))
  exact hq 5 _ rfl hE hB2
 have e1:=decide_eq_false b1
 rw[e1,Bool.false_or] at hq hk
 by_cases b2:512 < c.data.length
 ·rw[Nat.blt_eq.mpr b2] at hq
  have e2:decide ((c.data.length:Int) > 512)=true:=by rw[decide_eq_true_eq];omega
  repeat (first|with_reducible (refine q9 H ?_;constructor)|simp only[rB,rP,rQ,q8,qf,q7,qc,reduceIte,Nat.reduceLT,Nat.reduceEqDiff,UInt8.reduceToNat,pe3,pf3,zn,qd,qqn,qcg,clL,qD,qA,qx,m1,m2,zX,zv,e1,e2]|(with_reducible refine qj H ?_))
  exact hq 5 _ rfl hE hB2
 have e2:decide ((c.data.length:Int) > 512)=false:=by rw[decide_eq_false_iff_not];omega
 have e2':Nat.blt 512 c.data.length=false:=by rw[← Bool.not_eq_true,Nat.blt_eq];exact b2
 rw[e2'] at hq hk
 simp only[cond_false] at hq hk
 have ew:IntKind.i64.wrap (1024 - (c.data.length:Int))=1024 - (c.data.length:Int):=Go.IntWalk.i64_in _ (by omega)
 by_cases b3:c.off > 1024 - (c.data.length:Int)
 ·rw[decide_eq_true b3] at hq
  have e3:=decide_eq_true b3
  repeat (first|with_reducible (refine q9 H ?_;constructor)|simp only[rB,rP,rQ,q8,qf,q7,qc,reduceIte,Nat.reduceLT,Nat.reduceEqDiff,UInt8.reduceToNat,pe3,pf3,zn,qd,qqn,qcg,clL,qD,qA,qx,m1,m2,zX,zv,zj,e1,e2,ew,e3]|(with_reducible refine qv H ?_)|(with_reducible refine qj H ?_))
  exact hq 9 _ rfl hE hB2
 have e3:=decide_eq_false b3
 rw[e3] at hk
 simp only[cond_false] at hk
 clear hq
 by_cases b4:0 < c.data.length
 ·rw[Nat.blt_eq.mpr b4] at hk
  simp only[cond_true] at hk
  have e4:decide ((c.data.length:Int) > 0)=true:=by rw[decide_eq_true_eq];omega
  obtain⟨o,ho⟩:∃ o:Nat,c.off=(o:Int):=⟨c.off.toNat,by omega⟩
  have ho':c.off.toNat=o:=by omega
  rw[ho'] at hk
  rw[ho] at e1 e3 b1 b3
  have j1:IntKind.i64.wrap ((o:Int)+(c.data.length:Int))=((o+c.data.length:Nat):Int):=by
   rw[show (o:Int)+(c.data.length:Int)=((o+c.data.length:Nat):Int) from by simp]
   exact qM (by omega)
  obtain⟨q,hq⟩:∃ q,min nd.data.length (o+c.data.length)=q:=⟨_,rfl⟩
  rw[hq] at hk
  have j2:(if ((o+c.data.length:Nat):Int) < (nd.data.length:Int) then ((o+c.data.length:Nat):Int) else (nd.data.length:Int))=(q:Int):=by split <;> omega
  have j3:=qk8 (n:=nd.data.length) (m:=nd.data.length) (QW (k:=.i64) (n:=q)) (by omega) (Nat.le_refl _)
  have j4:((nd.data.drop q).take (nd.data.length - q))=nd.data.drop q:=List.take_of_length_le (by simp)
  have hsl:(Y4 nd.data o).length=o:=qay
  have j5:=Ka (a:=Y4 nd.data o) (b:=c.data) (by omega)
  have j6:=Ka (a:=Y4 nd.data o++c.data) (b:=nd.data.drop q) (by simp;omega)
  repeat (first|with_reducible (refine q9 H ?_;constructor)|simp only[rB,rP,rQ,q8,qf,q7,qc,reduceIte,Nat.reduceLT,Nat.reduceEqDiff,UInt8.reduceToNat,pe3,pf3,zn,qd,qqn,qcg,YF,clL,ho,qD,qA,hn,ndA,m1,m2,m3,m4,m5,m6,zX,zv,zj,qO,e1,e2,ew,e3,e4,j1,j2,qx,Xq,j3,j4,j5,j6,JS,qvs,Qj,zr,zb,zD,qY,Tryz.results105]|(with_reducible refine qv H ?_)|(with_reducible refine qq H (i:=5) (.take 0 (.take 1 (.take 2 (.take 3 (.take 4 (.take 5 (.take 6 (.take 7 (.take 8 (.take 9 (.take 10 (.take 11 (.take 12 (.take 13 (.take 14 (.take 15 (.done))))))))))))))))) rfl (by kernel_rfl) ?_)|(with_reducible refine qq H (i:=6) (.take 0 (.take 1 (.take 2 (.take 3 (.take 4 (.take 5 (.take 6 (.take 8 (.take 9 (.take 11 (.alt 7 [1,2,3,4,5,6] (.take 10 (.take 12 (.take 13 (.take 14 (.alt 15 [0,1,2,3,4,5,6,7,8,9,10,11,12,13,14] (.done) (.yes)))))) (.yes)))))))))))) rfl (by kernel_rfl) ?_)|(with_reducible refine qol H hl (by omega) ?_))
  refine hk _ _ rfl ⟨?_,?_,?_⟩ ?_
  ·show s.nx≤s.nx+1+1;omega
  ·exact (qa (by omega)).trans hs_same
  ·intro j hj hji
   exact (qa (by omega)).trans ((qa hji).trans ((zm (by show j≠s.nx+1;omega)).trans (zm (by omega))))
  ·exact qe (qe (qg (qg hB _) _) (by show i < s.nx+1+1;omega) _) (by show s.nx+1 < s.nx+1+1;omega) _
 ·have e4':Nat.blt 0 c.data.length=false:=by rw[← Bool.not_eq_true,Nat.blt_eq];exact b4
  rw[e4'] at hk
  simp only[cond_false] at hk
  have e4:decide ((c.data.length:Int) > 0)=false:=by rw[decide_eq_false_iff_not];omega
  repeat (first|with_reducible (refine q9 H ?_;constructor)|simp only[rB,rP,rQ,q8,qf,q7,qc,reduceIte,Nat.reduceLT,Nat.reduceEqDiff,UInt8.reduceToNat,pe3,pf3,zn,qd,qqn,qcg,clL,qD,qA,m1,m2,zX,zv,zj,e1,e2,ew,e3,e4,qx,qvs,Qj,zr,zb,zD,qY,Tryz.results105]|(with_reducible refine qv H ?_))
  refine hk _ _ rfl ⟨?_,?_,?_⟩ ?_
  ·show s.nx≤s.nx+1+1;omega
  ·exact (qa (by omega)).trans ((zm (by show i≠s.nx+1;omega)).trans ((zm (by omega)).trans hn))
  ·intro j hj hji
   exact (qa (by omega)).trans ((zm (by show j≠s.nx+1;omega)).trans (zm (by omega)))
  ·exact qe (qg (qg hB _) _) (by show s.nx+1 < s.nx+1+1;omega) _
def ZD (kids:List (List Nat × Nat)):Option (List (List Nat)):=bif qlh (Q0 (kids.map (·.1)))&&Nat.ble (Q0 (kids.map (·.1))).length 1000000&&J5 (Q0 (kids.map (·.1))) then some (Q0 (kids.map (·.1))) else none
theorem qbp:∀ (l:List (List Nat × Nat)),qch (qL l)=some (l.map (·.1))
 | []=>(rfl)
 | (q,j)::l=>by
  have ih:=qbp l
  simp only[qL] at ih
  simp only[qL,List.map_cons,qch,ih]
theorem qkm {x:List Nat}:∀ {l:List (List Nat)},Zc x l≠[]
 | []=>by simp[Zc]
 | y::l=>by simp only[Zc];cases ltB x y <;> simp
theorem qpa {r:Tasks} {a:Ac} {dst:Option Tmp} {s:St} {k:Ac→St→Bool} {kp:AV→St→Bool} {id mp el:Nat} {kids:List (List Nat × Nat)} {names:List (List Nat)} (h1:s.h.get id=some (.cells [.map mp] el 0)) (h2:s.h.get mp=some (.map (qL kids))) (h3:ZD kids=some names) :
  YQ pr3 r (.fn 133 []) [.fn 153 [.ptr id 0]] a dst s k kp=Q2 a dst (Xw 9 names s).1 (Xw 9 names s).2 k:=by
 refine JU (pe3 (by decide)) ?_
 unfold pr3
 rw[Qb (by decide)]
 unfold pr2
 rw[Qb (by decide),Qb (by decide)]
 unfold pr1
 rw[Qb (by decide),Qb (by decide)]
 show (match s.h.get id with
   | some (.cells [.map m] _ 0)=>match s.h.get m with
    | some (.map es)=>match qch es with
     | some []=>some (AV.raw (.slice none 0 0),s)
     | some ks=>KR pn s (Q0 ks)
     | none=>none
    | _=>none
   | _=>none)=_
 rw[h1]
 simp only[h2,qbp]
 unfold ZD at h3
 cases kids with
 | nil =>
  cases h3
  rfl
 | cons q l =>
  simp only[List.map_cons] at h3 ⊢
  generalize hS:Q0 (q.1::l.map (·.1))=S at h3 ⊢
  have hne:S≠[]:=by rw[← hS];exact qkm
  cases hc:(qlh S&&Nat.ble S.length 1000000&&J5 S) with
  | false=>rw[hc] at h3;cases h3
  | true =>
   rw[hc] at h3
   simp only[cond_true,Option.some.injEq] at h3
   subst h3
   simp only[KR,hc,cond_true,qm1 hne]
   rfl
theorem q0b {s:St} (H:Ok TE Tryz.prog pr3) {mp:Nat} {kr kp:AV→St→Bool} (hk:kr (.fn 153 [.ptr s.nx 0]) (s.alloc (.cells [.map mp] 115 0))=true) :
  (sem Tryz.prog).call 134 [.map mp] s kr kp=true:=by
 refine qk H 4 q0t rfl rfl ?_
 repeat (first|with_reducible (refine q9 H ?_;constructor)|simp only[rB,rQ,reduceIte,Nat.reduceLT,Nat.reduceEqDiff,Tryz.results134])
 exact hk
theorem qg3 {s:St} (H:Ok TE Tryz.prog pr3) (hB:qb s) {i:Nat} {nd:Nd} (hn:qfz s i nd) {names:List (List Nat)} (h3:ZD nd.kids=some names) {kr kp:AV→St→Bool} (hk:∀ V s',SlV s' V names→Ext s s'→qb s'→kr V s'=true) :
  (sem Tryz.prog).call 98 [.ptr i 0] s kr kp=true:=by
 refine qk H 9 q6y rfl rfl ?_
 have hn1:=hn.1
 have hmp:=hB _ _ hn.2
 have es:=fun {r a dst k kp}=>qpa (r:=r) (a:=a) (dst:=dst) (k:=k) (kp:=kp) (s:=s.alloc (.cells [.map nd.mp] 115 0)) (id:=s.nx) (mp:=nd.mp) qt ((zm (by omega)).trans hn.2) h3
 repeat (first|with_reducible (refine q9 H ?_;constructor)|simp only[rB,rQ,reduceIte,Nat.reduceLT,Nat.reduceEqDiff,pe3,pf3,Q8,qI,hn1,ndA]|(with_reducible refine q0b H ?_))
 repeat (first|with_reducible (refine q9 H ?_;constructor)|simp only[rB,rQ,reduceIte,Nat.reduceLT,Nat.reduceEqDiff,pe3,pf3,es,Tryz.results98])
 exact hk _ _ SlV.mk ((Ext.alloc s _).trans J2) (Z6 (qg hB _))
theorem qhc {s:St} {mp:Nat} {kids:List (List Nat × Nat)} (h:s.h.get mp=some (.map (qL kids))):Qv TE s [115] [.map mp]=some (.raw (.int .i64 (kids.length:Int))):=by
 have e:Qv TE s [115] [.map mp]=(match JQ s (.map mp) with|some es=>some (qf es.length)|none=>none):=by kernel_rfl
 rw[e]
 simp only[JQ,h,qL,List.length_map,qf]
theorem q2d {a b c:Int}:Qq TE 38 [(2,.raw (.int .i64 a)),(3,.raw (.int .i64 b)),(1,.raw (.int .i64 c))]=some (.agg (anL 0 c a b [] nilS)):=by kernel_rfl
theorem q5b {d:List Nat}:Qq TE 38 [(4,.str d)]=some (.agg (anL 0 0 0 0 d nilS)):=by kernel_rfl
theorem q4r {V:AV} (h:V.cells=[V]):Qq TE 38 [(5,V)]=some (.agg (anL 0 0 0 0 [] V)):=by
 have hz:∀ W:AV,Qq TE 38 [(5,W)]=(bif Nat.beq W.cells.length 1&&true then (match JF (anL 0 0 0 0 [] nilS) 5 W.cells with|some cs=>some (.agg cs)|none=>none) else none):=by
  intro W
  have:Qq TE 38 [(5,W)]=(match (bif Nat.beq W.cells.length 1&&true then (match JF (anL 0 0 0 0 [] nilS) 5 W.cells with|some cs'=>some cs'|none=>none) else none) with|some cs=>some (.agg cs)|none=>none):=by kernel_rfl
  rw[this]
  cases Nat.beq W.cells.length 1
  ·rfl
  ·simp only[Bool.and_self,cond_true]
   cases JF (anL 0 0 0 0 [] nilS) 5 W.cells <;> rfl
 rw[hz,h]
 rfl
def qcj (nd:Nd):Int:=bif decide (nd.kind=1) then (nd.kids.length:Int) else (nd.data.length:Int)
theorem qpg {s:St} (H:Ok TE Tryz.prog pr3) {T:zi} (hT:RepT s T) (hB:qb s) {x root cwd:Nat} {tl:List AV} (hx:s.h.get x=some (.cells (.ptr root 0::.ptr cwd 0::tl) 120 0)) {c:Cl} (hop:c.op=1) {out:Nat ⊕ Nat} (hf:zE T root cwd c.path false=some out) (ht:∀ n,out=.inl n→∃ nd,T n=some nd)
  {kr kp:AV→St→Bool} (hk:∀ n nd s',out=.inl n→T n=some nd→Ext s s'→qb s'→kr (.agg (anL 0 (qcj nd) nd.kind nd.mode [] nilS)) s'=true) (hq:∀ n s',out=.inr n→Ext s s'→qb s'→kp (.iface 110 (.raw (.int .i64 ((n:Nat):Int)))) s'=true) :
  (sem Tryz.prog).call 59 [.ptr x 0,.agg (clL c)] s kr kp=true:=by
 refine qk H 81 qq8 rfl rfl ?_
 have m1:(s.nx=s.nx+1)=False:=by simp
 have m2:(s.nx+1=s.nx)=False:=by simp
 have hE:Ext s ((s.alloc (.cells (clL c) 41 0)).alloc (.cells (anL 0 0 0 0 [] nilS) 38 0)):=(Ext.alloc s _).trans (Ext.alloc _ _)
 have hB2:=qg (qg hB (.cells (clL c) 41 0)) (.cells (anL 0 0 0 0 [] nilS) 38 0)
 have hT2:=hT.ext hB hE
 have hx2:=(hE.2 x (hB x _ hx)).trans hx
 have o1:((1:Int)==2)=false:=rfl
 have o2:((1:Int)==3)=false:=rfl
 have o3:((1:Int)==1)=true:=rfl
 have ecl:clL c=[.raw (.int .i64 1),.str c.path,.str c.path2,.raw (.int .i64 c.fd),.raw (.int .i64 c.off),.raw (.int .i64 c.num),.raw (.int .i64 c.mode),.str c.data]:=by unfold clL;rw[hop]
 rw[ecl] at hE hB2 hT2 hx2 ⊢
 repeat (first|with_reducible (refine q9 H ?_;constructor)|simp only[rB,rP,rQ,q8,qf,q7,qc,reduceIte,Nat.reduceAdd,Nat.reduceLT,Nat.reduceEqDiff,pe3,pf3,zn,qd,QD,qjk,qD,qA,m1,m2,qh,o1,o2])
 refine Xv H hT2 hB2 hx2 hf (fun n s1 h1 h2 h3=>?_) (fun n s1 h1 h2 h3=>?_)
 ·obtain⟨nd,hnd⟩:=ht n h1
  obtain⟨hn,hm⟩:=(hT2.ext hB2 h2) n nd hnd
  have lm:=qhc hm
  have c0:s1.h.get s.nx=some (.cells [.raw (.int .i64 1),.str c.path,.str c.path2,.raw (.int .i64 c.fd),.raw (.int .i64 c.off),.raw (.int .i64 c.num),.raw (.int .i64 c.mode),.str c.data] 41 0):=(h2.2 s.nx (by show s.nx < s.nx+1+1;omega)).trans ((zm (by show s.nx≠s.nx+1;omega)).trans qt)
  have c1:s1.h.get (s.nx+1)=some (.cells (anL 0 0 0 0 [] nilS) 38 0):=(h2.2 (s.nx+1) (by show s.nx+1 < s.nx+1+1;omega)).trans qt
  have hlt:=h3 _ _ c1
  have fin:∀ o,Ext s { s1 with h:=s1.h.set (s.nx+1) o }:=fun o=>⟨Nat.le_trans hE.1 h2.1,fun j hj=>(qa (by omega)).trans ((h2.2 j (Nat.lt_of_lt_of_le hj hE.1)).trans (hE.2 j hj))⟩
  by_cases hd:nd.kind=1
  ·have k1:(nd.kind==1)=true:=by rw[hd];rfl
   have hst:qcj nd=(nd.kids.length:Int):=by unfold qcj;rw[decide_eq_true hd];rfl
   repeat (first|with_reducible (refine q9 H ?_;constructor)|simp only[rB,rP,rQ,q8,qf,q7,qc,reduceIte,Nat.reduceAdd,Nat.reduceLT,Nat.reduceEqDiff,pe3,pf3,QD,qD,qA,qI,c0,c1,qh,o3,Qe,JV,YF,Q8,hn,hm,ndA,k1,qx,lm,q2d,Qj,zr,zb,zD,qY,Tryz.results59]|(with_reducible refine qq H (i:=7) (.take 0 (.take 1 (.take 2 (.take 3 (.take 4 (.take 5 (.take 6 (.take 7 (.take 8 (.take 9 (.alt 10 [0,1,2,3,4,5,6,7,8,9] (.done) (.yes)))))))))))) rfl (by kernel_rfl) ?_))
   rw[← hst]
   exact hk n nd _ h1 hnd (fin _) (qe h3 hlt _)
  ·have k1:(nd.kind==1)=false:=by rw[beq_eq_false_iff_ne];exact hd
   have hst:qcj nd=(nd.data.length:Int):=by unfold qcj;rw[decide_eq_false hd];rfl
   repeat (first|with_reducible (refine q9 H ?_;constructor)|simp only[rB,rP,rQ,q8,qf,q7,qc,reduceIte,Nat.reduceAdd,Nat.reduceLT,Nat.reduceEqDiff,pe3,pf3,QD,qD,qA,c0,c1,qh,o3,Qe,JV,YF,Q8,hn,ndA,k1,qx,q2d,Qj,zr,zb,zD,qY,Tryz.results59]|(with_reducible refine qq H (i:=7) (.take 0 (.take 1 (.take 2 (.take 3 (.take 4 (.take 5 (.take 6 (.take 7 (.take 8 (.take 9 (.alt 10 [0,1,2,3,4,5,6,7,8,9] (.done) (.yes)))))))))))) rfl (by kernel_rfl) ?_))
   rw[← hst]
   exact hk n nd _ h1 hnd (fin _) (qe h3 hlt _)
 ·repeat (first|with_reducible (refine q9 H ?_;constructor)|simp only[rB,rP,rQ,q8,qf,q7,qc,reduceIte,Nat.reduceAdd,Nat.reduceLT,Nat.reduceEqDiff,pe3,pf3])
  exact hq n s1 h1 (hE.trans h2) h3
theorem SlV.setA {s:St} {V:AV} {names:List (List Nat)} (h:SlV s V names) {j:Nat} {st n k m:Int} {d:List Nat} {N:AV} {o:AO} (hj:s.h.get j=some (.cells (anL st n k m d N) 38 0)):SlV { s with h:=s.h.set j o } V names:=by
 rcases h with h|h|⟨id,off,ci,cap,ex,cs,fz,h1,h2,h3⟩
 ·exact Or.inl h
 ·exact Or.inr (Or.inl h)
 ·refine Or.inr (Or.inr ⟨id,off,ci,cap,ex,cs,fz,h1,(qa ?_).trans h2,h3⟩)
  intro hh
  rw[hh,hj] at h2
  simp at h2
theorem qmm {s:St} (H:Ok TE Tryz.prog pr3) {T:zi} (hT:RepT s T) (hB:qb s) {x root cwd:Nat} {tl:List AV} (hx:s.h.get x=some (.cells (.ptr root 0::.ptr cwd 0::tl) 120 0)) {c:Cl} (hop:c.op=2) {out:Nat ⊕ Nat} (hf:zE T root cwd c.path true=some out) (ht:∀ n,out=.inl n→∃ nd,T n=some nd) (hl:∀ n nd,T n=some nd→nd.data.length≤1000000)
  {kr kp:AV→St→Bool} (hk4:∀ n nd s',out=.inl n→T n=some nd→nd.kind=1→Ext s s'→qb s'→kp (.iface 110 (.raw (.int .i64 4))) s'=true)
  (hk:∀ n nd d s',out=.inl n→T n=some nd→nd.kind≠1→Jf nd.data c.off c.num=.inl d→Ext s s'→qb s'→kr (.agg (anL 0 (d.length:Int) 0 0 d nilS)) s'=true)
  (hk5:∀ n nd e s',out=.inl n→T n=some nd→nd.kind≠1→Jf nd.data c.off c.num=.inr e→Ext s s'→qb s'→kp (.iface 110 (.raw (.int .i64 ((e:Nat):Int)))) s'=true)
  (hq:∀ n s',out=.inr n→Ext s s'→qb s'→kp (.iface 110 (.raw (.int .i64 ((n:Nat):Int)))) s'=true) :
  (sem Tryz.prog).call 59 [.ptr x 0,.agg (clL c)] s kr kp=true:=by
 refine qk H 81 qq8 rfl rfl ?_
 have m1:(s.nx=s.nx+1)=False:=by simp
 have m2:(s.nx+1=s.nx)=False:=by simp
 have hE:Ext s ((s.alloc (.cells (clL c) 41 0)).alloc (.cells (anL 0 0 0 0 [] nilS) 38 0)):=(Ext.alloc s _).trans (Ext.alloc _ _)
 have hB2:=qg (qg hB (.cells (clL c) 41 0)) (.cells (anL 0 0 0 0 [] nilS) 38 0)
 have hT2:=hT.ext hB hE
 have hx2:=(hE.2 x (hB x _ hx)).trans hx
 have o1:((2:Int)==2)=true:=rfl
 have o2:((2:Int)==3)=false:=rfl
 have o3:((2:Int)==1)=false:=rfl
 have ecl:clL c=[.raw (.int .i64 2),.str c.path,.str c.path2,.raw (.int .i64 c.fd),.raw (.int .i64 c.off),.raw (.int .i64 c.num),.raw (.int .i64 c.mode),.str c.data]:=by unfold clL;rw[hop]
 rw[ecl] at hE hB2 hT2 hx2 ⊢
 repeat (first|with_reducible (refine q9 H ?_;constructor)|simp only[rB,rQ,q8,q7,qc,reduceIte,Nat.reduceAdd,Nat.reduceLT,Nat.reduceEqDiff,pe3,pf3,zn,qd,QD,qjk,qD,qA,m1,m2,qh,o1,o2])
 refine Xv H hT2 hB2 hx2 hf (fun n s1 h1 h2 h3=>?_) (fun n s1 h1 h2 h3=>?_)
 ·obtain⟨nd,hnd⟩:=ht n h1
  obtain⟨hn,hm⟩:=(hT2.ext hB2 h2) n nd hnd
  have c0:s1.h.get s.nx=some (.cells [.raw (.int .i64 2),.str c.path,.str c.path2,.raw (.int .i64 c.fd),.raw (.int .i64 c.off),.raw (.int .i64 c.num),.raw (.int .i64 c.mode),.str c.data] 41 0):=(h2.2 s.nx (by show s.nx < s.nx+1+1;omega)).trans ((zm (by show s.nx≠s.nx+1;omega)).trans qt)
  have c1:s1.h.get (s.nx+1)=some (.cells (anL 0 0 0 0 [] nilS) 38 0):=(h2.2 (s.nx+1) (by show s.nx+1 < s.nx+1+1;omega)).trans qt
  have hlt:=h3 _ _ c1
  have hE1:=hE.trans h2
  have fin:∀ (s2:St) o,Ext s1 s2→Ext s { s2 with h:=s2.h.set (s.nx+1) o }:=fun s2 o he=>⟨Nat.le_trans hE1.1 he.1,fun j hj=>(qa (by omega)).trans ((hE1.trans he).2 j hj)⟩
  by_cases hd:nd.kind=1
  ·have k1:(nd.kind==1)=true:=by rw[hd];rfl
   repeat (first|with_reducible (refine q9 H ?_;constructor)|simp only[rB,rQ,q8,q7,qc,reduceIte,Nat.reduceAdd,Nat.reduceLT,Nat.reduceEqDiff,pe3,pf3,QD,qD,qA,c0,c1,qh,qB,o1,o2,o3,Qe,JV,YF,Q8,hn,ndA,k1]|(with_reducible refine qj H ?_))
   exact hk4 n nd s1 h1 hnd hd hE1 h3
  ·have k1:(nd.kind==1)=false:=by rw[beq_eq_false_iff_ne];exact hd
   repeat (first|with_reducible (refine q9 H ?_;constructor)|simp only[rB,rQ,q8,q7,qc,reduceIte,Nat.reduceAdd,Nat.reduceLT,Nat.reduceEqDiff,pe3,pf3,QD,qD,qA,c0,c1,qh,qB,o1,o2,o3,Qe,JV,YF,Q8,hn,ndA,k1,Kd,J3]|(with_reducible refine qv H ?_))
   rw[← ecl]
   refine qtk H h3 hn (hl n nd hnd) (fun d s2 r1 r2 r3=>?_) (fun e s2 r1 r2 r3=>?_)
   ·have c2:=(r2.2 _ hlt).trans c1
    repeat (first|with_reducible (refine q9 H ?_;constructor)|simp only[rB,rQ,q8,q7,qc,reduceIte,Nat.reduceAdd,Nat.reduceLT,Nat.reduceEqDiff,pe3,pf3,c2,Qj,zr,zb,zD,qY,Tryz.results59])
    exact hk n nd d _ h1 hnd hd r1 (fin s2 _ r2) (qe r3 (r3 _ _ c2) _)
   ·repeat (first|with_reducible (refine q9 H ?_;constructor)|simp only[rB,rQ,q8,q7,qc,reduceIte,Nat.reduceAdd,Nat.reduceLT,Nat.reduceEqDiff,pe3,pf3])
    exact hk5 n nd e s2 h1 hnd hd r1 (hE1.trans r2) r3
 ·repeat (first|with_reducible (refine q9 H ?_;constructor)|simp only[rB,rQ,q8,q7,qc,reduceIte,Nat.reduceAdd,Nat.reduceLT,Nat.reduceEqDiff,pe3,pf3])
  exact hq n s1 h1 (hE.trans h2) h3
theorem qpe {s:St} (H:Ok TE Tryz.prog pr3) {T:zi} (hT:RepT s T) (hB:qb s) {x root cwd:Nat} {tl:List AV} (hx:s.h.get x=some (.cells (.ptr root 0::.ptr cwd 0::tl) 120 0)) {c:Cl} (hop:c.op=3) {out:Nat ⊕ Nat} (hf:zE T root cwd c.path true=some out) (ht:∀ n,out=.inl n→∃ nd,T n=some nd) (hs:∀ n nd,T n=some nd→∃ nm,ZD nd.kids=some nm)
  {kr kp:AV→St→Bool} (hk3:∀ n nd s',out=.inl n→T n=some nd→nd.kind≠1→Ext s s'→qb s'→kp (.iface 110 (.raw (.int .i64 3))) s'=true)
  (hk:∀ n nd nm V s',out=.inl n→T n=some nd→nd.kind=1→ZD nd.kids=some nm→SlV s' V nm→Ext s s'→qb s'→kr (.agg (anL 0 0 0 0 [] V)) s'=true)
  (hq:∀ n s',out=.inr n→Ext s s'→qb s'→kp (.iface 110 (.raw (.int .i64 ((n:Nat):Int)))) s'=true) :
  (sem Tryz.prog).call 59 [.ptr x 0,.agg (clL c)] s kr kp=true:=by
 refine qk H 81 qq8 rfl rfl ?_
 have m1:(s.nx=s.nx+1)=False:=by simp
 have m2:(s.nx+1=s.nx)=False:=by simp
 have hE:Ext s ((s.alloc (.cells (clL c) 41 0)).alloc (.cells (anL 0 0 0 0 [] nilS) 38 0)):=(Ext.alloc s _).trans (Ext.alloc _ _)
 have hB2:=qg (qg hB (.cells (clL c) 41 0)) (.cells (anL 0 0 0 0 [] nilS) 38 0)
 have hT2:=hT.ext hB hE
 have hx2:=(hE.2 x (hB x _ hx)).trans hx
 have o1:((3:Int)==2)=false:=rfl
 have o2:((3:Int)==3)=true:=rfl
 have o3:((3:Int)==1)=false:=rfl
 have ecl:clL c=[.raw (.int .i64 3),.str c.path,.str c.path2,.raw (.int .i64 c.fd),.raw (.int .i64 c.off),.raw (.int .i64 c.num),.raw (.int .i64 c.mode),.str c.data]:=by unfold clL;rw[hop]
 rw[ecl] at hE hB2 hT2 hx2 ⊢
 repeat (first|with_reducible (refine q9 H ?_;constructor)|simp only[rB,rQ,q8,q7,qc,reduceIte,Nat.reduceAdd,Nat.reduceLT,Nat.reduceEqDiff,pe3,pf3,zn,qd,QD,qjk,qD,qA,m1,m2,qh,o1,o2])
 refine Xv H hT2 hB2 hx2 hf (fun n s1 h1 h2 h3=>?_) (fun n s1 h1 h2 h3=>?_)
 ·obtain⟨nd,hnd⟩:=ht n h1
  obtain⟨hn,hm⟩:=(hT2.ext hB2 h2) n nd hnd
  have c0:s1.h.get s.nx=some (.cells [.raw (.int .i64 3),.str c.path,.str c.path2,.raw (.int .i64 c.fd),.raw (.int .i64 c.off),.raw (.int .i64 c.num),.raw (.int .i64 c.mode),.str c.data] 41 0):=(h2.2 s.nx (by show s.nx < s.nx+1+1;omega)).trans ((zm (by show s.nx≠s.nx+1;omega)).trans qt)
  have c1:s1.h.get (s.nx+1)=some (.cells (anL 0 0 0 0 [] nilS) 38 0):=(h2.2 (s.nx+1) (by show s.nx+1 < s.nx+1+1;omega)).trans qt
  have hlt:=h3 _ _ c1
  have hE1:=hE.trans h2
  have fin:∀ (s2:St) o,Ext s1 s2→Ext s { s2 with h:=s2.h.set (s.nx+1) o }:=fun s2 o he=>⟨Nat.le_trans hE1.1 he.1,fun j hj=>(qa (by omega)).trans ((hE1.trans he).2 j hj)⟩
  by_cases hd:nd.kind=1
  ·have k1:(nd.kind != 1)=false:=by rw[hd];rfl
   repeat (first|with_reducible (refine q9 H ?_;constructor)|simp only[rB,rQ,q8,q7,qc,reduceIte,Nat.reduceAdd,Nat.reduceLT,Nat.reduceEqDiff,pe3,pf3,QD,qD,qA,c0,c1,qh,qB,o1,o2,o3,Qe,JV,YF,Q8,hn,ndA,k1]|(with_reducible refine qv H ?_))
   obtain⟨nm,hnm⟩:=hs n nd hnd
   refine qg3 H h3 ⟨hn,hm⟩ hnm (fun V s2 r1 r2 r3=>?_)
   have c2:=(r2.2 _ hlt).trans c1
   have bn:=q4r r1.cells1.1
   repeat (first|with_reducible (refine q9 H ?_;constructor)|simp only[rB,rQ,q8,q7,qc,reduceIte,Nat.reduceAdd,Nat.reduceLT,Nat.reduceEqDiff,pe3,pf3,c2,bn,Qj r1.cells1.2,zr,zD,qY,Tryz.results59])
   refine hk n nd nm V _ h1 hnd hd hnm ?_ (fin s2 _ r2) (qe r3 (r3 _ _ c2) _)
   exact r1.setA c2
  ·have k1:(nd.kind != 1)=true:=by rw[bne_iff_ne];exact hd
   repeat (first|with_reducible (refine q9 H ?_;constructor)|simp only[rB,rQ,q8,q7,qc,reduceIte,Nat.reduceAdd,Nat.reduceLT,Nat.reduceEqDiff,pe3,pf3,QD,qD,qA,c0,c1,qh,qB,o1,o2,o3,Qe,JV,YF,Q8,hn,ndA,k1]|(with_reducible refine qj H ?_))
   exact hk3 n nd s1 h1 hnd hd hE1 h3
 ·repeat (first|with_reducible (refine q9 H ?_;constructor)|simp only[rB,rQ,q8,q7,qc,reduceIte,Nat.reduceAdd,Nat.reduceLT,Nat.reduceEqDiff,pe3,pf3])
  exact hq n s1 h1 (hE.trans h2) h3
theorem qnd {s:St} (H:Ok TE Tryz.prog pr3) {T:zi} (hT:RepT s T) (hB:qb s) {x root cwd:Nat} {tl:List AV} (hx:s.h.get x=some (.cells (.ptr root 0::.ptr cwd 0::tl) 120 0)) {c:Cl} (hop:c.op=4) {out:Nat ⊕ Nat} (hf:zE T root cwd c.path false=some out) (ht:∀ n,out=.inl n→∃ nd,T n=some nd)
  {kr kp:AV→St→Bool} (hk5:∀ n nd s',out=.inl n→T n=some nd→nd.kind≠3→Ext s s'→qb s'→kp (.iface 110 (.raw (.int .i64 5))) s'=true)
  (hk:∀ n nd s',out=.inl n→T n=some nd→nd.kind=3→Ext s s'→qb s'→kr (.agg (anL 0 0 0 0 nd.data nilS)) s'=true)
  (hq:∀ n s',out=.inr n→Ext s s'→qb s'→kp (.iface 110 (.raw (.int .i64 ((n:Nat):Int)))) s'=true) :
  (sem Tryz.prog).call 59 [.ptr x 0,.agg (clL c)] s kr kp=true:=by
 refine qk H 81 qq8 rfl rfl ?_
 have m1:(s.nx=s.nx+1)=False:=by simp
 have m2:(s.nx+1=s.nx)=False:=by simp
 have hE:Ext s ((s.alloc (.cells (clL c) 41 0)).alloc (.cells (anL 0 0 0 0 [] nilS) 38 0)):=(Ext.alloc s _).trans (Ext.alloc _ _)
 have hB2:=qg (qg hB (.cells (clL c) 41 0)) (.cells (anL 0 0 0 0 [] nilS) 38 0)
 have hT2:=hT.ext hB hE
 have hx2:=(hE.2 x (hB x _ hx)).trans hx
 have o1:((4:Int)==2)=false:=rfl
 have o2:((4:Int)==3)=false:=rfl
 have o3:((4:Int)==1)=false:=rfl
 have ecl:clL c=[.raw (.int .i64 4),.str c.path,.str c.path2,.raw (.int .i64 c.fd),.raw (.int .i64 c.off),.raw (.int .i64 c.num),.raw (.int .i64 c.mode),.str c.data]:=by unfold clL;rw[hop]
 rw[ecl] at hE hB2 hT2 hx2 ⊢
 repeat (first|with_reducible (refine q9 H ?_;constructor)|simp only[rB,rQ,q8,q7,qc,reduceIte,Nat.reduceAdd,Nat.reduceLT,Nat.reduceEqDiff,pe3,pf3,zn,qd,QD,qjk,qD,qA,m1,m2,qh,o1,o2])
 refine Xv H hT2 hB2 hx2 hf (fun n s1 h1 h2 h3=>?_) (fun n s1 h1 h2 h3=>?_)
 ·obtain⟨nd,hnd⟩:=ht n h1
  obtain⟨hn,hm⟩:=(hT2.ext hB2 h2) n nd hnd
  have c0:s1.h.get s.nx=some (.cells [.raw (.int .i64 4),.str c.path,.str c.path2,.raw (.int .i64 c.fd),.raw (.int .i64 c.off),.raw (.int .i64 c.num),.raw (.int .i64 c.mode),.str c.data] 41 0):=(h2.2 s.nx (by show s.nx < s.nx+1+1;omega)).trans ((zm (by show s.nx≠s.nx+1;omega)).trans qt)
  have c1:s1.h.get (s.nx+1)=some (.cells (anL 0 0 0 0 [] nilS) 38 0):=(h2.2 (s.nx+1) (by show s.nx+1 < s.nx+1+1;omega)).trans qt
  have hlt:=h3 _ _ c1
  have hE1:=hE.trans h2
  have fin:∀ (s2:St) o,Ext s1 s2→Ext s { s2 with h:=s2.h.set (s.nx+1) o }:=fun s2 o he=>⟨Nat.le_trans hE1.1 he.1,fun j hj=>(qa (by omega)).trans ((hE1.trans he).2 j hj)⟩
  by_cases hd:nd.kind=3
  ·have k1:(nd.kind != 3)=false:=by rw[hd];rfl
   repeat (first|with_reducible (refine q9 H ?_;constructor)|simp only[rB,rQ,q8,q7,qc,reduceIte,Nat.reduceAdd,Nat.reduceLT,Nat.reduceEqDiff,pe3,pf3,QD,qD,qA,c0,c1,qh,qB,o1,o2,o3,Qe,JV,YF,Q8,hn,ndA,k1,q5b,Qj,zr,zb,zD,qY,Tryz.results59]|(with_reducible refine qv H ?_))
   exact hk n nd _ h1 hnd hd (fin s1 _ (Ext.refl s1)) (qe h3 hlt _)
  ·have k1:(nd.kind != 3)=true:=by rw[bne_iff_ne];exact hd
   repeat (first|with_reducible (refine q9 H ?_;constructor)|simp only[rB,rQ,q8,q7,qc,reduceIte,Nat.reduceAdd,Nat.reduceLT,Nat.reduceEqDiff,pe3,pf3,QD,qD,qA,c0,c1,qh,qB,o1,o2,o3,Qe,JV,YF,Q8,hn,ndA,k1]|(with_reducible refine qj H ?_))
   exact hk5 n nd s1 h1 hnd hd hE1 h3
 ·repeat (first|with_reducible (refine q9 H ?_;constructor)|simp only[rB,rQ,q8,q7,qc,reduceIte,Nat.reduceAdd,Nat.reduceLT,Nat.reduceEqDiff,pe3,pf3])
  exact hq n s1 h1 (hE.trans h2) h3
theorem qha:Qq TE 38 []=some (.agg (anL 0 0 0 0 [] nilS)):=by kernel_rfl
theorem qaj {s:St} (H:Ok TE Tryz.prog pr3) {T:zi} (hT:RepT s T) (hB:qb s) {x root cwd:Nat} {tl:List AV} (hx:s.h.get x=some (.cells (.ptr root 0::.ptr cwd 0::tl) 120 0)) {c:Cl} (hop:c.op=10) {out:Nat ⊕ Nat} (hf:zE T root cwd c.path true=some out) (ht:∀ n,out=.inl n→∃ nd,T n=some nd)
  {kr kp:AV→St→Bool} (hk5:∀ n nd s',out=.inl n→T n=some nd→(c.mode < 0∨c.mode > 511)→Ext s s'→qb s'→kp (.iface 110 (.raw (.int .i64 5))) s'=true)
  (hk:∀ n nd s',out=.inl n→T n=some nd→0≤c.mode→c.mode≤511→JT s s' n (ndA { nd with mode:=c.mode })→qb s'→kr (.agg (anL 0 0 0 0 [] nilS)) s'=true)
  (hq:∀ n s',out=.inr n→Ext s s'→qb s'→kp (.iface 110 (.raw (.int .i64 ((n:Nat):Int)))) s'=true) :
  (sem Tryz.prog).call 61 [.ptr x 0,.agg (clL c)] s kr kp=true:=by
 refine qk H 59 qu8 rfl rfl ?_
 have m1:(s.nx=s.nx+1)=False:=by simp
 have m2:(s.nx+1=s.nx)=False:=by simp
 have hE:Ext s ((s.alloc (.cells (clL c) 41 0)).alloc (.cells (anL 0 0 0 0 [] nilS) 38 0)):=(Ext.alloc s _).trans (Ext.alloc _ _)
 have hB2:=qg (qg hB (.cells (clL c) 41 0)) (.cells (anL 0 0 0 0 [] nilS) 38 0)
 have hT2:=hT.ext hB hE
 have hx2:=(hE.2 x (hB x _ hx)).trans hx
 have o1:((10:Int)==10)=true:=rfl
 have o2:((10:Int)==8)=false:=rfl
 have ecl:clL c=[.raw (.int .i64 10),.str c.path,.str c.path2,.raw (.int .i64 c.fd),.raw (.int .i64 c.off),.raw (.int .i64 c.num),.raw (.int .i64 c.mode),.str c.data]:=by unfold clL;rw[hop]
 rw[ecl] at hE hB2 hT2 hx2 ⊢
 repeat (first|with_reducible (refine q9 H ?_;constructor)|simp only[rB,rP,rQ,q8,q7,qc,reduceIte,Nat.reduceAdd,Nat.reduceLT,Nat.reduceEqDiff,pe3,pf3,zn,qd,QD,qjk,qD,qA,m1,m2,qh,o1,o2])
 refine Xv H hT2 hB2 hx2 hf (fun n s1 h1 h2 h3=>?_) (fun n s1 h1 h2 h3=>?_)
 ·obtain⟨nd,hnd⟩:=ht n h1
  obtain⟨hn,hm⟩:=(hT2.ext hB2 h2) n nd hnd
  have hns:=hB n _ (hT n nd hnd).1
  have c0:s1.h.get s.nx=some (.cells [.raw (.int .i64 10),.str c.path,.str c.path2,.raw (.int .i64 c.fd),.raw (.int .i64 c.off),.raw (.int .i64 c.num),.raw (.int .i64 c.mode),.str c.data] 41 0):=(h2.2 s.nx (by show s.nx < s.nx+1+1;omega)).trans ((zm (by show s.nx≠s.nx+1;omega)).trans qt)
  have c1:s1.h.get (s.nx+1)=some (.cells (anL 0 0 0 0 [] nilS) 38 0):=(h2.2 (s.nx+1) (by show s.nx+1 < s.nx+1+1;omega)).trans qt
  have hlt:=h3 _ _ c1
  have hE1:=hE.trans h2
  have q1:(s.nx+1=n)=False:=by simp;omega
  have q2:(n=s.nx+1)=False:=by simp;omega
  have q3:(s.nx=n)=False:=by simp;omega
  by_cases b1:c.mode < 0
  ·have e1:=decide_eq_true b1
   repeat (first|with_reducible (refine q9 H ?_;constructor)|simp only[rB,rP,rQ,q8,q7,qc,reduceIte,Nat.reduceAdd,Nat.reduceLT,Nat.reduceEqDiff,pe3,pf3,QD,qki,KN,qD,qA,c0,c1,qh,qB,zX,zv,o1,o2,Qe,JV,YF,Q8,hn,ndA,q1,q2,q3,m1,m2,e1]|(with_reducible refine qj H ?_))
   exact hk5 n nd s1 h1 hnd (Or.inl b1) hE1 h3
  have e1:=decide_eq_false b1
  by_cases b2:c.mode > 511
  ·have e2:=decide_eq_true b2
   repeat (first|with_reducible (refine q9 H ?_;constructor)|simp only[rB,rP,rQ,q8,q7,qc,reduceIte,Nat.reduceAdd,Nat.reduceLT,Nat.reduceEqDiff,pe3,pf3,QD,qki,KN,qD,qA,c0,c1,qh,qB,zX,zv,o1,o2,Qe,JV,YF,Q8,hn,ndA,q1,q2,q3,m1,m2,e1,e2]|(with_reducible refine qj H ?_))
   exact hk5 n nd s1 h1 hnd (Or.inr b2) hE1 h3
  have e2:=decide_eq_false b2
  repeat (first|with_reducible (refine q9 H ?_;constructor)|simp only[rB,rP,rQ,q8,q7,qc,reduceIte,Nat.reduceAdd,Nat.reduceLT,Nat.reduceEqDiff,pe3,pf3,QD,qki,KN,qD,qA,c0,c1,qh,qB,zX,zv,o1,o2,Qe,JV,YF,Q8,hn,ndA,q1,q2,q3,m1,m2,e1,e2,Yo,qha,Qj,zr,zb,zD,qY,Tryz.results61]|(with_reducible refine qv H ?_))
  refine hk n nd _ h1 hnd (by omega) (by omega) ⟨Nat.le_trans hE1.1 (Nat.le_refl _),(qa (by omega)).trans hs_same,fun j hj hji=>(qa (by omega)).trans ((qa hji).trans (hE1.2 j hj))⟩ (qe (qe h3 (h3 _ _ hn) _) hlt _)
 ·repeat (first|with_reducible (refine q9 H ?_;constructor)|simp only[rB,rP,rQ,q8,q7,qc,reduceIte,Nat.reduceAdd,Nat.reduceLT,Nat.reduceEqDiff,pe3,pf3])
  exact hq n s1 h1 (hE.trans h2) h3
theorem qfr {s:St} (H:Ok TE Tryz.prog pr3) {T:zi} (hT:RepT s T) (hB:qb s) {x root cwd:Nat} {tl:List AV} (hx:s.h.get x=some (.cells (.ptr root 0::.ptr cwd 0::tl) 120 0)) {c:Cl} (hop:c.op=8) {out:Nat ⊕ Nat} (hf:zE T root cwd c.path true=some out) (ht:∀ n,out=.inl n→∃ nd,T n=some nd) (hl:∀ n nd,T n=some nd→nd.data.length≤40000) (hw:c.data.length≤10000000000000000000)
  {kr kp:AV→St→Bool} (hk4:∀ n nd s',out=.inl n→T n=some nd→nd.kind=1→Ext s s'→qb s'→kp (.iface 110 (.raw (.int .i64 4))) s'=true)
  (hk:∀ n nd d s',out=.inl n→T n=some nd→nd.kind≠1→Zt nd.data c.off c.data=.inl d→JT s s' n (ndA { nd with data:=d })→qb s'→kr (.agg (anL 0 (c.data.length:Int) 0 0 [] nilS)) s'=true)
  (hk5:∀ n nd e s',out=.inl n→T n=some nd→nd.kind≠1→Zt nd.data c.off c.data=.inr e→Ext s s'→qb s'→kp (.iface 110 (.raw (.int .i64 ((e:Nat):Int)))) s'=true)
  (hq:∀ n s',out=.inr n→Ext s s'→qb s'→kp (.iface 110 (.raw (.int .i64 ((n:Nat):Int)))) s'=true) :
  (sem Tryz.prog).call 61 [.ptr x 0,.agg (clL c)] s kr kp=true:=by
 refine qk H 59 qu8 rfl rfl ?_
 have m1:(s.nx=s.nx+1)=False:=by simp
 have m2:(s.nx+1=s.nx)=False:=by simp
 have hE:Ext s ((s.alloc (.cells (clL c) 41 0)).alloc (.cells (anL 0 0 0 0 [] nilS) 38 0)):=(Ext.alloc s _).trans (Ext.alloc _ _)
 have hB2:=qg (qg hB (.cells (clL c) 41 0)) (.cells (anL 0 0 0 0 [] nilS) 38 0)
 have hT2:=hT.ext hB hE
 have hx2:=(hE.2 x (hB x _ hx)).trans hx
 have o1:((8:Int)==10)=false:=rfl
 have o2:((8:Int)==8)=true:=rfl
 have ecl:clL c=[.raw (.int .i64 8),.str c.path,.str c.path2,.raw (.int .i64 c.fd),.raw (.int .i64 c.off),.raw (.int .i64 c.num),.raw (.int .i64 c.mode),.str c.data]:=by unfold clL;rw[hop]
 rw[ecl] at hE hB2 hT2 hx2 ⊢
 repeat (first|with_reducible (refine q9 H ?_;constructor)|simp only[rB,rP,rQ,q8,q7,qc,reduceIte,Nat.reduceAdd,Nat.reduceLT,Nat.reduceEqDiff,pe3,pf3,zn,qd,QD,qjk,qD,qA,m1,m2,qh,o1,o2])
 refine Xv H hT2 hB2 hx2 hf (fun n s1 h1 h2 h3=>?_) (fun n s1 h1 h2 h3=>?_)
 ·obtain⟨nd,hnd⟩:=ht n h1
  obtain⟨hn,hm⟩:=(hT2.ext hB2 h2) n nd hnd
  have hns:=hB n _ (hT n nd hnd).1
  have c0:s1.h.get s.nx=some (.cells [.raw (.int .i64 8),.str c.path,.str c.path2,.raw (.int .i64 c.fd),.raw (.int .i64 c.off),.raw (.int .i64 c.num),.raw (.int .i64 c.mode),.str c.data] 41 0):=(h2.2 s.nx (by show s.nx < s.nx+1+1;omega)).trans ((zm (by show s.nx≠s.nx+1;omega)).trans qt)
  have c1:s1.h.get (s.nx+1)=some (.cells (anL 0 0 0 0 [] nilS) 38 0):=(h2.2 (s.nx+1) (by show s.nx+1 < s.nx+1+1;omega)).trans qt
  have hlt:=h3 _ _ c1
  have hE1:=hE.trans h2
  have q1:(s.nx+1=n)=False:=by simp;omega
  have q2:(n=s.nx+1)=False:=by simp;omega
  have q3:(s.nx=n)=False:=by simp;omega
  by_cases hd:nd.kind=1
  ·have k1:(nd.kind==1)=true:=by rw[hd];rfl
   repeat (first|with_reducible (refine q9 H ?_;constructor)|simp only[rB,rP,rQ,q8,q7,qc,reduceIte,Nat.reduceAdd,Nat.reduceLT,Nat.reduceEqDiff,pe3,pf3,QD,qki,KN,qD,qA,c0,c1,qh,qB,zX,zv,o1,o2,Qe,JV,YF,Q8,hn,ndA,q1,q2,q3,m1,m2,k1]|(with_reducible refine qj H ?_))
   exact hk4 n nd s1 h1 hnd hd hE1 h3
  ·have k1:(nd.kind==1)=false:=by rw[beq_eq_false_iff_ne];exact hd
   repeat (first|with_reducible (refine q9 H ?_;constructor)|simp only[rB,rP,rQ,q8,q7,qc,reduceIte,Nat.reduceAdd,Nat.reduceLT,Nat.reduceEqDiff,pe3,pf3,QD,qki,KN,qD,qA,c0,c1,qh,qB,zX,zv,o1,o2,Qe,JV,YF,Q8,hn,ndA,q1,q2,q3,m1,m2,k1,Kd,J3]|(with_reducible refine qv H ?_))
   rw[← ecl]
   refine qoc H h3 hn (hl n nd hnd) hw (fun d s2 r1 r2 r3=>?_) (fun e s2 r1 r2 r3=>?_)
   ·have c2:s2.h.get (s.nx+1)=some (.cells (anL 0 0 0 0 [] nilS) 38 0):=(r2.2.2 (s.nx+1) hlt (by omega)).trans c1
    repeat (first|with_reducible (refine q9 H ?_;constructor)|simp only[rB,rP,rQ,q8,q7,qc,reduceIte,Nat.reduceAdd,Nat.reduceLT,Nat.reduceEqDiff,pe3,pf3,c2,qha,Qj,zr,zb,zD,qY,Tryz.results61])
    exact hk n nd d _ h1 hnd hd r1 ⟨Nat.le_trans hE1.1 r2.1,(qa (by omega)).trans r2.2.1,fun j hj hji=>(qa (by omega)).trans ((r2.2.2 j (Nat.lt_of_lt_of_le hj hE1.1) hji).trans (hE1.2 j hj))⟩ (qe r3 (r3 _ _ c2) _)
   ·repeat (first|with_reducible (refine q9 H ?_;constructor)|simp only[rB,rP,rQ,q8,q7,qc,reduceIte,Nat.reduceAdd,Nat.reduceLT,Nat.reduceEqDiff,pe3,pf3])
    exact hk5 n nd e s2 h1 hnd hd r1 (hE1.trans r2) r3
 ·repeat (first|with_reducible (refine q9 H ?_;constructor)|simp only[rB,rP,rQ,q8,q7,qc,reduceIte,Nat.reduceAdd,Nat.reduceLT,Nat.reduceEqDiff,pe3,pf3])
  exact hq n s1 h1 (hE.trans h2) h3
theorem qfd {s:St} (H:Ok TE Tryz.prog pr3) {T:zi} (hT:RepT s T) (hB:qb s) {x root cwd:Nat} {tl:List AV} (hx:s.h.get x=some (.cells (.ptr root 0::.ptr cwd 0::tl) 120 0)) {c:Cl} (hop:c.op=9) {out:Nat ⊕ Nat} (hf:zE T root cwd c.path true=some out) (ht:∀ n,out=.inl n→∃ nd,T n=some nd) (hl:∀ n nd,T n=some nd→nd.data.length≤40000)
  {kr kp:AV→St→Bool} (hk4:∀ n nd s',out=.inl n→T n=some nd→nd.kind=1→Ext s s'→qb s'→kp (.iface 110 (.raw (.int .i64 4))) s'=true)
  (hk5:∀ n nd s',out=.inl n→T n=some nd→nd.kind≠1→c.num < 0→Ext s s'→qb s'→kp (.iface 110 (.raw (.int .i64 5))) s'=true)
  (hk9:∀ n nd s',out=.inl n→T n=some nd→nd.kind≠1→c.num > 1024→Ext s s'→qb s'→kp (.iface 110 (.raw (.int .i64 9))) s'=true)
  (hk:∀ n nd s',out=.inl n→T n=some nd→nd.kind≠1→0≤c.num→c.num≤1024→JT s s' n (ndA { nd with data:=Y4 nd.data c.num.toNat })→qb s'→kr (.agg (anL 0 0 0 0 [] nilS)) s'=true)
  (hq:∀ n s',out=.inr n→Ext s s'→qb s'→kp (.iface 110 (.raw (.int .i64 ((n:Nat):Int)))) s'=true) :
  (sem Tryz.prog).call 61 [.ptr x 0,.agg (clL c)] s kr kp=true:=by
 refine qk H 59 qu8 rfl rfl ?_
 have m1:(s.nx=s.nx+1)=False:=by simp
 have m2:(s.nx+1=s.nx)=False:=by simp
 have hE:Ext s ((s.alloc (.cells (clL c) 41 0)).alloc (.cells (anL 0 0 0 0 [] nilS) 38 0)):=(Ext.alloc s _).trans (Ext.alloc _ _)
 have hB2:=qg (qg hB (.cells (clL c) 41 0)) (.cells (anL 0 0 0 0 [] nilS) 38 0)
 have hT2:=hT.ext hB hE
 have hx2:=(hE.2 x (hB x _ hx)).trans hx
 have o1:((9:Int)==10)=false:=rfl
 have o2:((9:Int)==8)=false:=rfl
 have ecl:clL c=[.raw (.int .i64 9),.str c.path,.str c.path2,.raw (.int .i64 c.fd),.raw (.int .i64 c.off),.raw (.int .i64 c.num),.raw (.int .i64 c.mode),.str c.data]:=by unfold clL;rw[hop]
 rw[ecl] at hE hB2 hT2 hx2 ⊢
 repeat (first|with_reducible (refine q9 H ?_;constructor)|simp only[rB,rP,rQ,q8,q7,qc,reduceIte,Nat.reduceAdd,Nat.reduceLT,Nat.reduceEqDiff,pe3,pf3,zn,qd,QD,qjk,qD,qA,m1,m2,qh,o1,o2])
 refine Xv H hT2 hB2 hx2 hf (fun n s1 h1 h2 h3=>?_) (fun n s1 h1 h2 h3=>?_)
 ·obtain⟨nd,hnd⟩:=ht n h1
  obtain⟨hn,hm⟩:=(hT2.ext hB2 h2) n nd hnd
  have hns:=hB n _ (hT n nd hnd).1
  have c0:s1.h.get s.nx=some (.cells [.raw (.int .i64 9),.str c.path,.str c.path2,.raw (.int .i64 c.fd),.raw (.int .i64 c.off),.raw (.int .i64 c.num),.raw (.int .i64 c.mode),.str c.data] 41 0):=(h2.2 s.nx (by show s.nx < s.nx+1+1;omega)).trans ((zm (by show s.nx≠s.nx+1;omega)).trans qt)
  have c1:s1.h.get (s.nx+1)=some (.cells (anL 0 0 0 0 [] nilS) 38 0):=(h2.2 (s.nx+1) (by show s.nx+1 < s.nx+1+1;omega)).trans qt
  have hlt:=h3 _ _ c1
  have hE1:=hE.trans h2
  have q1:(s.nx+1=n)=False:=by simp;omega
  have q2:(n=s.nx+1)=False:=by simp;omega
  have q3:(s.nx=n)=False:=by simp;omega
  by_cases hd:nd.kind=1
  ·have k1:(nd.kind==1)=true:=by rw[hd];rfl
   repeat (first|with_reducible (refine q9 H ?_;constructor)|simp only[rB,rP,rQ,q8,q7,qc,reduceIte,Nat.reduceAdd,Nat.reduceLT,Nat.reduceEqDiff,pe3,pf3,QD,qki,KN,qD,qA,c0,c1,qh,qB,zX,zv,o1,o2,Qe,JV,YF,Q8,hn,ndA,q1,q2,q3,m1,m2,k1]|(with_reducible refine qj H ?_))
   exact hk4 n nd s1 h1 hnd hd hE1 h3
  have k1:(nd.kind==1)=false:=by rw[beq_eq_false_iff_ne];exact hd
  by_cases b1:c.num < 0
  ·have e1:=decide_eq_true b1
   repeat (first|with_reducible (refine q9 H ?_;constructor)|simp only[rB,rP,rQ,q8,q7,qc,reduceIte,Nat.reduceAdd,Nat.reduceLT,Nat.reduceEqDiff,pe3,pf3,QD,qki,KN,qD,qA,c0,c1,qh,qB,zX,zv,o1,o2,Qe,JV,YF,Q8,hn,ndA,q1,q2,q3,m1,m2,k1,e1]|(with_reducible refine qv H ?_)|(with_reducible refine qj H ?_))
   exact hk5 n nd s1 h1 hnd hd b1 hE1 h3
  have e1:=decide_eq_false b1
  by_cases b2:c.num > 1024
  ·have e2:=decide_eq_true b2
   repeat (first|with_reducible (refine q9 H ?_;constructor)|simp only[rB,rP,rQ,q8,q7,qc,reduceIte,Nat.reduceAdd,Nat.reduceLT,Nat.reduceEqDiff,pe3,pf3,QD,qki,KN,qD,qA,c0,c1,qh,qB,zX,zv,o1,o2,Qe,JV,YF,Q8,hn,ndA,q1,q2,q3,m1,m2,k1,e1,e2]|(with_reducible refine qv H ?_)|(with_reducible refine qj H ?_))
   exact hk9 n nd s1 h1 hnd hd b2 hE1 h3
  have e2:=decide_eq_false b2
  obtain⟨o,ho⟩:∃ o:Nat,c.num=(o:Int):=⟨c.num.toNat,by omega⟩
  have ho':c.num.toNat=o:=by omega
  rw[ho'] at hk
  rw[ho] at e1 e2 c0
  repeat (first|with_reducible (refine q9 H ?_;constructor)|simp only[rB,rP,rQ,q8,q7,qc,reduceIte,Nat.reduceAdd,Nat.reduceLT,Nat.reduceEqDiff,pe3,pf3,QD,qki,KN,qD,qA,c0,c1,qh,qB,zX,zv,o1,o2,Qe,JV,YF,Q8,hn,ndA,q1,q2,q3,m1,m2,k1,e1,e2,ho,JS,qha,Qj,zr,zb,zD,qY,Tryz.results61]|(with_reducible refine qv H ?_)|(with_reducible refine qq H (i:=11) (.take 0 (.take 1 (.take 2 (.take 3 (.take 4 (.take 5 (.take 6 (.alt 7 [1,2,3,4,5,6] (.take 8 (.take 9 (.alt 10 [0,1,2,3,4,5,6,7,8,9] (.done) (.yes)))) (.yes))))))))) rfl (by kernel_rfl) ?_)|(with_reducible refine qol H (hl n nd hnd) (by omega) ?_))
  refine hk n nd _ h1 hnd hd (by omega) (by omega) ⟨Nat.le_trans hE1.1 (Nat.le_refl _),(qa (by omega)).trans hs_same,fun j hj hji=>(qa (by omega)).trans ((qa hji).trans (hE1.2 j hj))⟩ (qe (qe h3 (h3 _ _ hn) _) hlt _)
 ·repeat (first|with_reducible (refine q9 H ?_;constructor)|simp only[rB,rP,rQ,q8,q7,qc,reduceIte,Nat.reduceAdd,Nat.reduceLT,Nat.reduceEqDiff,pe3,pf3])
  exact hq n s1 h1 (hE.trans h2) h3
def qH (p:List Nat):List (List Nat × Nat)→List (List Nat × Nat)
 | []=>[]
 | (q,j)::l=>bif eqB p q then l else (q,j)::qH p l
theorem Wk {p:List Nat}:∀ (l:List (List Nat × Nat)),ql p l≠none→eraseL (qL l) (l.findIdx fun q=>eqB p q.1)=qL (qH p l)
 | [],h=>absurd rfl h
 | (q,j)::l,h=>by
  simp only[ql] at h
  simp only[qL,List.map_cons,List.findIdx_cons,qH]
  cases he:eqB p q with
  | true=>simp only[he,cond_true,eraseL]
  | false =>
   rw[he] at h
   have ih:=Wk l h
   simp only[qL] at ih
   simp only[he,cond_false,eraseL,ih,List.map_cons]
theorem KC {s:St} {mp:Nat} {kids:List (List Nat × Nat)} {p:List Nat} {j:Nat} (h:s.h.get mp=some (.map (qL kids))) (hl:ql p kids=some j):QM TE s [115,9] [.map mp,.str p]=some { s with h:=s.h.set mp (.map (qL (qH p kids))) }:=by
 have e:QM TE s [115,9] [.map mp,.str p]=(match s.h.get mp with
   | some (.map es)=>match QJ .string (.str p) es 0 with
      | some (some (i,_))=>some { s with h:=s.h.set mp (.map (eraseL es i)) }
      | some none=>some s
      | none=>none
   | some (.rmap es it ix)=>match QJ .string (.str p) es 0 with
      | some (some (i,_))=>some { s with h:=s.h.set mp (.rmap (eraseL es i) it (eraseL ix i)) }
      | some none=>some s
      | none=>none
   | _=>none):=by kernel_rfl
 rw[e,h]
 simp only[Jy,hl,Nat.zero_add]
 rw[Wk kids (by rw[hl];simp)]
theorem qlr {s:St} {i j:Nat} {a b:Nd} {d:Option (AV × List Nat)} (hi:s.h.get i=some (ndA a)) (hj:s.h.get j=some (ndA b)):eqS TE s .eql 112 (.ptr i 0) (.ptr j 0) d=some (.raw (.bool (Nat.beq i j)),[i,j]):=by
 have e:eqS TE s .eql 112 (.ptr i 0) (.ptr j 0) d=(match (match za s i,za s j with
   | some (_::_,_,0),some (_::_,_,0)=>some (bif Nat.beq i j then true else false,[i,j])
   | _,_=>none) with
  | some (b,ids)=>some (q8 b,ids)
  | none=>d):=by kernel_rfl
 rw[e,W7 hi,W7 hj]
 simp only[q8]
 cases Nat.beq i j <;> rfl
theorem qgn {x:Nat}:qn TE 120 (.ptr x 0) 3=some (.ptr x 10):=by kernel_rfl
def Chg (s s':St) (l:List (Nat × AO)):Prop:=s.nx≤s'.nx∧(∀ q∈l,s'.h.get q.1=some q.2)∧∀ j,j < s.nx→(∀ q∈l,j≠q.1)→s'.h.get j=s.h.get j
theorem qjp {s:St} (H:Ok TE Tryz.prog pr3) {T:zi} (hT:RepT s T) (hB:qb s) {x root cwd:Nat} {f0 f1 f2 f3 f4 f5 f6 f7:AV} {many:Int} (hx:s.h.get x=some (.cells [.ptr root 0,.ptr cwd 0,f0,f1,f2,f3,f4,f5,f6,f7,.raw (.int .i64 many)] 120 0)) {cd:Nd} (hcd:T cwd=some cd) (hmany:-1000000≤many∧many≤1000000)
  {c:Cl} (hop:c.op=11∨c.op=12) {out:(Nat × List Nat) ⊕ Nat} (hf:zy T root cwd c.path=some out) (ht:∀ u nm,out=.inl (u,nm)→∃ ud,T u=some ud∧∀ j,ql nm ud.kids=some j→∃ kd,T j=some kd)
  {kr kp:AV→St→Bool}
  (hk1:∀ u nm ud s',out=.inl (u,nm)→T u=some ud→ql nm ud.kids=none→Ext s s'→qb s'→kp (.iface 110 (.raw (.int .i64 1))) s'=true)
  (hkc:∀ u nm ud j kd n s',out=.inl (u,nm)→T u=some ud→ql nm ud.kids=some j→T j=some kd→(c.op=11∧kd.kind=1∧n=4∨c.op=12∧kd.kind≠1∧n=3∨c.op=12∧kd.kind=1∧kd.kids≠[]∧n=6∨c.op=12∧kd.kind=1∧kd.kids=[]∧j=cwd∧n=13)→Ext s s'→qb s'→kp (.iface 110 (.raw (.int .i64 n))) s'=true)
  (hk:∀ u nm ud j kd s',out=.inl (u,nm)→T u=some ud→ql nm ud.kids=some j→T j=some kd→(c.op=11∧kd.kind≠1∨c.op=12∧kd.kind=1∧kd.kids=[]∧j≠cwd)→Chg s s' [(ud.mp,.map (qL (qH nm ud.kids))),(x,.cells [.ptr root 0,.ptr cwd 0,f0,f1,f2,f3,f4,f5,f6,f7,.raw (.int .i64 (many - 1))] 120 0)]→qb s'→kr (.agg (anL 0 0 0 0 [] nilS)) s'=true)
  (hq:∀ n s',out=.inr n→Ext s s'→qb s'→kp (.iface 110 (.raw (.int .i64 ((n:Nat):Int)))) s'=true) :
  (sem Tryz.prog).call 62 [.ptr x 0,.agg (clL c)] s kr kp=true:=by
 refine qk H 66 q36 rfl rfl ?_
 have m1:(s.nx=s.nx+1)=False:=by simp
 have m2:(s.nx+1=s.nx)=False:=by simp
 have hE:Ext s ((s.alloc (.cells (clL c) 41 0)).alloc (.cells (anL 0 0 0 0 [] nilS) 38 0)):=(Ext.alloc s _).trans (Ext.alloc _ _)
 have hB2:=qg (qg hB (.cells (clL c) 41 0)) (.cells (anL 0 0 0 0 [] nilS) 38 0)
 have hT2:=hT.ext hB hE
 have hx2:=(hE.2 x (hB x _ hx)).trans hx
 have hxs:=hB x _ hx
 unfold clL at hE hB2 hT2 hx2 ⊢
 repeat (first|with_reducible (refine q9 H ?_;constructor)|simp only[rB,rQ,q8,q7,qc,reduceIte,Nat.reduceAdd,Nat.reduceLT,Nat.reduceEqDiff,pe3,pf3,zn,qd,QD,qjk,qD,qA,m1,m2])
 refine Vx H hT2 hB2 hx2 hf (fun u nm s1 h1 h2 h3=>?_) (fun n s1 h1 h2 h3=>?_)
 ·obtain⟨ud,hud,hkid⟩:=ht u nm h1
  obtain⟨hn,hm⟩:=(hT2.ext hB2 h2) u ud hud
  have hus:=hB _ _ (hT u ud hud).1
  have hms:=hB _ _ (hT u ud hud).2
  have lk:=Yq (p:=nm) hm
  have c0:s1.h.get s.nx=some (.cells [.raw (.int .i64 c.op),.str c.path,.str c.path2,.raw (.int .i64 c.fd),.raw (.int .i64 c.off),.raw (.int .i64 c.num),.raw (.int .i64 c.mode),.str c.data] 41 0):=(h2.2 s.nx (by show s.nx < s.nx+1+1;omega)).trans ((zm (by show s.nx≠s.nx+1;omega)).trans qt)
  have c1:s1.h.get (s.nx+1)=some (.cells (anL 0 0 0 0 [] nilS) 38 0):=(h2.2 (s.nx+1) (by show s.nx+1 < s.nx+1+1;omega)).trans qt
  have hlt:=h3 _ _ c1
  have hE1:=hE.trans h2
  have hx1:=(hE1.2 x hxs).trans hx
  cases hl:ql nm ud.kids with
  | none =>
   rw[hl] at lk
   repeat (first|with_reducible (refine q9 H ?_;constructor)|simp only[rB,rQ,q8,q7,qc,reduceIte,Nat.reduceAdd,Nat.reduceLT,Nat.reduceEqDiff,pe3,pf3,qI,Q8,hn,hm,ndA,lk,QI,Vv,Q4,Zx,qJ]|(with_reducible refine qj H ?_))
   exact hk1 u nm ud s1 h1 hud hl hE1 h3
  | some j =>
  rw[hl] at lk
  obtain⟨kd,hkd⟩:=hkid j hl
  obtain⟨hn2,hm2⟩:=(hT2.ext hB2 h2) j kd hkd
  have hxm:x≠ud.mp:=by
   intro hh
   rw[hh,hm] at hx1
   cases hx1
  have v1:(x=ud.mp)=False:=by simp[hxm]
  have v2:(s.nx+1=ud.mp)=False:=by simp;omega
  have v3:(s.nx+1=x)=False:=by simp;omega
  have v4:(u=ud.mp)=False:=by
   simp only[eq_iff_iff,iff_false]
   intro hh
   rw[← hh,hn] at hm
   cases hm
  have v5:(s.nx=ud.mp)=False:=by simp;omega
  have v6:(ud.mp=x)=False:=by simp;exact fun hh=>hxm hh.symm
  have dl:=KC hm hl
  have ew:IntKind.i64.wrap (many - 1)=many - 1:=Go.IntWalk.i64_in _ (by omega)
  rcases hop with hop|hop
  ·rw[hop] at c0
   have oo:((11:Int)==11)=true:=rfl
   by_cases hd:kd.kind=1
   ·have k1:(kd.kind==1)=true:=by rw[hd];rfl
    repeat (first|with_reducible (refine q9 H ?_;constructor)|simp only[rB,rQ,q8,q7,qc,reduceIte,Nat.reduceAdd,Nat.reduceLT,Nat.reduceEqDiff,pe3,pf3,QD,qD,qA,qK,qI,c0,c1,qh,qB,zv,Zh,Q3,oo,Qe,Q8,hn,hm,hn2,hm2,ndA,lk,QI,k1]|(with_reducible refine qv H ?_)|(with_reducible refine qj H ?_))
    exact hkc u nm ud j kd 4 s1 h1 hud hl hkd (Or.inl ⟨hop,hd,rfl⟩) hE1 h3
   ·have k1:(kd.kind==1)=false:=by rw[beq_eq_false_iff_ne];exact hd
    repeat (first|with_reducible (refine q9 H ?_;constructor)|simp only[rB,rQ,q8,q7,qc,reduceIte,Nat.reduceAdd,Nat.reduceLT,Nat.reduceEqDiff,pe3,pf3,QD,qD,qA,qK,qI,c0,c1,qh,qB,zv,Zh,Q3,oo,Qe,Q8,hn,hm,hn2,hm2,ndA,lk,QI,k1,dl,qlw,qgn,hx1,v1,v2,v3,v4,v5,v6,zj,ew,Yo,qha,Qj,zr,zb,zD,qY,Tryz.results62]|(with_reducible refine qv H ?_))
    refine hk u nm ud j kd _ h1 hud hl hkd (Or.inl ⟨hop,hd⟩) ⟨hE1.1,?_,?_⟩ (qe (qe (qe h3 (h3 _ _ hm) _) (h3 _ _ hx1) _) hlt _)
    ·intro q hq
     simp only[List.mem_cons,List.not_mem_nil,or_false] at hq
     rcases hq with rfl|rfl
     ·exact (qa (by omega)).trans ((qa (by intro hh;exact hxm hh.symm)).trans hs_same)
     ·exact (qa (by omega)).trans hs_same
    ·intro q hq hn'
     have g1:=hn' _ (List.mem_cons_self)
     have g2:=hn' _ (List.mem_cons_of_mem _ List.mem_cons_self)
     exact (qa (by omega)).trans ((qa g2).trans ((qa g1).trans (hE1.2 q hq)))
  ·rw[hop] at c0
   have oo:((12:Int)==11)=false:=rfl
   by_cases hd:kd.kind=1
   ·have k1:(kd.kind != 1)=false:=by rw[hd];rfl
    have lm:=qhc hm2
    by_cases hks:kd.kids=[]
    ·have k2:decide ((kd.kids.length:Int) > 0)=false:=by rw[hks];rfl
     obtain⟨hcw,_⟩:=(hT2.ext hB2 h2) cwd cd hcd
     have ep:=fun {d}=>qlr (d:=d) hn2 hcw
     have ei:zZ s1 [j,cwd]=true:=by simp[zZ,hn2,hcw]
     by_cases hjc:j=cwd
     ·have bj:Nat.beq j cwd=true:=by rw[hjc];simp
      rw[bj] at ep
      repeat (first|with_reducible (refine q9 H ?_;constructor)|simp only[rB,rQ,q8,q7,qc,reduceIte,Nat.reduceAdd,Nat.reduceLT,Nat.reduceEqDiff,pe3,pf3,QD,qD,qA,qK,qI,c0,c1,qh,qB,zv,Zh,Q3,oo,Qe,Q8,hn,hm,hn2,hm2,ndA,lk,QI,k1,lm,k2,qlw,hx1,ep,zf ei]|(with_reducible refine qv H ?_)|(with_reducible refine qj H ?_))
      exact hkc u nm ud j kd 13 s1 h1 hud hl hkd (Or.inr (Or.inr (Or.inr ⟨hop,hd,hks,hjc,rfl⟩))) hE1 h3
     ·have bj:Nat.beq j cwd=false:=Qk hjc
      rw[bj] at ep
      repeat (first|with_reducible (refine q9 H ?_;constructor)|simp only[rB,rQ,q8,q7,qc,reduceIte,Nat.reduceAdd,Nat.reduceLT,Nat.reduceEqDiff,pe3,pf3,QD,qD,qA,qK,qI,c0,c1,qh,qB,zv,Zh,Q3,oo,Qe,Q8,hn,hm,hn2,hm2,ndA,lk,QI,k1,lm,k2,ep,zf ei,dl,qlw,qgn,hx1,v1,v2,v3,v4,v5,v6,zj,ew,Yo,qha,Qj,zr,zb,zD,qY,Tryz.results62]|(with_reducible refine qv H ?_))
      refine hk u nm ud j kd _ h1 hud hl hkd (Or.inr ⟨hop,hd,hks,hjc⟩) ⟨hE1.1,?_,?_⟩ (qe (qe (qe h3 (h3 _ _ hm) _) (h3 _ _ hx1) _) hlt _)
      ·intro q hq
       simp only[List.mem_cons,List.not_mem_nil,or_false] at hq
       rcases hq with rfl|rfl
       ·exact (qa (by omega)).trans ((qa (by intro hh;exact hxm hh.symm)).trans hs_same)
       ·exact (qa (by omega)).trans hs_same
      ·intro q hq hn'
       have g1:=hn' _ (List.mem_cons_self)
       have g2:=hn' _ (List.mem_cons_of_mem _ List.mem_cons_self)
       exact (qa (by omega)).trans ((qa g2).trans ((qa g1).trans (hE1.2 q hq)))
    ·have k2:decide ((kd.kids.length:Int) > 0)=true:=by
      rw[decide_eq_true_eq]
      have:kd.kids.length≠0:=fun hh=>hks (List.eq_nil_of_length_eq_zero hh)
      omega
     repeat (first|with_reducible (refine q9 H ?_;constructor)|simp only[rB,rQ,q8,q7,qc,reduceIte,Nat.reduceAdd,Nat.reduceLT,Nat.reduceEqDiff,pe3,pf3,QD,qD,qA,qK,qI,c0,c1,qh,qB,zv,Zh,Q3,oo,Qe,Q8,hn,hm,hn2,hm2,ndA,lk,QI,k1,lm,k2]|(with_reducible refine qv H ?_)|(with_reducible refine qj H ?_))
     exact hkc u nm ud j kd 6 s1 h1 hud hl hkd (Or.inr (Or.inr (Or.inl ⟨hop,hd,hks,rfl⟩))) hE1 h3
   ·have k1:(kd.kind != 1)=true:=by rw[bne_iff_ne];exact hd
    repeat (first|with_reducible (refine q9 H ?_;constructor)|simp only[rB,rQ,q8,q7,qc,reduceIte,Nat.reduceAdd,Nat.reduceLT,Nat.reduceEqDiff,pe3,pf3,QD,qD,qA,qK,qI,c0,c1,qh,qB,zv,Zh,Q3,oo,Qe,Q8,hn,hm,hn2,hm2,ndA,lk,QI,k1]|(with_reducible refine qv H ?_)|(with_reducible refine qj H ?_))
    exact hkc u nm ud j kd 3 s1 h1 hud hl hkd (Or.inr (Or.inl ⟨hop,hd,rfl⟩)) hE1 h3
 ·repeat (first|with_reducible (refine q9 H ?_;constructor)|simp only[rB,rQ,q8,q7,qc,reduceIte,Nat.reduceAdd,Nat.reduceLT,Nat.reduceEqDiff,pe3,pf3])
  exact hq n s1 h1 (hE.trans h2) h3
end Go.AX
