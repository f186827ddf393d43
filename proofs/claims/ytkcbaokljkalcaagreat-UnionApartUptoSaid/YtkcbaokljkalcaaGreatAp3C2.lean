import Derived.Test.YtkcbaokljkalcaaGreatAp3C1
import Derived.Test.YtkcbaokljkalcaaGreatAp3A3
set_option linter.unusedVariables false
set_option linter.unusedSimpArgs false
set_option linter.defProp false
namespace Go.AX
open Go.Proofs Go.RowKit
set_option maxRecDepth 1000000
set_option linter.unusedSimpArgs false
def Qy (n b:Nat):Bool:=Nat.ble n 8&&Nat.ble b 140
theorem QX {s:St} (H:Ok TE Tryz.prog pr3) {n b:Nat} {kr kp:AV→St→Bool} (hk:kr (.raw (.bool (Qy n b))) s=true):(sem Tryz.prog).call 101 [.raw (.int .i64 (n:Int)),.raw (.int .i64 (b:Int))] s kr kp=true:=by
 refine qk H 11 q1l rfl rfl ?_
 unfold Qy at hk
 by_cases h1:n≤8
 ·have e1:decide ((n:Int)≤8)=true:=by rw[decide_eq_true_eq];omega
  rw[Nat.ble_eq.mpr h1,Bool.true_and] at hk
  by_cases h2:b≤140
  ·have e2:decide ((b:Int)≤140)=true:=by rw[decide_eq_true_eq];omega
   rw[Nat.ble_eq.mpr h2] at hk
   repeat (first|with_reducible (refine q9 H ?_;constructor)|simp only[rB,rQ,q8,qf,reduceIte,Nat.reduceLT,Nat.reduceEqDiff,pe3,pf3,J9,e1,e2,Tryz.results101])
   exact hk
  ·have e2:decide ((b:Int)≤140)=false:=by rw[decide_eq_false_iff_not];omega
   have e2':Nat.ble b 140=false:=by rw[← Bool.not_eq_true,Nat.ble_eq];exact h2
   rw[e2'] at hk
   repeat (first|with_reducible (refine q9 H ?_;constructor)|simp only[rB,rQ,q8,qf,reduceIte,Nat.reduceLT,Nat.reduceEqDiff,pe3,pf3,J9,e1,e2,Tryz.results101])
   exact hk
 ·have e1:decide ((n:Int)≤8)=false:=by rw[decide_eq_false_iff_not];omega
  have e1':Nat.ble n 8=false:=by rw[← Bool.not_eq_true,Nat.ble_eq];exact h1
  rw[e1',Bool.false_and] at hk
  repeat (first|with_reducible (refine q9 H ?_;constructor)|simp only[rB,rQ,q8,qf,reduceIte,Nat.reduceLT,Nat.reduceEqDiff,pe3,pf3,J9,e1,Tryz.results101])
  exact hk
def qyq (b:List Nat) (c:Nat):Bool:=match qR b c 0 with|some _=>true|none=>false
theorem qix {s:St} (H:Ok TE Tryz.prog pr3) {b:List Nat} {c:Nat} (hc:c < 256) {kr kp:AV→St→Bool} (hk:kr (.raw (.int .i64 (qf8 b c))) s=true):(sem Tryz.prog).call 154 [.str b,.str [c]] s kr kp=true:=by
 refine qk H 8 q29 rfl rfl ?_
 repeat (first|with_reducible (refine q9 H ?_;constructor)|simp only[rB,rQ,q8,qf,reduceIte,Nat.reduceLT,Nat.reduceEqDiff,pe3,pf3,Tryz.results154]|(with_reducible refine qhh ok0 hc ?_))
 exact hk
theorem qas {s:St} (H:Ok TE Tryz.prog pr3) {b:List Nat} {c:Nat} (hc:c < 256) {kr kp:AV→St→Bool} (hk:kr (.raw (.bool (qyq b c))) s=true):(sem Tryz.prog).call 135 [.str b,.str [c]] s kr kp=true:=by
 refine qk H 9 qza rfl rfl ?_
 unfold qyq at hk
 cases h:qR b c 0 with
 | some i =>
  rw[h] at hk
  have e0:qf8 b c=(i:Int):=by simp[qf8,h]
  have e1:decide ((i:Int) ≥ 0)=true:=by simp
  repeat (first|with_reducible (refine q9 H ?_;constructor)|simp only[rB,rQ,q8,qf,reduceIte,Nat.reduceLT,Nat.reduceEqDiff,pe3,pf3,e0,e1,Zl,Tryz.results135]|(with_reducible refine qix H hc ?_))
  exact hk
 | none =>
  rw[h] at hk
  have e0:qf8 b c=-1:=by simp[qf8,h]
  have e1:decide ((-1:Int) ≥ 0)=false:=by decide
  repeat (first|with_reducible (refine q9 H ?_;constructor)|simp only[rB,rQ,q8,qf,reduceIte,Nat.reduceLT,Nat.reduceEqDiff,pe3,pf3,e0,e1,Zl,Tryz.results135]|(with_reducible refine qix H hc ?_))
  exact hk
def Qw (b:List Nat):Bool:=Nat.ble 1 b.length&&(Nat.ble b.length 64&&!qyq b 0)
theorem JG {s:St} (H:Ok TE Tryz.prog pr3) {b:List Nat} {kr kp:AV→St→Bool} (hk:kr (.raw (.bool (Qw b))) s=true):(sem Tryz.prog).call 100 [.str b] s kr kp=true:=by
 refine qk H 16 q2r rfl rfl ?_
 unfold Qw at hk
 by_cases h1:1≤b.length
 ·have e1:decide ((b.length:Int) ≥ 1)=true:=by rw[decide_eq_true_eq];omega
  rw[Nat.ble_eq.mpr h1,Bool.true_and] at hk
  by_cases h2:b.length≤64
  ·have e2:decide ((b.length:Int)≤64)=true:=by rw[decide_eq_true_eq];omega
   rw[Nat.ble_eq.mpr h2,Bool.true_and] at hk
   repeat (first|with_reducible (refine q9 H ?_;constructor)|simp only[rB,rQ,q8,qf,reduceIte,Nat.reduceLT,Nat.reduceEqDiff,pe3,pf3,qx,J9,Zl,e1,e2,Tryz.results100]|(with_reducible refine qas H (by decide) ?_))
   exact hk
  ·have e2:decide ((b.length:Int)≤64)=false:=by rw[decide_eq_false_iff_not];omega
   have e2':Nat.ble b.length 64=false:=by rw[← Bool.not_eq_true,Nat.ble_eq];exact h2
   rw[e2',Bool.false_and] at hk
   repeat (first|with_reducible (refine q9 H ?_;constructor)|simp only[rB,rQ,q8,qf,reduceIte,Nat.reduceLT,Nat.reduceEqDiff,pe3,pf3,qx,J9,Zl,e1,e2,Tryz.results100])
   exact hk
 ·have e1:decide ((b.length:Int) ≥ 1)=false:=by rw[decide_eq_false_iff_not];omega
  have e1':Nat.ble 1 b.length=false:=by rw[← Bool.not_eq_true,Nat.ble_eq];exact h1
  rw[e1',Bool.false_and] at hk
  repeat (first|with_reducible (refine q9 H ?_;constructor)|simp only[rB,rQ,q8,qf,reduceIte,Nat.reduceLT,Nat.reduceEqDiff,pe3,pf3,qx,J9,Zl,e1,Tryz.results100])
  exact hk
def setK (p:List Nat) (j:Nat):List (List Nat × Nat)→List (List Nat × Nat)
 | []=>[(p,j)]
 | (q,i)::l=>bif eqB p q then (p,j)::l else (q,i)::setK p j l
theorem qfq {p:List Nat} {j:Nat}:∀ (l:List (List Nat × Nat)),ql p l≠none→setL (qL l) (l.findIdx fun q=>eqB p q.1) (.str p,.ptr j 0)=qL (setK p j l)
 | [],h=>absurd rfl h
 | (q,i)::l,h=>by
  simp only[ql] at h
  simp only[qL,List.map_cons,List.findIdx_cons,setK]
  cases he:eqB p q with
  | true=>simp only[cond_true,setL,List.map_cons]
  | false =>
   rw[he] at h
   have ih:=qfq (j:=j) l h
   simp only[qL] at ih
   simp only[cond_false,setL,ih,List.map_cons]
theorem qdw {p:List Nat} {j:Nat}:∀ (l:List (List Nat × Nat)),ql p l=none→qL l++[(.str p,.ptr j 0)]=qL (setK p j l)
 | [],_=>(rfl)
 | (q,i)::l,h=>by
  simp only[ql] at h
  cases he:eqB p q with
  | true=>rw[he] at h;cases h
  | false =>
   rw[he] at h
   have ih:=qdw (j:=j) l h
   simp only[qL] at ih
   simp only[qL,List.map_cons,setK,he,cond_false,List.cons_append,ih]
theorem VI {s:St} {mp:Nat} {kids:List (List Nat × Nat)} {p:List Nat} {j:Nat} (h:s.h.get mp=some (.map (qL kids))):zu TE s 115 (.map mp) (.str p) (.ptr j 0)=some { s with h:=s.h.set mp (.map (qL (setK p j kids))) }:=by
 have e:zu TE s 115 (.map mp) (.str p) (.ptr j 0)=(match s.h.get mp with
   | some (.map es)=>match QJ .string (.str p) es 0 with
      | some (some (i,_))=>some { s with h:=s.h.set mp (.map (setL es i (.str p,.ptr j 0))) }
      | some none=>some { s with h:=s.h.set mp (.map (es++[(.str p,.ptr j 0)])) }
      | none=>none
   | _=>none):=by kernel_rfl
 rw[e,h]
 simp only[Jy]
 cases hl:ql p kids with
 | none=>simp only[qdw kids hl]
 | some i=>simp only[Nat.zero_add,qfq kids (by rw[hl];simp)]
theorem Vo {s:St} (H:Ok TE Tryz.prog pr3) (hB:qb s) {u j:Nat} {ud kd:Nd} (hu:qfz s u ud) (hj:s.h.get j=some (ndA kd)) (huj:u≠j) {nm:List Nat} {kr kp:AV→St→Bool}
  (hk:∀ s',s'.nx=s.nx→Chg s s' [(j,ndA { kd with up:=some u,name:=nm }),(ud.mp,.map (qL (setK nm j ud.kids)))]→qb s'→kr (.ptr j 0) s'=true) :
  (sem Tryz.prog).call 93 [.ptr u 0,.str nm,.ptr j 0] s kr kp=true:=by
 refine qk H 22 q5o rfl rfl ?_
 have hu1:=hu.1
 have hu2:=hu.2
 have hjm:j≠ud.mp:=by
  intro hh
  rw[hh,hu2] at hj
  cases hj
 have v1:(u=j)=False:=by simp[huj]
 have v2:(ud.mp=j)=False:=by simp;exact fun hh=>hjm hh.symm
 have v3:(j=ud.mp)=False:=by simp[hjm]
 let s2:St:={ s with h:=(s.h.set j (ndA { kd with up:=some u })).set j (ndA { kd with up:=some u,name:=nm }) }
 have hm2:s2.h.get ud.mp=some (.map (qL ud.kids)):=(qa (fun hh=>hjm hh.symm)).trans ((qa (fun hh=>hjm hh.symm)).trans hu2)
 have up:=VI (p:=nm) (j:=j) hm2
 simp only[s2,ndA,upA] at up
 repeat (first|with_reducible (refine q9 H ?_;constructor)|simp only[rB,rQ,reduceIte,Nat.reduceLT,Nat.reduceEqDiff,pe3,pf3,Q8,qxz,q57,qI,qh1,JS,hu1,hj,ndA,v1,v2,v3,up,Tryz.results93])
 refine hk _ rfl ⟨Nat.le_refl _,?_,?_⟩ (qe (qe (qe hB (hB _ _ hj) _) (hB _ _ hj) _) (hB _ _ hu2) _)
 ·intro q hq
  simp only[List.mem_cons,List.not_mem_nil,or_false] at hq
  rcases hq with rfl|rfl
  ·exact (qa hjm).trans hs_same
  ·exact hs_same
 ·intro q hq hn
  have g1:=hn _ List.mem_cons_self
  have g2:=hn _ (List.mem_cons_of_mem _ List.mem_cons_self)
  exact (qa g2).trans ((qa g1).trans (qa g1))
theorem qxr {i:Nat}:zp TE.P (do let r ← (do eqGuard .neq 112 (.tmp i) (.const (.pointer none)) (.pointer none) (.pointer none);binOp .neq 112 (.pointer none) (.pointer none));pure (Next.value r))=some (.value (.bool false)):=by kernel_rfl
theorem zw {a:Ac} {dst:Option Tmp} {i:Nat} {ty:TypeId} {pos:String} {after:Array Edge} (hx:KY (a.eval (.tmp i))=true) :
  qz TE a ⟨dst,.binOp .neq 112 (.tmp i) (.const (.pointer none)) 112,ty,pos,after,none⟩=some (.raw (.bool false),[]):=by
 have hx:=XE hx
 have h1:zO a (.tmp i)=.pointer none:=by simp[zO,hx,Q9]
 have h2:zO a (.const (.pointer none))=.pointer none:=rfl
 have hall:(Op.operands (.binOp .neq 112 (.tmp i) (.const (.pointer none)) 112)).toList.all (fun x=>(Q9 (a.eval x)).isSome)=true:=by
  show (List.all [.tmp i,.const (.pointer none)] (fun x=>(Q9 (a.eval x)).isSome))=true
  simp only[List.all_cons,List.all_nil,hx]
  rfl
 have hr:zp TE.P (execOp (zO a) ⟨dst,.binOp .neq 112 (.tmp i) (.const (.pointer none)) 112,ty,pos,after,none⟩)=some (.value (.bool false)):=by
  have he:execOp (zO a) ⟨dst,.binOp .neq 112 (.tmp i) (.const (.pointer none)) 112,ty,pos,after,none⟩=(do let r ← (do eqGuard .neq 112 (.tmp i) (.const (.pointer none)) (.pointer none) (.pointer none);binOp .neq 112 (.pointer none) (.pointer none));pure (.value r)):=by
   simp only[execOp,h1,h2]
  rw[he]
  exact qxr
 simp only[qz,hall,cond_true,hr]
 rfl
theorem Qn {s:St} {d:Option (AV × List Nat)}:eqS TE s .neq 112 (.raw (.pointer none)) (.raw (.pointer none)) d=d:=by kernel_rfl
theorem qme {s:St} (H:Ok TE Tryz.prog pr3) {T:zi} (hT:RepT s T) (hB:qb s) {x root cwd:Nat} {f0 f1 f2 f3 f4 f5 f6 f7:AV} {many:Int} (hx:s.h.get x=some (.cells [.ptr root 0,.ptr cwd 0,f0,f1,f2,f3,f4,f5,f6,f7,.raw (.int .i64 many)] 120 0)) (hmany:-1000000≤many∧many≤1000000)
  {c:Cl} (hop:c.op=5) {out:(Nat × List Nat) ⊕ Nat} (hf:zy T root cwd c.path=some out) (ht:∀ u nm,out=.inl (u,nm)→∃ ud d p,T u=some ud∧Qh T 20 u=some d∧zM T 20 u=some p∧Nat.ble (p.length+nm.length) 1000000=true∧d≤1000000)
  {kr kp:AV→St→Bool}
  (hk2:∀ u nm ud j s',out=.inl (u,nm)→T u=some ud→ql nm ud.kids=some j→Ext s s'→qb s'→kp (.iface 110 (.raw (.int .i64 2))) s'=true)
  (hk5:∀ u nm ud s',out=.inl (u,nm)→T u=some ud→ql nm ud.kids=none→(c.mode < 0∨c.mode > 511)→Ext s s'→qb s'→kp (.iface 110 (.raw (.int .i64 5))) s'=true)
  (hk8:∀ u nm ud d p s',out=.inl (u,nm)→T u=some ud→ql nm ud.kids=none→0≤c.mode→c.mode≤511→Qh T 20 u=some d→zM T 20 u=some p→Qy (d+1) (zd p nm).length=false→Ext s s'→qb s'→kp (.iface 110 (.raw (.int .i64 8))) s'=true)
  (hk10:∀ u nm ud d p s',out=.inl (u,nm)→T u=some ud→ql nm ud.kids=none→0≤c.mode→c.mode≤511→Qh T 20 u=some d→zM T 20 u=some p→Qy (d+1) (zd p nm).length=true→many ≥ 128→Ext s s'→qb s'→kp (.iface 110 (.raw (.int .i64 10))) s'=true)
  (hk:∀ u nm ud d p N s',out=.inl (u,nm)→T u=some ud→ql nm ud.kids=none→0≤c.mode→c.mode≤511→Qh T 20 u=some d→zM T 20 u=some p→Qy (d+1) (zd p nm).length=true→many < 128→s.nx≤N→Chg s s' [(ud.mp,.map (qL (setK nm N ud.kids))),(x,.cells [.ptr root 0,.ptr cwd 0,f0,f1,f2,f3,f4,f5,f6,f7,.raw (.int .i64 (many+1))] 120 0)]→(∃ mp,qfz s' N { kind:=2,mode:=c.mode,data:=[],kids:=[],up:=some u,name:=nm,mp:=mp }∧s.nx≤mp∧mp≠N)→qb s'→kr (.agg (anL 0 0 0 0 [] nilS)) s'=true)
  (hq:∀ n s',out=.inr n→Ext s s'→qb s'→kp (.iface 110 (.raw (.int .i64 ((n:Nat):Int)))) s'=true) :
  (sem Tryz.prog).call 60 [.ptr x 0,.agg (clL c)] s kr kp=true:=by
 refine qk H 95 qws rfl rfl ?_
 have m1:(s.nx=s.nx+1)=False:=by simp
 have m2:(s.nx+1=s.nx)=False:=by simp
 have hE:Ext s ((s.alloc (.cells (clL c) 41 0)).alloc (.cells (anL 0 0 0 0 [] nilS) 38 0)):=(Ext.alloc s _).trans (Ext.alloc _ _)
 have hB2:=qg (qg hB (.cells (clL c) 41 0)) (.cells (anL 0 0 0 0 [] nilS) 38 0)
 have hT2:=hT.ext hB hE
 have hx2:=(hE.2 x (hB x _ hx)).trans hx
 have hxs:=hB x _ hx
 have oo6:((5:Int)==6)=false:=rfl
 have oo7:((5:Int)==7)=false:=rfl
 have ecl:clL c=[.raw (.int .i64 5),.str c.path,.str c.path2,.raw (.int .i64 c.fd),.raw (.int .i64 c.off),.raw (.int .i64 c.num),.raw (.int .i64 c.mode),.str c.data]:=by unfold clL;rw[hop]
 rw[ecl] at hE hB2 hT2 hx2 ⊢
 repeat (first|with_reducible (refine q9 H ?_;constructor)|simp only[rB,rP,rQ,q8,qf,q7,qc,reduceIte,Nat.reduceAdd,Nat.reduceLT,Nat.reduceEqDiff,pe3,pf3,zn,qd,QD,qjk,qD,qA,m1,m2])
 refine Vx H hT2 hB2 hx2 hf (fun u nm s1 h1 h2 h3=>?_) (fun n s1 h1 h2 h3=>?_)
 ·obtain⟨ud,d,p,hud,hdp,hpp,hpb,hd6⟩:=ht u nm h1
  obtain⟨hn,hm⟩:=(hT2.ext hB2 h2) u ud hud
  have hus:=hB _ _ (hT u ud hud).1
  have hms:=hB _ _ (hT u ud hud).2
  have lk:=Yq (p:=nm) hm
  have c0:s1.h.get s.nx=some (.cells [.raw (.int .i64 5),.str c.path,.str c.path2,.raw (.int .i64 c.fd),.raw (.int .i64 c.off),.raw (.int .i64 c.num),.raw (.int .i64 c.mode),.str c.data] 41 0):=(h2.2 s.nx (by show s.nx < s.nx+1+1;omega)).trans ((zm (by show s.nx≠s.nx+1;omega)).trans qt)
  have c1:s1.h.get (s.nx+1)=some (.cells (anL 0 0 0 0 [] nilS) 38 0):=(h2.2 (s.nx+1) (by show s.nx+1 < s.nx+1+1;omega)).trans qt
  have hlt:=h3 _ _ c1
  have hE1:=hE.trans h2
  have hx1:=(hE1.2 x hxs).trans hx
  have w1:(s.nx=s1.nx)=False:=by simp;omega
  have w2:(s.nx=s1.nx+1)=False:=by simp;omega
  have w3:(s.nx+1=s1.nx)=False:=by simp;omega
  have w4:(s.nx+1=s1.nx+1)=False:=by simp;omega
  have w5:(s1.nx+1=s1.nx)=False:=by simp
  have w6:(u=s1.nx)=False:=by simp;have:=hE1.1;omega
  have w7:(u=s1.nx+1)=False:=by simp;have:=hE1.1;omega
  have w8:(s1.nx=s1.nx+1)=False:=by simp
  have bn:∀ m:Int,Qq TE 117 [(0,.raw (.int .i64 2)),(1,.raw (.int .i64 m)),(3,.map s1.nx)]=some (.agg [.raw (.int .i64 2),.raw (.int .i64 m),.str [],.map s1.nx,.raw (.pointer none),.str []]):=fun m=>by kernel_rfl
  cases hl:ql nm ud.kids with
  | some j =>
   rw[hl] at lk
   repeat (first|with_reducible (refine q9 H ?_;constructor)|simp only[rB,rP,rQ,q8,qf,q7,qc,reduceIte,Nat.reduceAdd,Nat.reduceLT,Nat.reduceEqDiff,pe3,pf3,qI,Q8,hn,hm,ndA,lk,QI,Zo,qwq]|(with_reducible refine qj H ?_))
   exact hk2 u nm ud j s1 h1 hud hl hE1 h3
  | none =>
  rw[hl] at lk
  have hE3:Ext s1 ((s1.alloc (.map [])).alloc (.cells [.raw (.int .i64 2),.raw (.int .i64 c.mode),.str [],.map s1.nx,.raw (.pointer none),.str []] 117 0)):=(Ext.alloc s1 _).trans (Ext.alloc _ _)
  have hB3:qb ((s1.alloc (.map [])).alloc (.cells [.raw (.int .i64 2),.raw (.int .i64 c.mode),.str [],.map s1.nx,.raw (.pointer none),.str []] 117 0)):=qg (qg h3 _) _
  have hT3:=(hT2.ext hB2 h2).ext h3 hE3
  have hEs:=hE1.trans hE3
  have hN:((s1.alloc (.map [])).alloc (.cells [.raw (.int .i64 2),.raw (.int .i64 c.mode),.str [],.map s1.nx,.raw (.pointer none),.str []] 117 0)).h.get (s1.nx+1)=some (.cells [.raw (.int .i64 2),.raw (.int .i64 c.mode),.str [],.map s1.nx,.raw (.pointer none),.str []] 117 0):=qt
  have hM:((s1.alloc (.map [])).alloc (.cells [.raw (.int .i64 2),.raw (.int .i64 c.mode),.str [],.map s1.nx,.raw (.pointer none),.str []] 117 0)).h.get s1.nx=some (.map []):=(zm (by show s1.nx≠s1.nx+1;omega)).trans qt
  by_cases b1:c.mode < 0
  ·have e1:=decide_eq_true b1
   repeat (first|with_reducible (refine q9 H ?_;constructor)|simp only[rB,rP,rQ,q8,qf,q7,qc,reduceIte,Nat.reduceAdd,Nat.reduceLT,Nat.reduceEqDiff,pe3,pf3,QD,KN,qcg,qD,qA,qK,qI,c0,c1,qh,zX,zv,Zl,Qo,Qn,zw,qJ,oo6,oo7,Qe,JV,YF,Q8,hn,hm,ndA,lk,QI,bn,qd,w1,w2,w3,w4,w5,w6,w7,w8,Yo,JS,e1]|(with_reducible refine qv H ?_)|(with_reducible refine qj H ?_))
   exact hk5 u nm ud _ h1 hud hl (Or.inl b1) hEs hB3
  have e1:=decide_eq_false b1
  by_cases b2:c.mode > 511
  ·have e2:=decide_eq_true b2
   repeat (first|with_reducible (refine q9 H ?_;constructor)|simp only[rB,rP,rQ,q8,qf,q7,qc,reduceIte,Nat.reduceAdd,Nat.reduceLT,Nat.reduceEqDiff,pe3,pf3,QD,KN,qcg,qD,qA,qK,qI,c0,c1,qh,zX,zv,Zl,Qo,Qn,zw,qJ,oo6,oo7,Qe,JV,YF,Q8,hn,hm,ndA,lk,QI,bn,qd,w1,w2,w3,w4,w5,w6,w7,w8,Yo,JS,e1,e2]|(with_reducible refine qv H ?_)|(with_reducible refine qj H ?_))
   exact hk5 u nm ud _ h1 hud hl (Or.inr b2) hEs hB3
  have e2:=decide_eq_false b2
  have ew:IntKind.i64.wrap ((d:Int)+1)=((d+1:Nat):Int):=by
   rw[show (d:Int)+1=((d+1:Nat):Int) from by simp]
   exact qM (by omega)
  have ej:=fun {r a dst s k kp}=>Yg (r:=r) (a:=a) (dst:=dst) (s:=s) (k:=k) (kp:=kp) hpb
  have hx3:=(hEs.2 x hxs).trans hx
  have x0:(x=s1.nx)=False:=by simp;have:=hE1.1;omega
  have x0':(x=s1.nx+1)=False:=by simp;have:=hE1.1;omega
  cases hfit:Qy (d+1) (zd p nm).length with
  | false =>
   repeat (first|with_reducible (refine q9 H ?_;constructor)|simp only[rB,rP,rQ,q8,qf,q7,qc,reduceIte,Nat.reduceAdd,Nat.reduceLT,Nat.reduceEqDiff,pe3,pf3,QD,KN,qcg,qD,qA,qK,qI,c0,c1,qh,zX,zv,Zl,Qo,Qn,zw,qJ,oo6,oo7,Qe,JV,YF,Q8,hn,hm,ndA,lk,QI,bn,qd,w1,w2,w3,w4,w5,w6,w7,w8,Yo,JS,e1,e2,ew,ej,qO,qx,hfit]|(with_reducible refine qv H ?_)|(with_reducible refine qj H ?_)|(with_reducible refine Z2 H hT3 hdp ?_)|(with_reducible refine Qu H hT3 hpp ?_)|(with_reducible refine QX H ?_))
   exact hk8 u nm ud d p _ h1 hud hl (by omega) (by omega) hdp hpp hfit hEs hB3
  | true =>
  by_cases b3:many ≥ 128
  ·have e3:=decide_eq_true b3
   repeat (first|with_reducible (refine q9 H ?_;constructor)|simp only[rB,rP,rQ,q8,qf,q7,qc,reduceIte,Nat.reduceAdd,Nat.reduceLT,Nat.reduceEqDiff,pe3,pf3,QD,KN,qcg,qD,qA,qK,qI,c0,c1,qh,zX,zv,Zl,Qo,Qn,zw,qJ,oo6,oo7,Qe,JV,YF,Q8,hn,hm,ndA,lk,QI,bn,qd,w1,w2,w3,w4,w5,w6,w7,w8,Yo,JS,e1,e2,ew,ej,qO,qx,hfit,qgn,hx1,x0,x0',e3]|(with_reducible refine qv H ?_)|(with_reducible refine qj H ?_)|(with_reducible refine Z2 H hT3 hdp ?_)|(with_reducible refine Qu H hT3 hpp ?_)|(with_reducible refine QX H ?_))
   exact hk10 u nm ud d p _ h1 hud hl (by omega) (by omega) hdp hpp hfit b3 hEs hB3
  have e3:=decide_eq_false b3
  repeat (first|with_reducible (refine q9 H ?_;constructor)|simp only[rB,rP,rQ,q8,qf,q7,qc,reduceIte,Nat.reduceAdd,Nat.reduceLT,Nat.reduceEqDiff,pe3,pf3,QD,KN,qcg,qD,qA,qK,qI,c0,c1,qh,zX,zv,Zl,Qo,Qn,zw,qJ,oo6,oo7,Qe,JV,YF,Q8,hn,hm,ndA,lk,QI,bn,qd,w1,w2,w3,w4,w5,w6,w7,w8,Yo,JS,e1,e2,ew,ej,qO,qx,hfit,qgn,hx1,x0,x0',e3]|(with_reducible refine qv H ?_)|(with_reducible refine Z2 H hT3 hdp ?_)|(with_reducible refine Qu H hT3 hpp ?_)|(with_reducible refine QX H ?_))
  refine Vo H hB3 (hT3 u ud hud) (kd:={ kind:=2,mode:=c.mode,data:=[],kids:=[],up:=none,name:=[],mp:=s1.nx }) hN (by have:=hE1.1;omega) (fun s4 n4 chg hB4=>?_)
  have hs1:=hE1.1
  have n4':s4.nx=s1.nx+1+1:=n4
  have keep:∀ i,i < s1.nx+1→i≠ud.mp→s4.h.get i=((s1.alloc (.map [])).alloc (.cells [.raw (.int .i64 2),.raw (.int .i64 c.mode),.str [],.map s1.nx,.raw (.pointer none),.str []] 117 0)).h.get i:=fun i hi1 hi2=>chg.2.2 i (by show i < s1.nx+1+1;omega) (by
   intro q hq
   simp only[List.mem_cons,List.not_mem_nil,or_false] at hq
   rcases hq with rfl|rfl
   ·show i≠s1.nx+1;omega
   ·exact hi2)
  have hxm:x≠ud.mp:=by
   intro hh
   rw[hh,hm] at hx1
   cases hx1
  have hx4:=(keep x (by omega) hxm).trans hx3
  have hc4:=(keep (s.nx+1) (by omega) (by omega)).trans ((hE3.2 _ hlt).trans c1)
  have hN4:=chg.2.1 _ List.mem_cons_self
  have hm4:=chg.2.1 _ (List.mem_cons_of_mem _ List.mem_cons_self)
  have em:IntKind.i64.wrap (many+1)=many+1:=Go.IntWalk.i64_in _ (by omega)
  have y1:(s.nx+1=x)=False:=by simp;omega
  repeat (first|with_reducible (refine q9 H ?_;constructor)|simp only[rB,rP,rQ,q8,qf,q7,qc,reduceIte,Nat.reduceAdd,Nat.reduceLT,Nat.reduceEqDiff,pe3,pf3,qgn,qD,hx4,hc4,qO,em,Yo,y1,qha,Qj,zr,zb,zD,qY,Tryz.results60])
  refine hk u nm ud d p (s1.nx+1) _ h1 hud hl (by omega) (by omega) hdp hpp hfit (by omega) (by omega) ⟨by show s.nx≤s4.nx;omega,?_,?_⟩ ⟨s1.nx,⟨?_,?_⟩,hs1,by omega⟩ (qe (qe hB4 (hB4 _ _ hx4) _) (hB4 _ _ hc4) _)
  ·intro q hq
   simp only[List.mem_cons,List.not_mem_nil,or_false] at hq
   rcases hq with rfl|rfl
   ·exact (qa (by omega)).trans ((qa (fun hh=>hxm hh.symm)).trans hm4)
   ·exact (qa (by omega)).trans hs_same
  ·intro q hq hn'
   have g1:=hn' _ List.mem_cons_self
   have g2:=hn' _ (List.mem_cons_of_mem _ List.mem_cons_self)
   exact (qa (by omega)).trans ((qa g2).trans ((keep q (by omega) g1).trans (hEs.2 q hq)))
  ·exact (qa (by omega)).trans ((qa (by omega)).trans hN4)
  ·exact (qa (i:=s1.nx) (by omega)).trans ((qa (i:=s1.nx) (by omega)).trans ((keep s1.nx (by omega) (by omega)).trans hM))
 ·repeat (first|with_reducible (refine q9 H ?_;constructor)|simp only[rB,rP,rQ,q8,qf,q7,qc,reduceIte,Nat.reduceAdd,Nat.reduceLT,Nat.reduceEqDiff,pe3,pf3])
  exact hq n s1 h1 (hE.trans h2) h3
theorem qnl {s:St} (H:Ok TE Tryz.prog pr3) {T:zi} (hT:RepT s T) (hB:qb s) {x root cwd:Nat} {f0 f1 f2 f3 f4 f5 f6 f7:AV} {many:Int} (hx:s.h.get x=some (.cells [.ptr root 0,.ptr cwd 0,f0,f1,f2,f3,f4,f5,f6,f7,.raw (.int .i64 many)] 120 0)) (hmany:-1000000≤many∧many≤1000000)
  {c:Cl} (hop:c.op=6) {out:(Nat × List Nat) ⊕ Nat} (hf:zy T root cwd c.path=some out) (ht:∀ u nm,out=.inl (u,nm)→∃ ud d p,T u=some ud∧Qh T 20 u=some d∧zM T 20 u=some p∧Nat.ble (p.length+nm.length) 1000000=true∧d≤1000000)
  {kr kp:AV→St→Bool}
  (hk2:∀ u nm ud j s',out=.inl (u,nm)→T u=some ud→ql nm ud.kids=some j→Ext s s'→qb s'→kp (.iface 110 (.raw (.int .i64 2))) s'=true)
  (hk5:∀ u nm ud s',out=.inl (u,nm)→T u=some ud→ql nm ud.kids=none→(c.mode < 0∨c.mode > 511)→Ext s s'→qb s'→kp (.iface 110 (.raw (.int .i64 5))) s'=true)
  (hk8:∀ u nm ud d p s',out=.inl (u,nm)→T u=some ud→ql nm ud.kids=none→0≤c.mode→c.mode≤511→Qh T 20 u=some d→zM T 20 u=some p→Qy (d+1) (zd p nm).length=false→Ext s s'→qb s'→kp (.iface 110 (.raw (.int .i64 8))) s'=true)
  (hk10:∀ u nm ud d p s',out=.inl (u,nm)→T u=some ud→ql nm ud.kids=none→0≤c.mode→c.mode≤511→Qh T 20 u=some d→zM T 20 u=some p→Qy (d+1) (zd p nm).length=true→many ≥ 128→Ext s s'→qb s'→kp (.iface 110 (.raw (.int .i64 10))) s'=true)
  (hk:∀ u nm ud d p N s',out=.inl (u,nm)→T u=some ud→ql nm ud.kids=none→0≤c.mode→c.mode≤511→Qh T 20 u=some d→zM T 20 u=some p→Qy (d+1) (zd p nm).length=true→many < 128→s.nx≤N→Chg s s' [(ud.mp,.map (qL (setK nm N ud.kids))),(x,.cells [.ptr root 0,.ptr cwd 0,f0,f1,f2,f3,f4,f5,f6,f7,.raw (.int .i64 (many+1))] 120 0)]→(∃ mp,qfz s' N { kind:=1,mode:=c.mode,data:=[],kids:=[],up:=some u,name:=nm,mp:=mp }∧s.nx≤mp∧mp≠N)→qb s'→kr (.agg (anL 0 0 0 0 [] nilS)) s'=true)
  (hq:∀ n s',out=.inr n→Ext s s'→qb s'→kp (.iface 110 (.raw (.int .i64 ((n:Nat):Int)))) s'=true) :
  (sem Tryz.prog).call 60 [.ptr x 0,.agg (clL c)] s kr kp=true:=by
 refine qk H 95 qws rfl rfl ?_
 have m1:(s.nx=s.nx+1)=False:=by simp
 have m2:(s.nx+1=s.nx)=False:=by simp
 have hE:Ext s ((s.alloc (.cells (clL c) 41 0)).alloc (.cells (anL 0 0 0 0 [] nilS) 38 0)):=(Ext.alloc s _).trans (Ext.alloc _ _)
 have hB2:=qg (qg hB (.cells (clL c) 41 0)) (.cells (anL 0 0 0 0 [] nilS) 38 0)
 have hT2:=hT.ext hB hE
 have hx2:=(hE.2 x (hB x _ hx)).trans hx
 have hxs:=hB x _ hx
 have oo6:((6:Int)==6)=true:=rfl
 have oo7:((6:Int)==7)=false:=rfl
 have ecl:clL c=[.raw (.int .i64 6),.str c.path,.str c.path2,.raw (.int .i64 c.fd),.raw (.int .i64 c.off),.raw (.int .i64 c.num),.raw (.int .i64 c.mode),.str c.data]:=by unfold clL;rw[hop]
 rw[ecl] at hE hB2 hT2 hx2 ⊢
 repeat (first|with_reducible (refine q9 H ?_;constructor)|simp only[rB,rP,rQ,q8,qf,q7,qc,reduceIte,Nat.reduceAdd,Nat.reduceLT,Nat.reduceEqDiff,pe3,pf3,zn,qd,QD,qjk,qD,qA,m1,m2])
 refine Vx H hT2 hB2 hx2 hf (fun u nm s1 h1 h2 h3=>?_) (fun n s1 h1 h2 h3=>?_)
 ·obtain⟨ud,d,p,hud,hdp,hpp,hpb,hd6⟩:=ht u nm h1
  obtain⟨hn,hm⟩:=(hT2.ext hB2 h2) u ud hud
  have hus:=hB _ _ (hT u ud hud).1
  have hms:=hB _ _ (hT u ud hud).2
  have lk:=Yq (p:=nm) hm
  have c0:s1.h.get s.nx=some (.cells [.raw (.int .i64 6),.str c.path,.str c.path2,.raw (.int .i64 c.fd),.raw (.int .i64 c.off),.raw (.int .i64 c.num),.raw (.int .i64 c.mode),.str c.data] 41 0):=(h2.2 s.nx (by show s.nx < s.nx+1+1;omega)).trans ((zm (by show s.nx≠s.nx+1;omega)).trans qt)
  have c1:s1.h.get (s.nx+1)=some (.cells (anL 0 0 0 0 [] nilS) 38 0):=(h2.2 (s.nx+1) (by show s.nx+1 < s.nx+1+1;omega)).trans qt
  have hlt:=h3 _ _ c1
  have hE1:=hE.trans h2
  have hx1:=(hE1.2 x hxs).trans hx
  have w1:(s.nx=s1.nx)=False:=by simp;omega
  have w2:(s.nx=s1.nx+1)=False:=by simp;omega
  have w3:(s.nx+1=s1.nx)=False:=by simp;omega
  have w4:(s.nx+1=s1.nx+1)=False:=by simp;omega
  have w5:(s1.nx+1=s1.nx)=False:=by simp
  have w6:(u=s1.nx)=False:=by simp;have:=hE1.1;omega
  have w7:(u=s1.nx+1)=False:=by simp;have:=hE1.1;omega
  have w8:(s1.nx=s1.nx+1)=False:=by simp
  have bn:∀ m:Int,Qq TE 117 [(0,.raw (.int .i64 2)),(1,.raw (.int .i64 m)),(3,.map s1.nx)]=some (.agg [.raw (.int .i64 2),.raw (.int .i64 m),.str [],.map s1.nx,.raw (.pointer none),.str []]):=fun m=>by kernel_rfl
  cases hl:ql nm ud.kids with
  | some j =>
   rw[hl] at lk
   repeat (first|with_reducible (refine q9 H ?_;constructor)|simp only[rB,rP,rQ,q8,qf,q7,qc,reduceIte,Nat.reduceAdd,Nat.reduceLT,Nat.reduceEqDiff,pe3,pf3,qI,Q8,hn,hm,ndA,lk,QI,Zo,qwq]|(with_reducible refine qj H ?_))
   exact hk2 u nm ud j s1 h1 hud hl hE1 h3
  | none =>
  rw[hl] at lk
  have hE3:Ext s1 ({ h:=((s1.alloc (.map [])).alloc (.cells [.raw (.int .i64 2),.raw (.int .i64 c.mode),.str [],.map s1.nx,.raw (.pointer none),.str []] 117 0)).h.set (s1.nx+1) (.cells [.raw (.int .i64 1),.raw (.int .i64 c.mode),.str [],.map s1.nx,.raw (.pointer none),.str []] 117 0),nx:=s1.nx+1+1 }:St):=⟨by show s1.nx≤s1.nx+1+1;omega,fun j hj=>(qa (by omega)).trans ((zm (by show j≠s1.nx+1;omega)).trans (zm (by omega)))⟩
  have hB3:qb ({ h:=((s1.alloc (.map [])).alloc (.cells [.raw (.int .i64 2),.raw (.int .i64 c.mode),.str [],.map s1.nx,.raw (.pointer none),.str []] 117 0)).h.set (s1.nx+1) (.cells [.raw (.int .i64 1),.raw (.int .i64 c.mode),.str [],.map s1.nx,.raw (.pointer none),.str []] 117 0),nx:=s1.nx+1+1 }:St):=qe (qg (qg h3 _) _) (by show s1.nx+1 < s1.nx+1+1;omega) _
  have hT3:=(hT2.ext hB2 h2).ext h3 hE3
  have hEs:=hE1.trans hE3
  have hN:({ h:=((s1.alloc (.map [])).alloc (.cells [.raw (.int .i64 2),.raw (.int .i64 c.mode),.str [],.map s1.nx,.raw (.pointer none),.str []] 117 0)).h.set (s1.nx+1) (.cells [.raw (.int .i64 1),.raw (.int .i64 c.mode),.str [],.map s1.nx,.raw (.pointer none),.str []] 117 0),nx:=s1.nx+1+1 }:St).h.get (s1.nx+1)=some (.cells [.raw (.int .i64 1),.raw (.int .i64 c.mode),.str [],.map s1.nx,.raw (.pointer none),.str []] 117 0):=hs_same
  have hM:({ h:=((s1.alloc (.map [])).alloc (.cells [.raw (.int .i64 2),.raw (.int .i64 c.mode),.str [],.map s1.nx,.raw (.pointer none),.str []] 117 0)).h.set (s1.nx+1) (.cells [.raw (.int .i64 1),.raw (.int .i64 c.mode),.str [],.map s1.nx,.raw (.pointer none),.str []] 117 0),nx:=s1.nx+1+1 }:St).h.get s1.nx=some (.map []):=(qa (by omega)).trans ((zm (by show s1.nx≠s1.nx+1;omega)).trans qt)
  by_cases b1:c.mode < 0
  ·have e1:=decide_eq_true b1
   repeat (first|with_reducible (refine q9 H ?_;constructor)|simp only[rB,rP,rQ,q8,qf,q7,qc,reduceIte,Nat.reduceAdd,Nat.reduceLT,Nat.reduceEqDiff,pe3,pf3,QD,KN,qcg,qD,qA,qK,qI,c0,c1,qh,zX,zv,Zl,Qo,Qn,zw,qJ,oo6,oo7,Qe,JV,YF,Q8,hn,hm,ndA,lk,QI,bn,qd,w1,w2,w3,w4,w5,w6,w7,w8,Yo,JS,e1]|(with_reducible refine qv H ?_)|(with_reducible refine qj H ?_))
   exact hk5 u nm ud _ h1 hud hl (Or.inl b1) hEs hB3
  have e1:=decide_eq_false b1
  by_cases b2:c.mode > 511
  ·have e2:=decide_eq_true b2
   repeat (first|with_reducible (refine q9 H ?_;constructor)|simp only[rB,rP,rQ,q8,qf,q7,qc,reduceIte,Nat.reduceAdd,Nat.reduceLT,Nat.reduceEqDiff,pe3,pf3,QD,KN,qcg,qD,qA,qK,qI,c0,c1,qh,zX,zv,Zl,Qo,Qn,zw,qJ,oo6,oo7,Qe,JV,YF,Q8,hn,hm,ndA,lk,QI,bn,qd,w1,w2,w3,w4,w5,w6,w7,w8,Yo,JS,e1,e2]|(with_reducible refine qv H ?_)|(with_reducible refine qj H ?_))
   exact hk5 u nm ud _ h1 hud hl (Or.inr b2) hEs hB3
  have e2:=decide_eq_false b2
  have ew:IntKind.i64.wrap ((d:Int)+1)=((d+1:Nat):Int):=by
   rw[show (d:Int)+1=((d+1:Nat):Int) from by simp]
   exact qM (by omega)
  have ej:=fun {r a dst s k kp}=>Yg (r:=r) (a:=a) (dst:=dst) (s:=s) (k:=k) (kp:=kp) hpb
  have hx3:=(hEs.2 x hxs).trans hx
  have x0:(x=s1.nx)=False:=by simp;have:=hE1.1;omega
  have x0':(x=s1.nx+1)=False:=by simp;have:=hE1.1;omega
  cases hfit:Qy (d+1) (zd p nm).length with
  | false =>
   repeat (first|with_reducible (refine q9 H ?_;constructor)|simp only[rB,rP,rQ,q8,qf,q7,qc,reduceIte,Nat.reduceAdd,Nat.reduceLT,Nat.reduceEqDiff,pe3,pf3,QD,KN,qcg,qD,qA,qK,qI,c0,c1,qh,zX,zv,Zl,Qo,Qn,zw,qJ,oo6,oo7,Qe,JV,YF,Q8,hn,hm,ndA,lk,QI,bn,qd,w1,w2,w3,w4,w5,w6,w7,w8,Yo,JS,e1,e2,ew,ej,qO,qx,hfit]|(with_reducible refine qv H ?_)|(with_reducible refine qj H ?_)|(with_reducible refine Z2 H hT3 hdp ?_)|(with_reducible refine Qu H hT3 hpp ?_)|(with_reducible refine QX H ?_))
   exact hk8 u nm ud d p _ h1 hud hl (by omega) (by omega) hdp hpp hfit hEs hB3
  | true =>
  by_cases b3:many ≥ 128
  ·have e3:=decide_eq_true b3
   repeat (first|with_reducible (refine q9 H ?_;constructor)|simp only[rB,rP,rQ,q8,qf,q7,qc,reduceIte,Nat.reduceAdd,Nat.reduceLT,Nat.reduceEqDiff,pe3,pf3,QD,KN,qcg,qD,qA,qK,qI,c0,c1,qh,zX,zv,Zl,Qo,Qn,zw,qJ,oo6,oo7,Qe,JV,YF,Q8,hn,hm,ndA,lk,QI,bn,qd,w1,w2,w3,w4,w5,w6,w7,w8,Yo,JS,e1,e2,ew,ej,qO,qx,hfit,qgn,hx1,x0,x0',e3]|(with_reducible refine qv H ?_)|(with_reducible refine qj H ?_)|(with_reducible refine Z2 H hT3 hdp ?_)|(with_reducible refine Qu H hT3 hpp ?_)|(with_reducible refine QX H ?_))
   exact hk10 u nm ud d p _ h1 hud hl (by omega) (by omega) hdp hpp hfit b3 hEs hB3
  have e3:=decide_eq_false b3
  repeat (first|with_reducible (refine q9 H ?_;constructor)|simp only[rB,rP,rQ,q8,qf,q7,qc,reduceIte,Nat.reduceAdd,Nat.reduceLT,Nat.reduceEqDiff,pe3,pf3,QD,KN,qcg,qD,qA,qK,qI,c0,c1,qh,zX,zv,Zl,Qo,Qn,zw,qJ,oo6,oo7,Qe,JV,YF,Q8,hn,hm,ndA,lk,QI,bn,qd,w1,w2,w3,w4,w5,w6,w7,w8,Yo,JS,e1,e2,ew,ej,qO,qx,hfit,qgn,hx1,x0,x0',e3]|(with_reducible refine qv H ?_)|(with_reducible refine Z2 H hT3 hdp ?_)|(with_reducible refine Qu H hT3 hpp ?_)|(with_reducible refine QX H ?_))
  refine Vo H hB3 (hT3 u ud hud) (kd:={ kind:=1,mode:=c.mode,data:=[],kids:=[],up:=none,name:=[],mp:=s1.nx }) hN (by have:=hE1.1;omega) (fun s4 n4 chg hB4=>?_)
  have hs1:=hE1.1
  have n4':s4.nx=s1.nx+1+1:=n4
  have keep:∀ i,i < s1.nx+1→i≠ud.mp→s4.h.get i=({ h:=((s1.alloc (.map [])).alloc (.cells [.raw (.int .i64 2),.raw (.int .i64 c.mode),.str [],.map s1.nx,.raw (.pointer none),.str []] 117 0)).h.set (s1.nx+1) (.cells [.raw (.int .i64 1),.raw (.int .i64 c.mode),.str [],.map s1.nx,.raw (.pointer none),.str []] 117 0),nx:=s1.nx+1+1 }:St).h.get i:=fun i hi1 hi2=>chg.2.2 i (by show i < s1.nx+1+1;omega) (by
   intro q hq
   simp only[List.mem_cons,List.not_mem_nil,or_false] at hq
   rcases hq with rfl|rfl
   ·show i≠s1.nx+1;omega
   ·exact hi2)
  have hxm:x≠ud.mp:=by
   intro hh
   rw[hh,hm] at hx1
   cases hx1
  have hx4:=(keep x (by omega) hxm).trans hx3
  have hc4:=(keep (s.nx+1) (by omega) (by omega)).trans ((hE3.2 _ hlt).trans c1)
  have hN4:=chg.2.1 _ List.mem_cons_self
  have hm4:=chg.2.1 _ (List.mem_cons_of_mem _ List.mem_cons_self)
  have em:IntKind.i64.wrap (many+1)=many+1:=Go.IntWalk.i64_in _ (by omega)
  have y1:(s.nx+1=x)=False:=by simp;omega
  repeat (first|with_reducible (refine q9 H ?_;constructor)|simp only[rB,rP,rQ,q8,qf,q7,qc,reduceIte,Nat.reduceAdd,Nat.reduceLT,Nat.reduceEqDiff,pe3,pf3,qgn,qD,hx4,hc4,qO,em,Yo,y1,qha,Qj,zr,zb,zD,qY,Tryz.results60])
  refine hk u nm ud d p (s1.nx+1) _ h1 hud hl (by omega) (by omega) hdp hpp hfit (by omega) (by omega) ⟨by show s.nx≤s4.nx;omega,?_,?_⟩ ⟨s1.nx,⟨?_,?_⟩,hs1,by omega⟩ (qe (qe hB4 (hB4 _ _ hx4) _) (hB4 _ _ hc4) _)
  ·intro q hq
   simp only[List.mem_cons,List.not_mem_nil,or_false] at hq
   rcases hq with rfl|rfl
   ·exact (qa (by omega)).trans ((qa (fun hh=>hxm hh.symm)).trans hm4)
   ·exact (qa (by omega)).trans hs_same
  ·intro q hq hn'
   have g1:=hn' _ List.mem_cons_self
   have g2:=hn' _ (List.mem_cons_of_mem _ List.mem_cons_self)
   exact (qa (by omega)).trans ((qa g2).trans ((keep q (by omega) g1).trans (hEs.2 q hq)))
  ·exact (qa (by omega)).trans ((qa (by omega)).trans hN4)
  ·exact (qa (i:=s1.nx) (by omega)).trans ((qa (i:=s1.nx) (by omega)).trans ((keep s1.nx (by omega) (by omega)).trans hM))
 ·repeat (first|with_reducible (refine q9 H ?_;constructor)|simp only[rB,rP,rQ,q8,qf,q7,qc,reduceIte,Nat.reduceAdd,Nat.reduceLT,Nat.reduceEqDiff,pe3,pf3])
  exact hq n s1 h1 (hE.trans h2) h3
theorem qnb {s:St} (H:Ok TE Tryz.prog pr3) {T:zi} (hT:RepT s T) (hB:qb s) {x root cwd:Nat} {f0 f1 f2 f3 f4 f5 f6 f7:AV} {many:Int} (hx:s.h.get x=some (.cells [.ptr root 0,.ptr cwd 0,f0,f1,f2,f3,f4,f5,f6,f7,.raw (.int .i64 many)] 120 0)) (hmany:-1000000≤many∧many≤1000000)
  {c:Cl} (hop:c.op=7) {out:(Nat × List Nat) ⊕ Nat} (hf:zy T root cwd c.path=some out) (ht:∀ u nm,out=.inl (u,nm)→∃ ud d p,T u=some ud∧Qh T 20 u=some d∧zM T 20 u=some p∧Nat.ble (p.length+nm.length) 1000000=true∧d≤1000000)
  {kr kp:AV→St→Bool}
  (hk2:∀ u nm ud j s',out=.inl (u,nm)→T u=some ud→ql nm ud.kids=some j→Ext s s'→qb s'→kp (.iface 110 (.raw (.int .i64 2))) s'=true)
  (hk7:∀ u nm ud s',out=.inl (u,nm)→T u=some ud→ql nm ud.kids=none→Qw c.data=false→Ext s s'→qb s'→kp (.iface 110 (.raw (.int .i64 5))) s'=true)
  (hk8:∀ u nm ud d p s',out=.inl (u,nm)→T u=some ud→ql nm ud.kids=none→Qw c.data=true→Qh T 20 u=some d→zM T 20 u=some p→Qy (d+1) (zd p nm).length=false→Ext s s'→qb s'→kp (.iface 110 (.raw (.int .i64 8))) s'=true)
  (hk10:∀ u nm ud d p s',out=.inl (u,nm)→T u=some ud→ql nm ud.kids=none→Qw c.data=true→Qh T 20 u=some d→zM T 20 u=some p→Qy (d+1) (zd p nm).length=true→many ≥ 128→Ext s s'→qb s'→kp (.iface 110 (.raw (.int .i64 10))) s'=true)
  (hk:∀ u nm ud d p N s',out=.inl (u,nm)→T u=some ud→ql nm ud.kids=none→Qw c.data=true→Qh T 20 u=some d→zM T 20 u=some p→Qy (d+1) (zd p nm).length=true→many < 128→s.nx≤N→Chg s s' [(ud.mp,.map (qL (setK nm N ud.kids))),(x,.cells [.ptr root 0,.ptr cwd 0,f0,f1,f2,f3,f4,f5,f6,f7,.raw (.int .i64 (many+1))] 120 0)]→(∃ mp,qfz s' N { kind:=3,mode:=511,data:=c.data,kids:=[],up:=some u,name:=nm,mp:=mp }∧s.nx≤mp∧mp≠N)→qb s'→kr (.agg (anL 0 0 0 0 [] nilS)) s'=true)
  (hq:∀ n s',out=.inr n→Ext s s'→qb s'→kp (.iface 110 (.raw (.int .i64 ((n:Nat):Int)))) s'=true) :
  (sem Tryz.prog).call 60 [.ptr x 0,.agg (clL c)] s kr kp=true:=by
 refine qk H 95 qws rfl rfl ?_
 have m1:(s.nx=s.nx+1)=False:=by simp
 have m2:(s.nx+1=s.nx)=False:=by simp
 have hE:Ext s ((s.alloc (.cells (clL c) 41 0)).alloc (.cells (anL 0 0 0 0 [] nilS) 38 0)):=(Ext.alloc s _).trans (Ext.alloc _ _)
 have hB2:=qg (qg hB (.cells (clL c) 41 0)) (.cells (anL 0 0 0 0 [] nilS) 38 0)
 have hT2:=hT.ext hB hE
 have hx2:=(hE.2 x (hB x _ hx)).trans hx
 have hxs:=hB x _ hx
 have oo6:((7:Int)==6)=false:=rfl
 have oo7:((7:Int)==7)=true:=rfl
 have ecl:clL c=[.raw (.int .i64 7),.str c.path,.str c.path2,.raw (.int .i64 c.fd),.raw (.int .i64 c.off),.raw (.int .i64 c.num),.raw (.int .i64 c.mode),.str c.data]:=by unfold clL;rw[hop]
 rw[ecl] at hE hB2 hT2 hx2 ⊢
 repeat (first|with_reducible (refine q9 H ?_;constructor)|simp only[rB,rP,rQ,q8,qf,q7,qc,reduceIte,Nat.reduceAdd,Nat.reduceLT,Nat.reduceEqDiff,pe3,pf3,zn,qd,QD,qjk,qD,qA,m1,m2])
 refine Vx H hT2 hB2 hx2 hf (fun u nm s1 h1 h2 h3=>?_) (fun n s1 h1 h2 h3=>?_)
 ·obtain⟨ud,d,p,hud,hdp,hpp,hpb,hd6⟩:=ht u nm h1
  obtain⟨hn,hm⟩:=(hT2.ext hB2 h2) u ud hud
  have hus:=hB _ _ (hT u ud hud).1
  have hms:=hB _ _ (hT u ud hud).2
  have lk:=Yq (p:=nm) hm
  have c0:s1.h.get s.nx=some (.cells [.raw (.int .i64 7),.str c.path,.str c.path2,.raw (.int .i64 c.fd),.raw (.int .i64 c.off),.raw (.int .i64 c.num),.raw (.int .i64 c.mode),.str c.data] 41 0):=(h2.2 s.nx (by show s.nx < s.nx+1+1;omega)).trans ((zm (by show s.nx≠s.nx+1;omega)).trans qt)
  have c1:s1.h.get (s.nx+1)=some (.cells (anL 0 0 0 0 [] nilS) 38 0):=(h2.2 (s.nx+1) (by show s.nx+1 < s.nx+1+1;omega)).trans qt
  have hlt:=h3 _ _ c1
  have hE1:=hE.trans h2
  have hx1:=(hE1.2 x hxs).trans hx
  have w1:(s.nx=s1.nx)=False:=by simp;omega
  have w2:(s.nx=s1.nx+1)=False:=by simp;omega
  have w3:(s.nx+1=s1.nx)=False:=by simp;omega
  have w4:(s.nx+1=s1.nx+1)=False:=by simp;omega
  have w5:(s1.nx+1=s1.nx)=False:=by simp
  have w6:(u=s1.nx)=False:=by simp;have:=hE1.1;omega
  have w7:(u=s1.nx+1)=False:=by simp;have:=hE1.1;omega
  have w8:(s1.nx=s1.nx+1)=False:=by simp
  have bn:∀ m:Int,Qq TE 117 [(0,.raw (.int .i64 2)),(1,.raw (.int .i64 m)),(3,.map s1.nx)]=some (.agg [.raw (.int .i64 2),.raw (.int .i64 m),.str [],.map s1.nx,.raw (.pointer none),.str []]):=fun m=>by kernel_rfl
  cases hl:ql nm ud.kids with
  | some j =>
   rw[hl] at lk
   repeat (first|with_reducible (refine q9 H ?_;constructor)|simp only[rB,rP,rQ,q8,qf,q7,qc,reduceIte,Nat.reduceAdd,Nat.reduceLT,Nat.reduceEqDiff,pe3,pf3,qI,Q8,hn,hm,ndA,lk,QI,Zo,qwq]|(with_reducible refine qj H ?_))
   exact hk2 u nm ud j s1 h1 hud hl hE1 h3
  | none =>
  rw[hl] at lk
  have hE3:Ext s1 ({ h:=((((s1.alloc (.map [])).alloc (.cells [.raw (.int .i64 2),.raw (.int .i64 c.mode),.str [],.map s1.nx,.raw (.pointer none),.str []] 117 0)).h.set (s1.nx+1) (.cells [.raw (.int .i64 3),.raw (.int .i64 c.mode),.str [],.map s1.nx,.raw (.pointer none),.str []] 117 0)).set (s1.nx+1) (.cells [.raw (.int .i64 3),.raw (.int .i64 511),.str [],.map s1.nx,.raw (.pointer none),.str []] 117 0)).set (s1.nx+1) (.cells [.raw (.int .i64 3),.raw (.int .i64 511),.str c.data,.map s1.nx,.raw (.pointer none),.str []] 117 0),nx:=s1.nx+1+1 }:St):=⟨by show s1.nx≤s1.nx+1+1;omega,fun j hj=>(qa (by omega)).trans ((qa (by omega)).trans ((qa (by omega)).trans ((zm (by show j≠s1.nx+1;omega)).trans (zm (by omega)))))⟩
  have hB3:qb ({ h:=((((s1.alloc (.map [])).alloc (.cells [.raw (.int .i64 2),.raw (.int .i64 c.mode),.str [],.map s1.nx,.raw (.pointer none),.str []] 117 0)).h.set (s1.nx+1) (.cells [.raw (.int .i64 3),.raw (.int .i64 c.mode),.str [],.map s1.nx,.raw (.pointer none),.str []] 117 0)).set (s1.nx+1) (.cells [.raw (.int .i64 3),.raw (.int .i64 511),.str [],.map s1.nx,.raw (.pointer none),.str []] 117 0)).set (s1.nx+1) (.cells [.raw (.int .i64 3),.raw (.int .i64 511),.str c.data,.map s1.nx,.raw (.pointer none),.str []] 117 0),nx:=s1.nx+1+1 }:St):=qe (qe (qe (qg (qg h3 _) _) (by show s1.nx+1 < s1.nx+1+1;omega) _) (by show s1.nx+1 < s1.nx+1+1;omega) _) (by show s1.nx+1 < s1.nx+1+1;omega) _
  have hT3:=(hT2.ext hB2 h2).ext h3 hE3
  have hEs:=hE1.trans hE3
  have hN:({ h:=((((s1.alloc (.map [])).alloc (.cells [.raw (.int .i64 2),.raw (.int .i64 c.mode),.str [],.map s1.nx,.raw (.pointer none),.str []] 117 0)).h.set (s1.nx+1) (.cells [.raw (.int .i64 3),.raw (.int .i64 c.mode),.str [],.map s1.nx,.raw (.pointer none),.str []] 117 0)).set (s1.nx+1) (.cells [.raw (.int .i64 3),.raw (.int .i64 511),.str [],.map s1.nx,.raw (.pointer none),.str []] 117 0)).set (s1.nx+1) (.cells [.raw (.int .i64 3),.raw (.int .i64 511),.str c.data,.map s1.nx,.raw (.pointer none),.str []] 117 0),nx:=s1.nx+1+1 }:St).h.get (s1.nx+1)=some (.cells [.raw (.int .i64 3),.raw (.int .i64 511),.str c.data,.map s1.nx,.raw (.pointer none),.str []] 117 0):=hs_same
  have hM:({ h:=((((s1.alloc (.map [])).alloc (.cells [.raw (.int .i64 2),.raw (.int .i64 c.mode),.str [],.map s1.nx,.raw (.pointer none),.str []] 117 0)).h.set (s1.nx+1) (.cells [.raw (.int .i64 3),.raw (.int .i64 c.mode),.str [],.map s1.nx,.raw (.pointer none),.str []] 117 0)).set (s1.nx+1) (.cells [.raw (.int .i64 3),.raw (.int .i64 511),.str [],.map s1.nx,.raw (.pointer none),.str []] 117 0)).set (s1.nx+1) (.cells [.raw (.int .i64 3),.raw (.int .i64 511),.str c.data,.map s1.nx,.raw (.pointer none),.str []] 117 0),nx:=s1.nx+1+1 }:St).h.get s1.nx=some (.map []):=(qa (by omega)).trans ((qa (by omega)).trans ((qa (by omega)).trans ((zm (by show s1.nx≠s1.nx+1;omega)).trans qt)))
  cases htg:Qw c.data with
  | false =>
   repeat (first|with_reducible (refine q9 H ?_;constructor)|simp only[rB,rP,rQ,q8,qf,q7,qc,reduceIte,Nat.reduceAdd,Nat.reduceLT,Nat.reduceEqDiff,pe3,pf3,QD,KN,qcg,qD,qA,qK,qI,c0,c1,qh,zX,zv,Zl,Qo,Qn,zw,qJ,oo6,oo7,Qe,JV,YF,Q8,hn,hm,ndA,lk,QI,bn,qd,w1,w2,w3,w4,w5,w6,w7,w8,Yo,JS,htg]|(with_reducible refine qq H (i:=8) (.take 0 (.take 1 (.take 2 (.take 3 (.take 4 (.take 5 (.take 6 (.alt 7 [0,5,6] (.take 8 (.take 9 (.alt 10 [0,1,5,6,7,8,9] (.take 11 (.take 12 (.alt 13 [0,1,2,3,4,5,6,7,8,9,10,11,12] (.done) (.yes)))) (.yes)))) (.yes))))))))) rfl (by kernel_rfl) ?_)|(with_reducible refine qq H (i:=8) (.take 0 (.take 1 (.take 2 (.take 3 (.take 4 (.take 5 (.take 6 (.alt 7 [0,5,6] (.take 8 (.take 9 (.alt 10 [0,1,5,6,7,8,9] (.take 11 (.take 12 (.alt 13 [0,1,2,3,4,5,6,7,8,9,10,11,12] (.done) (.yes)))) (.yes)))) (.yes))))))))) rfl (by kernel_rfl) ?_)|(with_reducible refine JG H ?_)|(with_reducible refine qv H ?_)|(with_reducible refine qj H ?_)|(with_reducible refine JG H ?_))
   exact hk7 u nm ud _ h1 hud hl htg hEs hB3
  | true =>
  have e1:decide ((511:Int) < 0)=false:=rfl
  have e2:decide ((511:Int) > 511)=false:=rfl
  have ew:IntKind.i64.wrap ((d:Int)+1)=((d+1:Nat):Int):=by
   rw[show (d:Int)+1=((d+1:Nat):Int) from by simp]
   exact qM (by omega)
  have ej:=fun {r a dst s k kp}=>Yg (r:=r) (a:=a) (dst:=dst) (s:=s) (k:=k) (kp:=kp) hpb
  have hx3:=(hEs.2 x hxs).trans hx
  have x0:(x=s1.nx)=False:=by simp;have:=hE1.1;omega
  have x0':(x=s1.nx+1)=False:=by simp;have:=hE1.1;omega
  cases hfit:Qy (d+1) (zd p nm).length with
  | false =>
   repeat (first|with_reducible (refine q9 H ?_;constructor)|simp only[rB,rP,rQ,q8,qf,q7,qc,reduceIte,Nat.reduceAdd,Nat.reduceLT,Nat.reduceEqDiff,pe3,pf3,QD,KN,qcg,qD,qA,qK,qI,c0,c1,qh,zX,zv,Zl,Qo,Qn,zw,qJ,oo6,oo7,Qe,JV,YF,Q8,hn,hm,ndA,lk,QI,bn,qd,w1,w2,w3,w4,w5,w6,w7,w8,Yo,JS,htg,e1,e2,ew,ej,qO,qx,hfit]|(with_reducible refine qq H (i:=8) (.take 0 (.take 1 (.take 2 (.take 3 (.take 4 (.take 5 (.take 6 (.alt 7 [0,5,6] (.take 8 (.take 9 (.alt 10 [0,1,5,6,7,8,9] (.take 11 (.take 12 (.alt 13 [0,1,2,3,4,5,6,7,8,9,10,11,12] (.done) (.yes)))) (.yes)))) (.yes))))))))) rfl (by kernel_rfl) ?_)|(with_reducible refine JG H ?_)|(with_reducible refine qv H ?_)|(with_reducible refine qj H ?_)|(with_reducible refine Z2 H hT3 hdp ?_)|(with_reducible refine Qu H hT3 hpp ?_)|(with_reducible refine QX H ?_))
   exact hk8 u nm ud d p _ h1 hud hl htg hdp hpp hfit hEs hB3
  | true =>
  by_cases b3:many ≥ 128
  ·have e3:=decide_eq_true b3
   repeat (first|with_reducible (refine q9 H ?_;constructor)|simp only[rB,rP,rQ,q8,qf,q7,qc,reduceIte,Nat.reduceAdd,Nat.reduceLT,Nat.reduceEqDiff,pe3,pf3,QD,KN,qcg,qD,qA,qK,qI,c0,c1,qh,zX,zv,Zl,Qo,Qn,zw,qJ,oo6,oo7,Qe,JV,YF,Q8,hn,hm,ndA,lk,QI,bn,qd,w1,w2,w3,w4,w5,w6,w7,w8,Yo,JS,htg,e1,e2,ew,ej,qO,qx,hfit,qgn,hx1,x0,x0',e3]|(with_reducible refine qq H (i:=8) (.take 0 (.take 1 (.take 2 (.take 3 (.take 4 (.take 5 (.take 6 (.alt 7 [0,5,6] (.take 8 (.take 9 (.alt 10 [0,1,5,6,7,8,9] (.take 11 (.take 12 (.alt 13 [0,1,2,3,4,5,6,7,8,9,10,11,12] (.done) (.yes)))) (.yes)))) (.yes))))))))) rfl (by kernel_rfl) ?_)|(with_reducible refine JG H ?_)|(with_reducible refine qv H ?_)|(with_reducible refine qj H ?_)|(with_reducible refine Z2 H hT3 hdp ?_)|(with_reducible refine Qu H hT3 hpp ?_)|(with_reducible refine QX H ?_))
   exact hk10 u nm ud d p _ h1 hud hl htg hdp hpp hfit b3 hEs hB3
  have e3:=decide_eq_false b3
  repeat (first|with_reducible (refine q9 H ?_;constructor)|simp only[rB,rP,rQ,q8,qf,q7,qc,reduceIte,Nat.reduceAdd,Nat.reduceLT,Nat.reduceEqDiff,pe3,pf3,QD,KN,qcg,qD,qA,qK,qI,c0,c1,qh,zX,zv,Zl,Qo,Qn,zw,qJ,oo6,oo7,Qe,JV,YF,Q8,hn,hm,ndA,lk,QI,bn,qd,w1,w2,w3,w4,w5,w6,w7,w8,Yo,JS,htg,e1,e2,ew,ej,qO,qx,hfit,qgn,hx1,x0,x0',e3]|(with_reducible refine qq H (i:=8) (.take 0 (.take 1 (.take 2 (.take 3 (.take 4 (.take 5 (.take 6 (.alt 7 [0,5,6] (.take 8 (.take 9 (.alt 10 [0,1,5,6,7,8,9] (.take 11 (.take 12 (.alt 13 [0,1,2,3,4,5,6,7,8,9,10,11,12] (.done) (.yes)))) (.yes)))) (.yes))))))))) rfl (by kernel_rfl) ?_)|(with_reducible refine JG H ?_)|(with_reducible refine qv H ?_)|(with_reducible refine Z2 H hT3 hdp ?_)|(with_reducible refine Qu H hT3 hpp ?_)|(with_reducible refine QX H ?_))
  refine Vo H hB3 (hT3 u ud hud) (kd:={ kind:=3,mode:=511,data:=c.data,kids:=[],up:=none,name:=[],mp:=s1.nx }) hN (by have:=hE1.1;omega) (fun s4 n4 chg hB4=>?_)
  have hs1:=hE1.1
  have n4':s4.nx=s1.nx+1+1:=n4
  have keep:∀ i,i < s1.nx+1→i≠ud.mp→s4.h.get i=({ h:=((((s1.alloc (.map [])).alloc (.cells [.raw (.int .i64 2),.raw (.int .i64 c.mode),.str [],.map s1.nx,.raw (.pointer none),.str []] 117 0)).h.set (s1.nx+1) (.cells [.raw (.int .i64 3),.raw (.int .i64 c.mode),.str [],.map s1.nx,.raw (.pointer none),.str []] 117 0)).set (s1.nx+1) (.cells [.raw (.int .i64 3),.raw (.int .i64 511),.str [],.map s1.nx,.raw (.pointer none),.str []] 117 0)).set (s1.nx+1) (.cells [.raw (.int .i64 3),.raw (.int .i64 511),.str c.data,.map s1.nx,.raw (.pointer none),.str []] 117 0),nx:=s1.nx+1+1 }:St).h.get i:=fun i hi1 hi2=>chg.2.2 i (by show i < s1.nx+1+1;omega) (by
   intro q hq
   simp only[List.mem_cons,List.not_mem_nil,or_false] at hq
   rcases hq with rfl|rfl
   ·show i≠s1.nx+1;omega
   ·exact hi2)
  have hxm:x≠ud.mp:=by
   intro hh
   rw[hh,hm] at hx1
   cases hx1
  have hx4:=(keep x (by omega) hxm).trans hx3
  have hc4:=(keep (s.nx+1) (by omega) (by omega)).trans ((hE3.2 _ hlt).trans c1)
  have hN4:=chg.2.1 _ List.mem_cons_self
  have hm4:=chg.2.1 _ (List.mem_cons_of_mem _ List.mem_cons_self)
  have em:IntKind.i64.wrap (many+1)=many+1:=Go.IntWalk.i64_in _ (by omega)
  have y1:(s.nx+1=x)=False:=by simp;omega
  repeat (first|with_reducible (refine q9 H ?_;constructor)|simp only[rB,rP,rQ,q8,qf,q7,qc,reduceIte,Nat.reduceAdd,Nat.reduceLT,Nat.reduceEqDiff,pe3,pf3,qgn,qD,hx4,hc4,qO,em,Yo,y1,qha,Qj,zr,zb,zD,qY,Tryz.results60])
  refine hk u nm ud d p (s1.nx+1) _ h1 hud hl htg hdp hpp hfit (by omega) (by omega) ⟨by show s.nx≤s4.nx;omega,?_,?_⟩ ⟨s1.nx,⟨?_,?_⟩,hs1,by omega⟩ (qe (qe hB4 (hB4 _ _ hx4) _) (hB4 _ _ hc4) _)
  ·intro q hq
   simp only[List.mem_cons,List.not_mem_nil,or_false] at hq
   rcases hq with rfl|rfl
   ·exact (qa (by omega)).trans ((qa (fun hh=>hxm hh.symm)).trans hm4)
   ·exact (qa (by omega)).trans hs_same
  ·intro q hq hn'
   have g1:=hn' _ List.mem_cons_self
   have g2:=hn' _ (List.mem_cons_of_mem _ List.mem_cons_self)
   exact (qa (by omega)).trans ((qa g2).trans ((keep q (by omega) g1).trans (hEs.2 q hq)))
  ·exact (qa (by omega)).trans ((qa (by omega)).trans hN4)
  ·exact (qa (i:=s1.nx) (by omega)).trans ((qa (i:=s1.nx) (by omega)).trans ((keep s1.nx (by omega) (by omega)).trans hM))
 ·repeat (first|with_reducible (refine q9 H ?_;constructor)|simp only[rB,rP,rQ,q8,qf,q7,qc,reduceIte,Nat.reduceAdd,Nat.reduceLT,Nat.reduceEqDiff,pe3,pf3])
  exact hq n s1 h1 (hE.trans h2) h3
theorem q3m {t:Tr AV} {m:Nat} {s:St}:q7 TE Tryz.f58 ⟨t,m,[]⟩ s=some (.tuple []):=by
 simp only[q7,Tryz.results58]
 rfl
theorem b_in {t:TypeId} {v u:AV}:qN .neq (.iface t v) u=none:=(rfl)
theorem b_nn {u:AV}:qN .neq (.raw .nilIface) u=none:=(rfl)
theorem q5s {s:St} {t:TypeId} {v:AV} {d:Option (AV × List Nat)}:eqS TE s .neq 20 (.iface t v) (.raw .nilIface) d=some (.raw (.bool true),[]):=by kernel_rfl
theorem q3y {v:AV}:Vc TE (.iface 110 v) 110 true=some (.tuple [v,.raw (.bool true)]):=by kernel_rfl
theorem q6a {n:Int}:Qq TE 38 [(0,.raw (.int .i64 n))]=some (.agg (anL n 0 0 0 [] nilS)):=by kernel_rfl
theorem qpi {a:Ac}:a.eval (.const .nilIface)=.raw .nilIface:=(rfl)
theorem VS {s:St} (H:Ok TE Tryz.prog pr3) {fn:Func} {a:Ac} {kr kp:AV→St→Bool} {ds:List AD} {A:Nat} {n:Int} {st nu k m:Int} {d:List Nat} {N:AV} (hA:s.h.get A=some (.cells (anL st nu k m d N) 38 0))
  (hk:zG TE (sem Tryz.prog) fn a kr kp ds none { s with h:=s.h.set A (.cells (anL n 0 0 0 [] nilS) 38 0) }=true) :
  zG TE (sem Tryz.prog) fn a kr kp (.call 58 [.ptr A 0]::ds) (some (.iface 110 (.raw (.int .i64 n)))) s=true:=by
 rw[VY 17 q2c rfl rfl]
 repeat (first|with_reducible (refine q9 H ?_;constructor)|simp only[rB,rQ,reduceIte,Nat.reduceLT,Nat.reduceEqDiff,pe3,pf3,Option.map_some,qsz,qn6,qa2,qsh,qo5,q0z,q1f,q67,qsn,qsj,qfm,VJ,b_in,q5s,qpi,q3y,q6a,Qj,zr,zb,hA,ZC,qe3 q3m,qs3 q3m])
 exact hk
theorem q1a {i:Nat}:zp TE.P (do let r ← (do eqGuard .neq 20 (.tmp i) (.const .nilIface) .nilIface .nilIface;binOp .neq 20 .nilIface .nilIface);pure (Next.value r))=some (.value (.bool false)):=by kernel_rfl
def qom:AV→Bool
 | .raw .nilIface=>true
 | _=>false
theorem nili:qom (.raw .nilIface)=true:=(rfl)
theorem q54 {a:Ac} {dst:Option Tmp} {i:Nat} {ty:TypeId} {pos:String} {after:Array Edge} (hx:qom (a.eval (.tmp i))=true) :
  qz TE a ⟨dst,.binOp .neq 20 (.tmp i) (.const .nilIface) 20,ty,pos,after,none⟩=some (.raw (.bool false),[]):=by
 have hx:a.eval (.tmp i)=.raw .nilIface:=by
  unfold qom at hx
  split at hx
  ·assumption
  ·cases hx
 have h1:zO a (.tmp i)=.nilIface:=by simp[zO,hx,Q9]
 have h2:zO a (.const .nilIface)=.nilIface:=rfl
 have hall:(Op.operands (.binOp .neq 20 (.tmp i) (.const .nilIface) 20)).toList.all (fun x=>(Q9 (a.eval x)).isSome)=true:=by
  show (List.all [.tmp i,.const .nilIface] (fun x=>(Q9 (a.eval x)).isSome))=true
  simp only[List.all_cons,List.all_nil,hx]
  rfl
 have hr:zp TE.P (execOp (zO a) ⟨dst,.binOp .neq 20 (.tmp i) (.const .nilIface) 20,ty,pos,after,none⟩)=some (.value (.bool false)):=by
  have he:execOp (zO a) ⟨dst,.binOp .neq 20 (.tmp i) (.const .nilIface) 20,ty,pos,after,none⟩=(do let r ← (do eqGuard .neq 20 (.tmp i) (.const .nilIface) .nilIface .nilIface;binOp .neq 20 .nilIface .nilIface);pure (.value r)):=by
   simp only[execOp,h1,h2]
  rw[he]
  exact q1a
 simp only[qz,hall,cond_true,hr]
 rfl
theorem q6q {s:St} {d:Option (AV × List Nat)}:eqS TE s .neq 20 (.raw .nilIface) (.raw .nilIface) d=d:=by kernel_rfl
theorem XZ {s:St} (H:Ok TE Tryz.prog pr3) {fn:Func} {a:Ac} {kr kp:AV→St→Bool} {ds:List AD} {A:Nat} (hk:zG TE (sem Tryz.prog) fn a kr kp ds none s=true) :
  zG TE (sem Tryz.prog) fn a kr kp (.call 58 [.ptr A 0]::ds) none s=true:=by
 rw[VY 17 q2c rfl rfl]
 repeat (first|with_reducible (refine q9 H ?_;constructor)|simp only[rB,rQ,reduceIte,Nat.reduceLT,Nat.reduceEqDiff,pe3,pf3,Option.map_none,qsz,qn6,qa2,qsh,qo5,qun,q1f,q67,qsn,qsj,qfm,VJ,b_nn,q6q,q54,nili,qpi,ZC,qe3 q3m,qs3 q3m])
 exact hk
def Vl:List (Option Nat)→Nat→Option Nat
 | [],_=>none
 | none::_,i=>some i
 | some _::l,i=>Vl l (i+1)
theorem q6j {s:St} {i j:Nat} {d:Option (AV × List Nat)}:eqS TE s .eql 112 (.raw (.pointer none)) (.ptr i j) d=some (.raw (.bool false),[]):=by kernel_rfl
theorem qzt {i j:Nat}:zp TE.P (do let r ← (do eqGuard .eql 112 (.tmp i) (.tmp j) (.pointer none) (.pointer none);binOp .eql 112 (.pointer none) (.pointer none));pure (Next.value r))=some (.value (.bool true)):=by kernel_rfl
theorem q6e {a:Ac} {dst:Option Tmp} {i j:Nat} {ty:TypeId} {pos:String} {after:Array Edge} (hx:KY (a.eval (.tmp i))=true) (hy:KY (a.eval (.tmp j))=true) :
  qz TE a ⟨dst,.binOp .eql 112 (.tmp i) (.tmp j) 112,ty,pos,after,none⟩=some (.raw (.bool true),[]):=by
 have hx:=XE hx
 have hy:=XE hy
 have h1:zO a (.tmp i)=.pointer none:=by simp[zO,hx,Q9]
 have h2:zO a (.tmp j)=.pointer none:=by simp[zO,hy,Q9]
 have hall:(Op.operands (.binOp .eql 112 (.tmp i) (.tmp j) 112)).toList.all (fun x=>(Q9 (a.eval x)).isSome)=true:=by
  show (List.all [.tmp i,.tmp j] (fun x=>(Q9 (a.eval x)).isSome))=true
  simp only[List.all_cons,List.all_nil,hx,hy]
  rfl
 have hr:zp TE.P (execOp (zO a) ⟨dst,.binOp .eql 112 (.tmp i) (.tmp j) 112,ty,pos,after,none⟩)=some (.value (.bool true)):=by
  have he:execOp (zO a) ⟨dst,.binOp .eql 112 (.tmp i) (.tmp j) 112,ty,pos,after,none⟩=(do let r ← (do eqGuard .eql 112 (.tmp i) (.tmp j) (.pointer none) (.pointer none);binOp .eql 112 (.pointer none) (.pointer none));pure (.value r)):=by
   simp only[execOp,h1,h2]
  rw[he]
  exact qzt
 simp only[qz,hall,cond_true,hr]
 rfl
theorem q4a {s:St} {x:Nat}:Qv TE s [160] [.slice x 2 8 0 8 true]=some (.raw (.int .i64 8)):=by kernel_rfl
theorem qnq {s:St} (H:Ok TE Tryz.prog pr3) {x root cwd:Nat} {fds:List (Option Nat)} {many:Int} (hx:s.h.get x=some (.cells (.ptr root 0::.ptr cwd 0::(fds.map upA++[.raw (.int .i64 many)])) 120 0)) (h8:fds.length=8) {kr kp:AV→St→Bool}
  (hk:∀ i,Vl fds 0=some i→kr (.raw (.int .i64 (i:Int))) s=true) (hk0:Vl fds 0=none→kr (.raw (.int .i64 (-1))) s=true) :
  (sem Tryz.prog).call 112 [.slice x 2 8 0 8 true,.raw (.pointer none)] s kr kp=true:=by
 refine qk H 19 q0n rfl rfl ?_
 repeat (first|with_reducible (refine q9 H ?_;constructor)|simp only[rB,rQ,q8,q7,qc,reduceIte,Nat.reduceLT,Nat.reduceEqDiff,pe3,pf3,q4a])
 refine qZ H (fun n t s'=>∃ k:Nat,n=8 - k∧k≤8∧s'=s∧tg t 0=.slice x 2 8 0 8 true∧tg t 1=.raw (.pointer none)∧tg t 7=.raw (.int .i64 8)∧tg t 8=.raw (.int .i64 (k:Int))∧Vl fds 0=Vl (fds.drop k) k)
  ⟨0,rfl,by omega,rfl,by simp only[rB,rQ,q8,q7,qc,reduceIte,Nat.reduceLT,Nat.reduceEqDiff],by simp only[rB,rQ,q8,q7,qc,reduceIte,Nat.reduceLT,Nat.reduceEqDiff],by simp only[rB,rQ,q8,q7,qc,reduceIte,Nat.reduceLT,Nat.reduceEqDiff],by simp only[rB,rQ,q8,q7,qc,reduceIte,Nat.reduceLT,Nat.reduceEqDiff];rfl,rfl⟩ ?_
 rintro n t s' ih ⟨k,hn,hk8,rfl,t0,t1,t7,t8,hfr⟩
 by_cases hlt:k < 8
 ·have e1:decide ((k:Int) < 8)=true:=by rw[decide_eq_true_eq];omega
  obtain⟨o,ho⟩:∃ o,fds[k]?=some o:=⟨fds[k],by rw[List.getElem?_eq_getElem]⟩
  have hdr:fds.drop k=o::fds.drop (k+1):=by rw[List.drop_eq_getElem_cons (by omega)];rw[List.getElem?_eq_getElem (by omega)] at ho;cases ho;rfl
  have ia:qQ TE 160 (.slice x 2 8 0 8 true) (.raw (.int .i64 (k:Int)))=some (.ptr x (2+k)):=by
   have e:qQ TE 160 (.slice x 2 8 0 8 true) (.raw (.int .i64 (k:Int)))=(bif Nat.blt k 8 then some (.ptr x (2+k * 1)) else none):=by kernel_rfl
   rw[e,Nat.blt_eq.mpr hlt,Nat.mul_one]
   rfl
  have hcell:(AV.ptr root 0::.ptr cwd 0::(fds.map upA++[.raw (.int .i64 many)]))[2+k]?=some (upA o):=by
   rw[show 2+k=k+1+1 from by omega,List.getElem?_cons_succ,List.getElem?_cons_succ,List.getElem?_append_left (by simp;omega),List.getElem?_map,ho]
   rfl
  have ew:IntKind.i64.wrap ((k:Int)+1)=((k+1:Nat):Int):=by
   rw[show (k:Int)+1=((k+1:Nat):Int) from by simp]
   exact qM (by omega)
  rw[hdr] at hfr
  cases o with
  | none =>
   repeat (first|with_reducible (refine q9 H ?_;constructor)|simp only[rB,rQ,q8,q7,qc,reduceIte,Nat.reduceLT,Nat.reduceEqDiff,pe3,pf3,t0,t1,t7,t8,zX,e1,ia,qK,hx,hcell,upA,Vv,Q4,q6e,qJ,Tryz.results112])
   exact hk k (by rw[hfr];rfl)
  | some j =>
   repeat (first|with_reducible (refine q9 H ?_;constructor)|simp only[rB,rQ,q8,q7,qc,reduceIte,Nat.reduceLT,Nat.reduceEqDiff,pe3,pf3,t0,t1,t7,t8,zX,e1,ia,qK,hx,hcell,upA,Vv,q6j,qO,ew])
   exact ih (8 - (k+1)) _ _ (by omega) ⟨k+1,rfl,by omega,rfl,by simp only[rB,rQ,q8,q7,qc,reduceIte,Nat.reduceLT,Nat.reduceEqDiff,t0],by simp only[rB,rQ,q8,q7,qc,reduceIte,Nat.reduceLT,Nat.reduceEqDiff,t1],by simp only[rB,rQ,q8,q7,qc,reduceIte,Nat.reduceLT,Nat.reduceEqDiff,t7],by simp only[rB,rQ,q8,q7,qc,reduceIte,Nat.reduceLT,Nat.reduceEqDiff],by rw[hfr];rfl⟩
 ·have e1:decide ((k:Int) < 8)=false:=by rw[decide_eq_false_iff_not];omega
  have:fds.drop k=[]:=List.drop_eq_nil_of_le (by omega)
  rw[this] at hfr
  repeat (first|with_reducible (refine q9 H ?_;constructor)|simp only[rB,rQ,q8,q7,qc,reduceIte,Nat.reduceLT,Nat.reduceEqDiff,pe3,pf3,t0,t1,t7,t8,zX,e1,Tryz.results112])
  exact hk0 hfr
theorem qo3 {o:Option Nat} {tl:List AV}:∀ {fds:List (Option Nat)} {i:Nat},i < fds.length→JF (fds.map upA++tl) i [upA o]=some ((fds.set i o).map upA++tl)
 | [],_,h=>by simp at h
 | y::l,0,_=>by simp only[List.map_cons,List.cons_append,qor,List.set_cons_zero]
 | y::l,i+1,h=>by
  have ih:=qo3 (o:=o) (tl:=tl) (fds:=l) (i:=i) (by simpa using h)
  simp only[List.map_cons,List.cons_append,qci,ih,List.set_cons_succ]
theorem qs8 {o:Option Nat} {a b:AV} {tl:List AV} {fds:List (Option Nat)} {i:Nat} (h:i < fds.length):JF (a::b::(fds.map upA++tl)) (2+i) [upA o]=some (a::b::((fds.set i o).map upA++tl)):=by
 rw[show 2+i=i+1+1 from by omega,qci,qci,qo3 h]
theorem qxx {x:Nat}:qn TE 120 (.ptr x 0) 2=some (.ptr x 2):=by kernel_rfl
theorem q0x {x:Nat}:zq TE 118 (.ptr x 2) none none none=some (.slice x 2 8 0 8 true):=by kernel_rfl
theorem qnx {x i:Nat} (h:i < 8):qQ TE 118 (.ptr x 2) (.raw (.int .i64 (i:Int)))=some (.ptr x (2+i)):=by
 have e:qQ TE 118 (.ptr x 2) (.raw (.int .i64 (i:Int)))=(bif Nat.blt i 8 then some (.ptr x (2+i * 1)) else none):=by kernel_rfl
 rw[e,Nat.blt_eq.mpr h,Nat.mul_one]
 rfl
theorem qjg:∀ {fds:List (Option Nat)} {k i:Nat},Vl fds k=some i→k≤i∧i < k+fds.length
 | [],_,_,h=>by cases h
 | none::l,k,i,h=>by simp only[Vl,Option.some.injEq] at h;subst h;simp
 | some _::l,k,i,h=>by
  have:=qjg (fds:=l) (k:=k+1) (i:=i) h
  simp only[List.length_cons]
  omega
def trA (root cwd:Nat) (fds:List (Option Nat)) (many:Int):AO:=.cells (.ptr root 0::.ptr cwd 0::(fds.map upA++[.raw (.int .i64 many)])) 120 0
theorem qtc {s:St} (H:Ok TE Tryz.prog pr3) {T:zi} (hT:RepT s T) (hB:qb s) {x root cwd:Nat} {fds:List (Option Nat)} {many:Int} (hx:s.h.get x=some (trA root cwd fds many)) (h8:fds.length=8) {c:Cl} (hop:c.op=14) {out:Nat ⊕ Nat} (hf:zE T root cwd c.path true=some out) (ht:∀ n,out=.inl n→∃ nd,T n=some nd)
  {kr kp:AV→St→Bool}
  (hk4:∀ n nd s',out=.inl n→T n=some nd→nd.kind=1→Ext s s'→qb s'→kp (.iface 110 (.raw (.int .i64 4))) s'=true)
  (hk10:∀ n nd s',out=.inl n→T n=some nd→nd.kind≠1→Vl fds 0=none→Ext s s'→qb s'→kp (.iface 110 (.raw (.int .i64 10))) s'=true)
  (hk:∀ n nd i s',out=.inl n→T n=some nd→nd.kind≠1→Vl fds 0=some i→JT s s' x (trA root cwd (fds.set i (some n)) many)→qb s'→kr (.agg (anL 0 (i:Int) 0 0 [] nilS)) s'=true)
  (hq:∀ n s',out=.inr n→Ext s s'→qb s'→kp (.iface 110 (.raw (.int .i64 ((n:Nat):Int)))) s'=true) :
  (sem Tryz.prog).call 66 [.ptr x 0,.agg (clL c)] s kr kp=true:=by
 refine qk H 84 qos rfl rfl ?_
 have m1:(s.nx=s.nx+1)=False:=by simp
 have m2:(s.nx+1=s.nx)=False:=by simp
 have hE:Ext s ((s.alloc (.cells (clL c) 41 0)).alloc (.cells (anL 0 0 0 0 [] nilS) 38 0)):=(Ext.alloc s _).trans (Ext.alloc _ _)
 have hB2:=qg (qg hB (.cells (clL c) 41 0)) (.cells (anL 0 0 0 0 [] nilS) 38 0)
 have hT2:=hT.ext hB hE
 have hxs:=hB x _ hx
 unfold trA at hx
 have hx2:=(hE.2 x hxs).trans hx
 have o1:((14:Int)==14)=true:=rfl
 have ecl:clL c=[.raw (.int .i64 14),.str c.path,.str c.path2,.raw (.int .i64 c.fd),.raw (.int .i64 c.off),.raw (.int .i64 c.num),.raw (.int .i64 c.mode),.str c.data]:=by unfold clL;rw[hop]
 rw[ecl] at hE hB2 hT2 hx2 ⊢
 repeat (first|with_reducible (refine q9 H ?_;constructor)|simp only[rB,rQ,q8,q7,qc,reduceIte,Nat.reduceAdd,Nat.reduceLT,Nat.reduceEqDiff,pe3,pf3,zn,qd,QD,qjk,qD,qA,m1,m2,qh,o1])
 refine Xv H hT2 hB2 hx2 hf (fun n s1 h1 h2 h3=>?_) (fun n s1 h1 h2 h3=>?_)
 ·obtain⟨nd,hnd⟩:=ht n h1
  obtain⟨hn,hm⟩:=(hT2.ext hB2 h2) n nd hnd
  have c1:s1.h.get (s.nx+1)=some (.cells (anL 0 0 0 0 [] nilS) 38 0):=(h2.2 (s.nx+1) (by show s.nx+1 < s.nx+1+1;omega)).trans qt
  have hlt:=h3 _ _ c1
  have hE1:=hE.trans h2
  have hx1:=(hE1.2 x hxs).trans hx
  by_cases hd:nd.kind=1
  ·have k1:(nd.kind==1)=true:=by rw[hd];rfl
   repeat (first|with_reducible (refine q9 H ?_;constructor)|simp only[rB,rQ,q8,q7,qc,reduceIte,Nat.reduceAdd,Nat.reduceLT,Nat.reduceEqDiff,pe3,pf3,qD,qh,Qe,hn,ndA,k1]|(with_reducible refine qj H ?_))
   exact hk4 n nd s1 h1 hnd hd hE1 h3
  ·have k1:(nd.kind==1)=false:=by rw[beq_eq_false_iff_ne];exact hd
   repeat (first|with_reducible (refine q9 H ?_;constructor)|simp only[rB,rQ,q8,q7,qc,reduceIte,Nat.reduceAdd,Nat.reduceLT,Nat.reduceEqDiff,pe3,pf3,qD,qh,Qe,hn,ndA,k1,qxx,q0x]|(with_reducible refine qv H ?_))
   refine qnq H hx1 h8 (fun i hi=>?_) (fun hi=>?_)
   ·have hi8:=qjg hi
    have e1:decide ((i:Int) < 0)=false:=by rw[decide_eq_false_iff_not];omega
    have ia:=qnx (x:=x) (i:=i) (by omega)
    have pf:=qs8 (o:=some n) (a:=.ptr root 0) (b:=.ptr cwd 0) (tl:=[.raw (.int .i64 many)]) (fds:=fds) (i:=i) (by omega)
    simp only[upA] at pf
    have y1:(s.nx+1=x)=False:=by simp;omega
    repeat (first|with_reducible (refine q9 H ?_;constructor)|simp only[rB,rQ,q8,q7,qc,reduceIte,Nat.reduceAdd,Nat.reduceLT,Nat.reduceEqDiff,pe3,pf3,zX,e1,qxx,ia,hx1,pf,qh1,y1,c1,qvs,Qj,zr,zb,zD,qY,Tryz.results66]|(with_reducible refine qv H ?_))
    exact hk n nd i _ h1 hnd hd hi ⟨hE1.1,(qa (by omega)).trans hs_same,fun j hj hjx=>(qa (by omega)).trans ((qa hjx).trans (hE1.2 j hj))⟩ (qe (qe h3 (h3 _ _ hx1) _) hlt _)
   ·have e1:decide ((-1:Int) < 0)=true:=rfl
    repeat (first|with_reducible (refine q9 H ?_;constructor)|simp only[rB,rQ,q8,q7,qc,reduceIte,Nat.reduceAdd,Nat.reduceLT,Nat.reduceEqDiff,pe3,pf3,zX,e1]|(with_reducible refine qj H ?_))
    exact hk10 n nd s1 h1 hnd hd hi hE1 h3
 ·repeat (first|with_reducible (refine q9 H ?_;constructor)|simp only[rB,rQ,q8,q7,qc,reduceIte,Nat.reduceAdd,Nat.reduceLT,Nat.reduceEqDiff,pe3,pf3])
  exact hq n s1 h1 (hE.trans h2) h3
def fdT (fds:List (Option Nat)) (fd:Int):Option Nat:=bif decide (fd < 0)||decide (fd ≥ 8) then none else fds.getD fd.toNat none
theorem qgi {s:St} (H:Ok TE Tryz.prog pr3) (hB:qb s) {x root cwd:Nat} {fds:List (Option Nat)} {many:Int} (hx:s.h.get x=some (trA root cwd fds many)) (h8:fds.length=8) {c:Cl} (hop:c.op≠14) (hf:fdT fds c.fd=none)
  {kr kp:AV→St→Bool}
  (hq:∀ s',Ext s s'→qb s'→kp (.iface 110 (.raw (.int .i64 12))) s'=true) :
  (sem Tryz.prog).call 66 [.ptr x 0,.agg (clL c)] s kr kp=true:=by
 refine qk H 84 qos rfl rfl ?_
 have hxs:=hB x _ hx
 have m1:(s.nx=s.nx+1)=False:=by simp
 have m2:(s.nx+1=s.nx)=False:=by simp
 have m3:(x=s.nx)=False:=by simp;omega
 have m4:(x=s.nx+1)=False:=by simp;omega
 have hE:Ext s ((s.alloc (.cells (clL c) 41 0)).alloc (.cells (anL 0 0 0 0 [] nilS) 38 0)):=(Ext.alloc s _).trans (Ext.alloc _ _)
 have hB2:=qg (qg hB (.cells (clL c) 41 0)) (.cells (anL 0 0 0 0 [] nilS) 38 0)
 unfold trA at hx
 have o1:(c.op==14)=false:=by rw[beq_eq_false_iff_ne];exact hop
 by_cases b1:c.fd < 0
 ·have e1:=decide_eq_true b1
  repeat (first|with_reducible (refine q9 H ?_;constructor)|simp only[rB,rP,rQ,q8,q7,qc,reduceIte,Nat.reduceLT,Nat.reduceEqDiff,pe3,pf3,zn,qd,QD,qxy,clL,qD,m1,m2,qh,zX,Zl,o1,e1]|(with_reducible refine qj H ?_)|(with_reducible refine qq H (i:=8) (.take 0 (.take 1 (.take 2 (.take 3 (.take 4 (.take 5 (.take 6 (.take 7 (.take 8 (.take 9 (.take 10 (.take 11 (.take 12 (.take 13 (.take 14 (.take 15 (.take 16 (.take 17 (.take 18 (.take 19 (.alt 20 [0,1,2,3,4,5,6,7,8,9,10,11,12,13,14,15,16,17,18,19] (.done) (.yes)))))))))))))))))))))) rfl (by kernel_rfl) ?_))
  exact hq _ hE hB2
 have e1:=decide_eq_false b1
 by_cases b2:c.fd ≥ 8
 ·have e2:=decide_eq_true b2
  repeat (first|with_reducible (refine q9 H ?_;constructor)|simp only[rB,rP,rQ,q8,q7,qc,reduceIte,Nat.reduceLT,Nat.reduceEqDiff,pe3,pf3,zn,qd,QD,qxy,clL,qD,m1,m2,qh,zX,Zl,o1,e1,e2]|(with_reducible refine qj H ?_)|(with_reducible refine qq H (i:=8) (.take 0 (.take 1 (.take 2 (.take 3 (.take 4 (.take 5 (.take 6 (.take 7 (.take 8 (.take 9 (.take 10 (.take 11 (.take 12 (.take 13 (.take 14 (.take 15 (.take 16 (.take 17 (.take 18 (.take 19 (.alt 20 [0,1,2,3,4,5,6,7,8,9,10,11,12,13,14,15,16,17,18,19] (.done) (.yes)))))))))))))))))))))) rfl (by kernel_rfl) ?_))
  exact hq _ hE hB2
 have e2:=decide_eq_false b2
 obtain⟨k,hk⟩:∃ k:Nat,c.fd=(k:Int):=⟨c.fd.toNat,by omega⟩
 rw[hk] at e1 e2 b1 b2 hf
 have hlt:k < 8:=by omega
 obtain⟨o,ho⟩:∃ o,fds[k]?=some o:=⟨fds[k],by rw[List.getElem?_eq_getElem]⟩
 have hcell:(AV.ptr root 0::.ptr cwd 0::(fds.map upA++[.raw (.int .i64 many)]))[2+k]?=some (upA o):=by
  rw[show 2+k=k+1+1 from by omega,List.getElem?_cons_succ,List.getElem?_cons_succ,List.getElem?_append_left (by simp;omega),List.getElem?_map,ho]
  rfl
 have h0:o=none:=by
  unfold fdT at hf
  rw[e1,e2] at hf
  simp only[Bool.or_false,cond_false,Int.toNat_natCast,List.getD_eq_getElem?_getD,ho,Option.getD_some] at hf
  exact hf
 subst h0
 have ia:=qnx (x:=x) (i:=k) hlt
 have j1:(if (7:Int) < (k:Int) then (7:Int) else (k:Int))=(k:Int):=by split <;> omega
 have j2:(if (k:Int) > 0 then (k:Int) else (0:Int))=(k:Int):=by split <;> omega
 repeat (first|with_reducible (refine q9 H ?_;constructor)|simp only[rB,rP,rQ,q8,q7,qc,reduceIte,Nat.reduceLT,Nat.reduceEqDiff,pe3,pf3,zn,qd,QD,qxy,clL,hk,qD,m1,m2,m3,m4,qh,zX,Zl,o1,e1,e2,j1,j2,qxx,ia,qK,hx,hcell,upA,Vv,Q4,Zx,qJ,qaw]|(with_reducible refine qj H ?_)|(with_reducible refine qq H (i:=8) (.take 0 (.take 1 (.take 2 (.take 3 (.take 4 (.take 5 (.take 6 (.take 7 (.take 8 (.take 9 (.take 10 (.take 11 (.take 12 (.take 13 (.take 14 (.take 15 (.take 16 (.take 17 (.take 18 (.take 19 (.alt 20 [0,1,2,3,4,5,6,7,8,9,10,11,12,13,14,15,16,17,18,19] (.done) (.yes)))))))))))))))))))))) rfl (by kernel_rfl) ?_))
 exact hq _ ((Ext.alloc s _).trans (Ext.alloc _ _)) (qg (qg hB _) _)
theorem q2u {s:St} (H:Ok TE Tryz.prog pr3) {T:zi} (hT:RepT s T) (hB:qb s) {x root cwd:Nat} {fds:List (Option Nat)} {many:Int} (hx:s.h.get x=some (trA root cwd fds many)) (h8:fds.length=8) {c:Cl} (hop:c.op=15) {n:Nat} (hf:fdT fds c.fd=some n) {nd:Nd} (hnd:T n=some nd) (hl:nd.data.length≤1000000)
  {kr kp:AV→St→Bool}
  (hk:∀ d s',Jf nd.data c.off c.num=.inl d→Ext s s'→qb s'→kr (.agg (anL 0 (d.length:Int) 0 0 d nilS)) s'=true)
  (hq:∀ m s',Jf nd.data c.off c.num=.inr m→Ext s s'→qb s'→kp (.iface 110 (.raw (.int .i64 ((m:Nat):Int)))) s'=true) :
  (sem Tryz.prog).call 66 [.ptr x 0,.agg (clL c)] s kr kp=true:=by
 refine qk H 84 qos rfl rfl ?_
 obtain⟨op,path,path2,fd,off,num,mode,data⟩:=c
 dsimp only at *
 subst hop
 have hxs:=hB x _ hx
 have m1:(s.nx=s.nx+1)=False:=by simp
 have m2:(s.nx+1=s.nx)=False:=by simp
 have m3:(x=s.nx)=False:=by simp;omega
 have m4:(x=s.nx+1)=False:=by simp;omega
 have m5:(s.nx=x)=False:=by simp;omega
 have m6:(s.nx+1=x)=False:=by simp;omega
 unfold fdT at hf
 have e1:decide (fd < 0)=false:=by cases h:decide (fd < 0) with|false=>rfl|true=>rw[h] at hf;cases hf
 have e2:decide (fd ≥ 8)=false:=by cases h:decide (fd ≥ 8) with|false=>rfl|true=>rw[h,Bool.or_true] at hf;cases hf
 rw[e1,e2] at hf
 have b1:=of_decide_eq_false e1
 have b2:=of_decide_eq_false e2
 obtain⟨k,rfl⟩:∃ k:Nat,fd=(k:Int):=⟨fd.toNat,by omega⟩
 have hlt:k < 8:=by omega
 obtain⟨o,ho⟩:∃ o,fds[k]?=some o:=⟨fds[k],by rw[List.getElem?_eq_getElem]⟩
 simp only[Bool.or_false,cond_false,Int.toNat_natCast,List.getD_eq_getElem?_getD,ho,Option.getD_some] at hf
 subst hf
 have hcell:(AV.ptr root 0::.ptr cwd 0::(fds.map upA++[.raw (.int .i64 many)]))[2+k]?=some (upA (some n)):=by
  rw[show 2+k=k+1+1 from by omega,List.getElem?_cons_succ,List.getElem?_cons_succ,List.getElem?_append_left (by simp;omega),List.getElem?_map,ho]
  rfl
 have ia:=qnx (x:=x) (i:=k) hlt
 have j1:(if (7:Int) < (k:Int) then (7:Int) else (k:Int))=(k:Int):=by split <;> omega
 have j2:(if (k:Int) > 0 then (k:Int) else (0:Int))=(k:Int):=by split <;> omega
 have hE:Ext s ((s.alloc (.cells (clL ⟨15,path,path2,k,off,num,mode,data⟩) 41 0)).alloc (.cells (anL 0 0 0 0 [] nilS) 38 0)):=(Ext.alloc s _).trans (Ext.alloc _ _)
 have hB2:=qg (qg hB (.cells (clL ⟨15,path,path2,k,off,num,mode,data⟩) 41 0)) (.cells (anL 0 0 0 0 [] nilS) 38 0)
 have hT2:=hT.ext hB hE
 have hx0:=hx
 unfold trA at hx
 have o1:((15:Int)==14)=false:=rfl
 have o2:((15:Int)==15)=true:=rfl
 have o3:((15:Int)==16)=false:=rfl
 repeat (first|with_reducible (refine q9 H ?_;constructor)|simp only[rB,rP,rQ,q8,q7,qc,reduceIte,Nat.reduceLT,Nat.reduceEqDiff,pe3,pf3,zn,qd,QD,qxy,clL,qD,m1,m2,m3,m4,qh,zX,Zl,o1,o2,o3,e1,e2,j1,j2,qxx,ia,qK,hx,hcell,upA,Zh,Q3,qaw,Kd,J3]|(with_reducible refine qv H ?_)|(with_reducible refine qq H (i:=8) (.take 0 (.take 1 (.take 2 (.take 3 (.take 4 (.take 5 (.take 6 (.take 7 (.take 8 (.take 9 (.take 10 (.take 11 (.take 12 (.take 13 (.take 14 (.take 15 (.take 16 (.take 17 (.take 18 (.take 19 (.alt 20 [0,1,2,3,4,5,6,7,8,9,10,11,12,13,14,15,16,17,18,19] (.done) (.yes)))))))))))))))))))))) rfl (by kernel_rfl) ?_)|(with_reducible refine qq H (i:=9) (.take 0 (.take 1 (.take 2 (.take 3 (.take 4 (.take 5 (.take 6 (.take 7 (.done))))))))) rfl (by kernel_rfl) ?_))
 obtain⟨hn,hm⟩:=hT2 n nd hnd
 refine qtk (c:=⟨15,path,path2,k,off,num,mode,data⟩) H hB2 hn hl (fun d s1 h1 h2 h3=>?_) (fun m s1 h1 h2 h3=>?_)
 ·have c1:s1.h.get (s.nx+1)=some (.cells (anL 0 0 0 0 [] nilS) 38 0):=(h2.2 (s.nx+1) (by show s.nx+1 < s.nx+1+1;omega)).trans qt
  have hlt:=h3 _ _ c1
  repeat (first|with_reducible (refine q9 H ?_;constructor)|simp only[rB,rP,rQ,q8,q7,qc,reduceIte,Nat.reduceLT,Nat.reduceEqDiff,pe3,pf3,c1,Qj,zr,zb,zD,qY,Tryz.results66])
  exact hk d _ h1 ⟨(hE.trans h2).1,fun j hj=>(qa (by omega)).trans ((hE.trans h2).2 j hj)⟩ (qe h3 hlt _)
 ·repeat (first|with_reducible (refine q9 H ?_;constructor)|simp only[rB,rP,rQ,q8,q7,qc,reduceIte,Nat.reduceLT,Nat.reduceEqDiff,pe3,pf3])
  exact hq m s1 h1 (hE.trans h2) h3
theorem q0k {s:St} (H:Ok TE Tryz.prog pr3) {T:zi} (hT:RepT s T) (hB:qb s) {x root cwd:Nat} {fds:List (Option Nat)} {many:Int} (hx:s.h.get x=some (trA root cwd fds many)) (h8:fds.length=8) {c:Cl} (hop:c.op=16) {n:Nat} (hf:fdT fds c.fd=some n) {nd:Nd} (hnd:T n=some nd) (hl:nd.data.length≤40000) (hw:c.data.length≤10000000000000000000)
  {kr kp:AV→St→Bool}
  (hk:∀ d s',Zt nd.data c.off c.data=.inl d→JT s s' n (ndA { nd with data:=d })→qb s'→kr (.agg (anL 0 (c.data.length:Int) 0 0 [] nilS)) s'=true)
  (hq:∀ m s',Zt nd.data c.off c.data=.inr m→Ext s s'→qb s'→kp (.iface 110 (.raw (.int .i64 ((m:Nat):Int)))) s'=true) :
  (sem Tryz.prog).call 66 [.ptr x 0,.agg (clL c)] s kr kp=true:=by
 refine qk H 84 qos rfl rfl ?_
 obtain⟨op,path,path2,fd,off,num,mode,data⟩:=c
 dsimp only at *
 subst hop
 have hxs:=hB x _ hx
 have m1:(s.nx=s.nx+1)=False:=by simp
 have m2:(s.nx+1=s.nx)=False:=by simp
 have m3:(x=s.nx)=False:=by simp;omega
 have m4:(x=s.nx+1)=False:=by simp;omega
 have m5:(s.nx=x)=False:=by simp;omega
 have m6:(s.nx+1=x)=False:=by simp;omega
 unfold fdT at hf
 have e1:decide (fd < 0)=false:=by cases h:decide (fd < 0) with|false=>rfl|true=>rw[h] at hf;cases hf
 have e2:decide (fd ≥ 8)=false:=by cases h:decide (fd ≥ 8) with|false=>rfl|true=>rw[h,Bool.or_true] at hf;cases hf
 rw[e1,e2] at hf
 have b1:=of_decide_eq_false e1
 have b2:=of_decide_eq_false e2
 obtain⟨k,rfl⟩:∃ k:Nat,fd=(k:Int):=⟨fd.toNat,by omega⟩
 have hlt:k < 8:=by omega
 obtain⟨o,ho⟩:∃ o,fds[k]?=some o:=⟨fds[k],by rw[List.getElem?_eq_getElem]⟩
 simp only[Bool.or_false,cond_false,Int.toNat_natCast,List.getD_eq_getElem?_getD,ho,Option.getD_some] at hf
 subst hf
 have hcell:(AV.ptr root 0::.ptr cwd 0::(fds.map upA++[.raw (.int .i64 many)]))[2+k]?=some (upA (some n)):=by
  rw[show 2+k=k+1+1 from by omega,List.getElem?_cons_succ,List.getElem?_cons_succ,List.getElem?_append_left (by simp;omega),List.getElem?_map,ho]
  rfl
 have ia:=qnx (x:=x) (i:=k) hlt
 have j1:(if (7:Int) < (k:Int) then (7:Int) else (k:Int))=(k:Int):=by split <;> omega
 have j2:(if (k:Int) > 0 then (k:Int) else (0:Int))=(k:Int):=by split <;> omega
 have hE:Ext s ((s.alloc (.cells (clL ⟨16,path,path2,k,off,num,mode,data⟩) 41 0)).alloc (.cells (anL 0 0 0 0 [] nilS) 38 0)):=(Ext.alloc s _).trans (Ext.alloc _ _)
 have hB2:=qg (qg hB (.cells (clL ⟨16,path,path2,k,off,num,mode,data⟩) 41 0)) (.cells (anL 0 0 0 0 [] nilS) 38 0)
 have hT2:=hT.ext hB hE
 have hx0:=hx
 unfold trA at hx
 have o1:((16:Int)==14)=false:=rfl
 have o2:((16:Int)==15)=false:=rfl
 have o3:((16:Int)==16)=true:=rfl
 repeat (first|with_reducible (refine q9 H ?_;constructor)|simp only[rB,rP,rQ,q8,q7,qc,reduceIte,Nat.reduceLT,Nat.reduceEqDiff,pe3,pf3,zn,qd,QD,qxy,clL,qD,m1,m2,m3,m4,qh,zX,Zl,o1,o2,o3,e1,e2,j1,j2,qxx,ia,qK,hx,hcell,upA,Zh,Q3,qaw,Kd,J3]|(with_reducible refine qv H ?_)|(with_reducible refine qq H (i:=8) (.take 0 (.take 1 (.take 2 (.take 3 (.take 4 (.take 5 (.take 6 (.take 7 (.take 8 (.take 9 (.take 10 (.take 11 (.take 12 (.take 13 (.take 14 (.take 15 (.take 16 (.take 17 (.take 18 (.take 19 (.alt 20 [0,1,2,3,4,5,6,7,8,9,10,11,12,13,14,15,16,17,18,19] (.done) (.yes)))))))))))))))))))))) rfl (by kernel_rfl) ?_)|(with_reducible refine qq H (i:=9) (.take 0 (.take 1 (.take 2 (.take 3 (.take 4 (.take 5 (.take 6 (.take 7 (.done))))))))) rfl (by kernel_rfl) ?_))
 obtain⟨hn,hm⟩:=hT2 n nd hnd
 obtain⟨hn0,_⟩:=hT n nd hnd
 have hns:=hB _ _ hn0
 refine qoc (c:=⟨16,path,path2,k,off,num,mode,data⟩) H hB2 hn hl hw (fun d s1 h1 h2 h3=>?_) (fun m s1 h1 h2 h3=>?_)
 ·have c1:s1.h.get (s.nx+1)=some (.cells (anL 0 0 0 0 [] nilS) 38 0):=(h2.2.2 (s.nx+1) (by show s.nx+1 < s.nx+1+1;omega) (by omega)).trans qt
  have hlt:=h3 _ _ c1
  repeat (first|with_reducible (refine q9 H ?_;constructor)|simp only[rB,rP,rQ,q8,q7,qc,reduceIte,Nat.reduceLT,Nat.reduceEqDiff,pe3,pf3,c1,Qj,zr,zb,zD,qY,Tryz.results66])
  exact hk d _ h1 ⟨Nat.le_trans hE.1 h2.1,(qa (by omega)).trans h2.2.1,fun j hj hjn=>(qa (by omega)).trans ((h2.2.2 j (Nat.lt_of_lt_of_le hj hE.1) hjn).trans (hE.2 j hj))⟩ (qe h3 hlt _)
 ·repeat (first|with_reducible (refine q9 H ?_;constructor)|simp only[rB,rP,rQ,q8,q7,qc,reduceIte,Nat.reduceLT,Nat.reduceEqDiff,pe3,pf3])
  exact hq m s1 h1 (hE.trans h2) h3
theorem qy9 {s:St} (H:Ok TE Tryz.prog pr3) {T:zi} (hT:RepT s T) (hB:qb s) {x root cwd:Nat} {fds:List (Option Nat)} {many:Int} (hx:s.h.get x=some (trA root cwd fds many)) (h8:fds.length=8) {c:Cl} (hop:c.op=17) {n:Nat} (hf:fdT fds c.fd=some n)
  {kr kp:AV→St→Bool}
  (hk:∀ s',JT s s' x (trA root cwd (fds.set c.fd.toNat none) many)→qb s'→kr (.agg (anL 0 0 0 0 [] nilS)) s'=true) :
  (sem Tryz.prog).call 66 [.ptr x 0,.agg (clL c)] s kr kp=true:=by
 refine qk H 84 qos rfl rfl ?_
 obtain⟨op,path,path2,fd,off,num,mode,data⟩:=c
 dsimp only at *
 subst hop
 have hxs:=hB x _ hx
 have m1:(s.nx=s.nx+1)=False:=by simp
 have m2:(s.nx+1=s.nx)=False:=by simp
 have m3:(x=s.nx)=False:=by simp;omega
 have m4:(x=s.nx+1)=False:=by simp;omega
 have m5:(s.nx=x)=False:=by simp;omega
 have m6:(s.nx+1=x)=False:=by simp;omega
 unfold fdT at hf
 have e1:decide (fd < 0)=false:=by cases h:decide (fd < 0) with|false=>rfl|true=>rw[h] at hf;cases hf
 have e2:decide (fd ≥ 8)=false:=by cases h:decide (fd ≥ 8) with|false=>rfl|true=>rw[h,Bool.or_true] at hf;cases hf
 rw[e1,e2] at hf
 have b1:=of_decide_eq_false e1
 have b2:=of_decide_eq_false e2
 obtain⟨k,rfl⟩:∃ k:Nat,fd=(k:Int):=⟨fd.toNat,by omega⟩
 have hlt:k < 8:=by omega
 obtain⟨o,ho⟩:∃ o,fds[k]?=some o:=⟨fds[k],by rw[List.getElem?_eq_getElem]⟩
 simp only[Bool.or_false,cond_false,Int.toNat_natCast,List.getD_eq_getElem?_getD,ho,Option.getD_some] at hf
 subst hf
 have hcell:(AV.ptr root 0::.ptr cwd 0::(fds.map upA++[.raw (.int .i64 many)]))[2+k]?=some (upA (some n)):=by
  rw[show 2+k=k+1+1 from by omega,List.getElem?_cons_succ,List.getElem?_cons_succ,List.getElem?_append_left (by simp;omega),List.getElem?_map,ho]
  rfl
 have ia:=qnx (x:=x) (i:=k) hlt
 have j1:(if (7:Int) < (k:Int) then (7:Int) else (k:Int))=(k:Int):=by split <;> omega
 have j2:(if (k:Int) > 0 then (k:Int) else (0:Int))=(k:Int):=by split <;> omega
 have hE:Ext s ((s.alloc (.cells (clL ⟨17,path,path2,k,off,num,mode,data⟩) 41 0)).alloc (.cells (anL 0 0 0 0 [] nilS) 38 0)):=(Ext.alloc s _).trans (Ext.alloc _ _)
 have hB2:=qg (qg hB (.cells (clL ⟨17,path,path2,k,off,num,mode,data⟩) 41 0)) (.cells (anL 0 0 0 0 [] nilS) 38 0)
 have hT2:=hT.ext hB hE
 have hx0:=hx
 unfold trA at hx
 have o1:((17:Int)==14)=false:=rfl
 have o2:((17:Int)==15)=false:=rfl
 have o3:((17:Int)==16)=false:=rfl
 have pf:=qs8 (o:=none) (a:=.ptr root 0) (b:=.ptr cwd 0) (tl:=[.raw (.int .i64 many)]) (fds:=fds) (i:=k) (by omega)
 simp only[upA] at pf
 repeat (first|with_reducible (refine q9 H ?_;constructor)|simp only[rB,rP,rQ,q8,q7,qc,reduceIte,Nat.reduceLT,Nat.reduceEqDiff,pe3,pf3,zn,qd,QD,qxy,clL,qD,m1,m2,m3,m4,qh,zX,Zl,o1,o2,o3,e1,e2,j1,j2,qxx,ia,qK,hx,hcell,upA,Zh,Q3,qaw,m5,m6,pf,qh1,qha,Qj,zr,zb,zD,qY,Tryz.results66]|(with_reducible refine qv H ?_)|(with_reducible refine qq H (i:=8) (.take 0 (.take 1 (.take 2 (.take 3 (.take 4 (.take 5 (.take 6 (.take 7 (.take 8 (.take 9 (.take 10 (.take 11 (.take 12 (.take 13 (.take 14 (.take 15 (.take 16 (.take 17 (.take 18 (.take 19 (.alt 20 [0,1,2,3,4,5,6,7,8,9,10,11,12,13,14,15,16,17,18,19] (.done) (.yes)))))))))))))))))))))) rfl (by kernel_rfl) ?_)|(with_reducible refine qq H (i:=9) (.take 0 (.take 1 (.take 2 (.take 3 (.take 4 (.take 5 (.take 6 (.take 7 (.done))))))))) rfl (by kernel_rfl) ?_)|(with_reducible refine qq H (i:=15) (.take 0 (.take 1 (.take 2 (.take 3 (.take 4 (.take 5 (.alt 6 [0,1,2,3,4,5] (.done) (.yes)))))))) rfl (by kernel_rfl) ?_))
 exact hk _ ⟨hE.1,(qa (by omega)).trans hs_same,fun j hj hjx=>(qa (by omega)).trans ((qa hjx).trans (hE.2 j hj))⟩ (qe (qe hB2 (by show x < s.nx+1+1;omega) _) (by show s.nx+1 < s.nx+1+1;omega) _)
def Zm (T:zi) (top:Nat):Nat→Nat→Option Bool
 | 0,_=>none
 | f+1,i=>match T i with
  | none=>none
  | some nd=>bif Nat.beq i top then some true else match nd.up with
   | none=>some false
   | some u=>Zm T top f u
theorem ZV {s:St} {i j:Nat} {d:Option (AV × List Nat)}:eqS TE s .neq 112 (.ptr i j) (.raw (.pointer none)) d=some (.raw (.bool true),[]):=by kernel_rfl
theorem YV {s:St} (H:Ok TE Tryz.prog pr3) {T:zi} (hT:RepT s T) {f i top:Nat} {td:Nd} (htop:T top=some td) {b:Bool} {kr kp:AV→St→Bool} (h:Zm T top f i=some b) (hk:kr (.raw (.bool b)) s=true):(sem Tryz.prog).call 107 [.ptr i 0,.ptr top 0] s kr kp=true:=by
 refine qk H 14 q02 rfl rfl ?_
 repeat (first|with_reducible (refine q9 H ?_;constructor)|simp only[rB,rQ,q7,qc,reduceIte,Nat.reduceLT,Nat.reduceEqDiff,pe3,pf3])
 refine qZ H (fun n t s'=>∃ (g:Nat) (o:Option Nat),n=g∧s'=s∧tg t 0=upA o∧tg t 1=.ptr top 0∧(match o with|none=>some false|some u=>Zm T top g u)=some b)
  ⟨f,some i,rfl,rfl,by simp only[rB,rQ,q7,qc,reduceIte,Nat.reduceLT,Nat.reduceEqDiff,upA],by simp only[rB,rQ,q7,qc,reduceIte,Nat.reduceLT,Nat.reduceEqDiff],h⟩ ?_
 rintro n t s' ih ⟨g,o,rfl,rfl,t0,t1,hb⟩
 cases o with
 | none =>
  cases hb
  simp only[upA] at t0
  repeat (first|with_reducible (refine q9 H ?_;constructor)|simp only[rB,rQ,q7,qc,reduceIte,Nat.reduceLT,Nat.reduceEqDiff,pe3,pf3,t0,t1,Qo,Qn,zw,qJ,Tryz.results107])
  exact hk
 | some u =>
  simp only[upA] at t0
  cases n with
  | zero=>cases hb
  | succ g =>
   simp only[Zm] at hb
   cases hu:T u with
   | none=>rw[hu] at hb;cases hb
   | some nd =>
    rw[hu] at hb
    simp only at hb
    have hn:=(hT u nd hu).1
    have ht:=(hT top td htop).1
    have ep:=fun {d}=>qlr (d:=d) hn ht
    have ii:zZ s' [u,top]=true:=by simp[zZ,hn,ht]
    cases hq:Nat.beq u top with
    | true =>
     rw[hq] at hb ep
     cases hb
     repeat (first|with_reducible (refine q9 H ?_;constructor)|simp only[rB,rQ,q7,qc,reduceIte,Nat.reduceLT,Nat.reduceEqDiff,pe3,pf3,t0,t1,Zo,ZV,Zh,ep,ii,Tryz.results107])
     exact hk
    | false =>
     rw[hq] at hb ep
     repeat (first|with_reducible (refine q9 H ?_;constructor)|simp only[rB,rQ,q7,qc,reduceIte,Nat.reduceLT,Nat.reduceEqDiff,pe3,pf3,t0,t1,Zo,ZV,Zh,ep,ii,qxz,qK,hn,ndA])
     exact ih g _ _ (by omega) ⟨g,nd.up,rfl,rfl,by simp only[rB,rQ,q7,qc,reduceIte,Nat.reduceLT,Nat.reduceEqDiff],by simp only[rB,rQ,q7,qc,reduceIte,Nat.reduceLT,Nat.reduceEqDiff,t1],by cases hup:nd.up with|none=>rw[hup] at hb;exact hb|some v=>rw[hup] at hb;exact hb⟩
theorem q4x {s:St} (H:Ok TE Tryz.prog pr3) (hB:qb s) {dA lA dp lg:Nat} (hd:s.h.get dA=some (.cells [.raw (.int .i64 (dp:Int))] 3 0)) (hl:s.h.get lA=some (.cells [.raw (.int .i64 (lg:Int))] 3 0)) (h1:dp≤1000) (h2:lg≤100000) {q:List Nat} (hq1:q.length≤1000) (hq2:(qw q).length≤1000) {v:AV} {kr kp:AV→St→Bool}
  (hk:∀ s',Qy (dp+(qw q).length) (lg+1+q.length)=true→Ext s s'→qb s'→kr (.tuple []) s'=true)
  (hf:∀ s',Qy (dp+(qw q).length) (lg+1+q.length)=false→Ext s s'→qb s'→kp (.iface 110 (.raw (.int .i64 8))) s'=true) :
  (sem Tryz.prog).call 108 [.str q,v,.ptr dA 0,.ptr lA 0] s kr kp=true:=by
 refine qk H 19 qyv rfl rfl ?_
 have ep:=fun {r a dst k kp}=>Ku (r:=r) (a:=a) (dst:=dst) (s:=s) (k:=k) (kp:=kp) (b:=q) hq1
 have e1:IntKind.i64.wrap ((dp:Int)+((qw q).length:Int))=((dp+(qw q).length:Nat):Int):=by
  rw[show (dp:Int)+((qw q).length:Int)=((dp+(qw q).length:Nat):Int) from by simp]
  exact qM (by omega)
 have e2:IntKind.i64.wrap ((lg:Int)+1)=((lg+1:Nat):Int):=by
  rw[show (lg:Int)+1=((lg+1:Nat):Int) from by simp]
  exact qM (by omega)
 have e3:IntKind.i64.wrap (((lg+1:Nat):Int)+(q.length:Int))=((lg+1+q.length:Nat):Int):=by
  rw[show ((lg+1:Nat):Int)+(q.length:Int)=((lg+1+q.length:Nat):Int) from by simp]
  exact qM (by omega)
 have hV:=SlV.mk (s:=s) (names:=qw q)
 have hE:=J2 (s:=s) (names:=qw q)
 have hB1:=Z6 (names:=qw q) hB
 have hd':=(hE.2 dA (hB _ _ hd)).trans hd
 have hl':=(hE.2 lA (hB _ _ hl)).trans hl
 generalize (Xw 9 (qw q) s).1=V at *
 generalize (Xw 9 (qw q) s).2=s1 at *
 have vl:=hV.len
 have vi:=hV.ids
 cases hfit:Qy (dp+(qw q).length) (lg+1+q.length) with
 | false =>
  repeat (first|with_reducible (refine q9 H ?_;constructor)|simp only[rB,rP,rQ,q8,qf,reduceIte,Nat.reduceLT,Nat.reduceEqDiff,pe3,pf3,qD,hd,hl,hd',hl',ep,vl,vi,qO,qx,qf,qni,e1,e2,e3,hfit]|(with_reducible refine qq H (i:=0) (.take 0 (.take 1 (.take 5 (.take 6 (.take 7 (.take 8 (.take 9 (.alt 2 [1] (.take 3 (.take 4 (.alt 10 [0,1,2,3,4,5,6,7,8,9] (.take 11 (.alt 12 [0,1,2,3,4,5,6,7,8,9,10,11] (.done) (.yes))) (.yes)))) (.yes))))))))) rfl (by kernel_rfl) ?_)|(with_reducible refine QX H ?_)|(with_reducible refine qj H ?_))
  exact hf _ hfit hE hB1
 | true =>
  repeat (first|with_reducible (refine q9 H ?_;constructor)|simp only[rB,rP,rQ,q8,qf,reduceIte,Nat.reduceLT,Nat.reduceEqDiff,pe3,pf3,qD,hd,hl,hd',hl',ep,vl,vi,qO,qx,qf,qni,e1,e2,e3,hfit,Tryz.results108]|(with_reducible refine qq H (i:=0) (.take 0 (.take 1 (.take 5 (.take 6 (.take 7 (.take 8 (.take 9 (.alt 2 [1] (.take 3 (.take 4 (.alt 10 [0,1,2,3,4,5,6,7,8,9] (.take 11 (.alt 12 [0,1,2,3,4,5,6,7,8,9,10,11] (.done) (.yes))) (.yes)))) (.yes))))))))) rfl (by kernel_rfl) ?_)|(with_reducible refine QX H ?_)|(with_reducible refine qv H ?_))
  exact hk _ hfit hE hB1
def WT (dp lg:Nat) (below:Nat→List Nat→Option Bool) (kids:List (List Nat × Nat)) (p:List Nat):List (List Nat)→Option Bool
 | []=>some true
 | nm::l=>match ql nm kids with
  | none=>none
  | some j=>bif Nat.ble (zd p nm).length 1000&&(Nat.ble (p.length+nm.length) 1000000&&Nat.ble (qw (zd p nm)).length 1000) then
   bif Qy (dp+(qw (zd p nm)).length) (lg+1+(zd p nm).length) then match below j (zd p nm) with
    | none=>none
    | some false=>some false
    | some true=>WT dp lg below kids p l
   else some false
   else none
def Ja (T:zi) (dp lg:Nat):Nat→Nat→List Nat→Option Bool
 | 0,_,_=>none
 | f+1,i,p=>match T i with
  | none=>none
  | some nd=>match ZD nd.kids with
   | none=>none
   | some names=>WT dp lg (Ja T dp lg f) nd.kids p names
theorem qdr (H:Ok TE Tryz.prog pr3) {T:zi} {dA lA dp lg:Nat} (h1:dp≤1000) (h2:lg≤100000):∀ {f i:Nat} {p:List Nat} {b:Bool} {s:St} {kr kp:AV→St→Bool},Ja T dp lg f i p=some b→RepT s T→qb s→s.h.get dA=some (.cells [.raw (.int .i64 (dp:Int))] 3 0)→s.h.get lA=some (.cells [.raw (.int .i64 (lg:Int))] 3 0) →
  (∀ s',b=true→Ext s s'→qb s'→kr (.tuple []) s'=true)→(∀ s',b=false→Ext s s'→qb s'→kp (.iface 110 (.raw (.int .i64 8))) s'=true) →
  (sem Tryz.prog).call 85 [.ptr i 0,.str p,.fn 108 [.ptr dA 0,.ptr lA 0]] s kr kp=true
 | 0,_,_,_,_,_,_,h,_,_,_,_,_,_=>by cases h
 | f+1,i,p,b,s,kr,kp,h,hT,hB,hd,hl,hk,hf=>by
  simp only[Ja] at h
  cases hi:T i with
  | none=>rw[hi] at h;cases h
  | some nd =>
  rw[hi] at h
  simp only at h
  cases hso:ZD nd.kids with
  | none=>rw[hso] at h;cases h
  | some names =>
  rw[hso] at h
  simp only at h
  refine qk H 38 qz0 rfl rfl ?_
  repeat (first|with_reducible (refine q9 H ?_;constructor)|simp only[rB,rP,rQ,q8,qf,reduceIte,Nat.reduceLT,Nat.reduceEqDiff,pe3,pf3])
  refine qg3 H hB (hT i nd hi) hso (fun V s1 hV hE hB1=>?_)
  have vl:=hV.len
  have vi:=hV.ids
  have hlen:names.length≤1000000:=by
   unfold ZD at hso
   cases hc:(qlh (Q0 (nd.kids.map (·.1)))&&Nat.ble (Q0 (nd.kids.map (·.1))).length 1000000&&J5 (Q0 (nd.kids.map (·.1)))) with
   | false=>rw[hc] at hso;cases hso
   | true =>
    rw[hc] at hso
    simp only[cond_true,Option.some.injEq] at hso
    subst hso
    simp only[Bool.and_eq_true] at hc
    exact Nat.le_of_ble_eq_true hc.1.2
  repeat (first|with_reducible (refine q9 H ?_;constructor)|simp only[rB,rP,rQ,q8,qf,reduceIte,Nat.reduceLT,Nat.reduceEqDiff,pe3,pf3,vl,vi])
  refine qZ H (fun n t s'=>∃ (k:Nat),n+k=names.length∧tg t 0=.ptr i 0∧tg t 1=.str p∧tg t 2=.fn 108 [.ptr dA 0,.ptr lA 0]∧tg t 10=V∧tg t 11=.raw (.int .i64 (names.length:Int))∧tg t 12=.raw (.int .i64 (k:Int))∧Ext s1 s'∧qb s'∧WT dp lg (Ja T dp lg f) nd.kids p (names.drop k)=some b)
   ⟨0,rfl,by simp only[rB,rP,rQ,q8,qf,reduceIte,Nat.reduceLT,Nat.reduceEqDiff],by simp only[rB,rP,rQ,q8,qf,reduceIte,Nat.reduceLT,Nat.reduceEqDiff],by simp only[rB,rP,rQ,q8,qf,reduceIte,Nat.reduceLT,Nat.reduceEqDiff],by simp only[rB,rP,rQ,q8,qf,reduceIte,Nat.reduceLT,Nat.reduceEqDiff],by simp only[rB,rP,rQ,q8,qf,reduceIte,Nat.reduceLT,Nat.reduceEqDiff],by simp only[rB,rP,rQ,q8,qf,reduceIte,Nat.reduceLT,Nat.reduceEqDiff];rfl,Ext.refl s1,hB1,h⟩ ?_
  rintro n t s2 ih ⟨k,hk0,t0,t1,t2,t10,t11,t12,hE2,hB2,hb⟩
  cases n with
  | zero =>
   have g0:decide ((k:Int) < (names.length:Int))=false:=by rw[decide_eq_false_iff_not];omega
   rw[List.drop_eq_nil_of_le (by omega)] at hb
   simp only[WT,Option.some.injEq] at hb
   repeat (first|with_reducible (refine q9 H ?_;constructor)|simp only[rB,rP,rQ,q8,qf,reduceIte,Nat.reduceLT,Nat.reduceEqDiff,pe3,pf3,t0,t1,t2,t10,t11,t12,zX,g0,Tryz.results85])
   exact hk s2 hb.symm (hE.trans hE2) hB2
  | succ n =>
   have hlt:k < names.length:=by omega
   have g0:decide ((k:Int) < (names.length:Int))=true:=by rw[decide_eq_true_eq];omega
   rw[List.drop_eq_getElem_cons hlt] at hb
   obtain⟨id,o,x1,x2,ob,x3⟩:=(hV.ext hB1 hE2).idx (p:=names[k]) (j:=k) (List.getElem?_eq_getElem hlt)
   have x2':ldO (s2.h.get id) o=some (.str names[k]):=by rw[← Kb];exact x2
   have x4':∀ b,inO (s2.h.get id) b=b:=fun b=>by rw[x3];rfl
   generalize names[k]=nm at *
   simp only[WT] at hb
   have hT2:=(hT.ext hB hE).ext hB1 hE2
   obtain⟨hn,hm⟩:=hT2 i nd hi
   have lk:=Yq (p:=nm) hm
   cases hlk:ql nm nd.kids with
   | none=>rw[hlk] at hb;cases hb
   | some j =>
   rw[hlk] at hb lk
   simp only at hb
   cases hbd:(Nat.ble (zd p nm).length 1000&&(Nat.ble (p.length+nm.length) 1000000&&Nat.ble (qw (zd p nm)).length 1000)) with
   | false=>rw[hbd] at hb;cases hb
   | true =>
   rw[hbd] at hb
   simp only[cond_true] at hb
   simp only[Bool.and_eq_true] at hbd
   have ej:=fun {r a dst k kp}=>Yg (r:=r) (a:=a) (dst:=dst) (s:=s2) (k:=k) (kp:=kp) hbd.2.1
   have hE12:=hE.trans hE2
   have hd2:=(hE12.2 dA (hB _ _ hd)).trans hd
   have hl2:=(hE12.2 lA (hB _ _ hl)).trans hl
   repeat (first|with_reducible (refine q9 H ?_;constructor)|simp only[rB,rP,rQ,q8,qf,reduceIte,Nat.reduceLT,Nat.reduceEqDiff,pe3,pf3,t0,t1,t2,t10,t11,t12,zX,g0,x1,qA,x2',x4',ej,Q8,qI,hn,hm,ndA,lk,QI])
   refine q4x H hB2 hd2 hl2 h1 h2 (Nat.le_of_ble_eq_true hbd.1) (Nat.le_of_ble_eq_true hbd.2.2) (fun s3 hfit hE3 hB3=>?_) (fun s3 hfit hE3 hB3=>?_)
   ·rw[hfit] at hb
    simp only[cond_true] at hb
    obtain⟨hn3,hm3⟩:=(hT2.ext hB2 hE3) i nd hi
    have lk3:=Yq (p:=nm) hm3
    rw[hlk] at lk3
    have hE13:=hE12.trans hE3
    repeat (first|with_reducible (refine q9 H ?_;constructor)|simp only[rB,rP,rQ,q8,qf,reduceIte,Nat.reduceLT,Nat.reduceEqDiff,pe3,pf3,t0,t1,t2,t10,t11,t12,Q8,qI,hn3,hm3,ndA,lk3,QI])
    cases hr:Ja T dp lg f j (zd p nm) with
    | none=>rw[hr] at hb;cases hb
    | some bb =>
    rw[hr] at hb
    refine qdr H h1 h2 hr (hT2.ext hB2 hE3) hB3 ((hE13.2 dA (hB _ _ hd)).trans hd) ((hE13.2 lA (hB _ _ hl)).trans hl) (fun s4 hbb hE4 hB4=>?_) (fun s4 hbb hE4 hB4=>?_)
    ·subst hbb
     simp only at hb
     have ew:IntKind.i64.wrap ((k:Int)+1)=((k+1:Nat):Int):=by
      rw[show (k:Int)+1=((k+1:Nat):Int) from by simp]
      exact qM (by omega)
     repeat (first|with_reducible (refine q9 H ?_;constructor)|simp only[rB,rP,rQ,q8,qf,reduceIte,Nat.reduceLT,Nat.reduceEqDiff,pe3,pf3,t0,t1,t2,t10,t11,t12,qO,ew])
     exact ih n _ _ (Nat.lt_succ_self n) ⟨k+1,by omega,by simp only[rB,rP,rQ,q8,qf,reduceIte,Nat.reduceLT,Nat.reduceEqDiff,t0],by simp only[rB,rP,rQ,q8,qf,reduceIte,Nat.reduceLT,Nat.reduceEqDiff,t1],by simp only[rB,rP,rQ,q8,qf,reduceIte,Nat.reduceLT,Nat.reduceEqDiff,t2],by simp only[rB,rP,rQ,q8,qf,reduceIte,Nat.reduceLT,Nat.reduceEqDiff,t10],by simp only[rB,rP,rQ,q8,qf,reduceIte,Nat.reduceLT,Nat.reduceEqDiff,t11],by simp only[rB,rP,rQ,q8,qf,reduceIte,Nat.reduceLT,Nat.reduceEqDiff],(hE2.trans hE3).trans hE4,hB4,hb⟩
    ·subst hbb
     simp only[Option.some.injEq] at hb
     repeat (first|with_reducible (refine q9 H ?_;constructor)|simp only[rB,rP,rQ,q8,qf,reduceIte,Nat.reduceLT,Nat.reduceEqDiff,pe3,pf3])
     exact hf s4 hb.symm (hE13.trans hE4) hB4
   ·rw[hfit] at hb
    simp only[cond_false,Option.some.injEq] at hb
    repeat (first|with_reducible (refine q9 H ?_;constructor)|simp only[rB,rP,rQ,q8,qf,reduceIte,Nat.reduceLT,Nat.reduceEqDiff,pe3,pf3])
    exact hf s3 hb.symm (hE12.trans hE3) hB3
end Go.AX
