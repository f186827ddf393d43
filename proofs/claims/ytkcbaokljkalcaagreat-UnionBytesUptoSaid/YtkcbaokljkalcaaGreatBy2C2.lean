import Derived.Test.YtkcbaokljkalcaaGreatBy2C1
import Derived.Test.YtkcbaokljkalcaaGreatBy2A3
set_option linter.unusedVariables false
set_option linter.unusedSimpArgs false
set_option linter.defProp false
namespace Go.AX
open Go.Proofs Go.RowKit
set_option maxRecDepth 1000000
set_option linter.unusedSimpArgs false
def qy1 (b:List Nat) (c:Nat):Bool:=match qJ b c 0 with|some _=>true|none=>false
theorem qiy {s:St} (H:Ok TE Tryz.prog pr3) {b:List Nat} {c:Nat} (hc:c < 256) {kr kp:AV→St→Bool} (hk:kr (.raw (.int .i64 (qfz b c))) s=true):(sem Tryz.prog).call 154 [.str b,.str [c]] s kr kp=true:=by
 refine qp H 8 q32 rfl rfl ?_
 repeat (first|with_reducible (refine q9 H ?_;constructor)|simp only[rB,rP,rQ,q8,qa,q7,qb,reduceIte,reduceCtorEq,Nat.reduceAdd,Nat.reduceLT,Nat.reduceEqDiff,UInt8.reduceToNat,pe3,pf3,Tryz.results154]|(with_reducible refine qhw ok0 hc ?_))
 exact hk
theorem qa0 {s:St} (H:Ok TE Tryz.prog pr3) {b:List Nat} {c:Nat} (hc:c < 256) {kr kp:AV→St→Bool} (hk:kr (.raw (.bool (qy1 b c))) s=true):(sem Tryz.prog).call 135 [.str b,.str [c]] s kr kp=true:=by
 refine qp H 9 q1t rfl rfl ?_
 unfold qy1 at hk
 cases h:qJ b c 0 with
 | some i =>
  rw[h] at hk
  have e0:qfz b c=(i:Int):=by simp[qfz,h]
  have e1:decide ((i:Int) ≥ 0)=true:=by simp
  repeat (first|with_reducible (refine q9 H ?_;constructor)|simp only[rB,rP,rQ,q8,qa,q7,qb,reduceIte,reduceCtorEq,Nat.reduceAdd,Nat.reduceLT,Nat.reduceEqDiff,UInt8.reduceToNat,pe3,pf3,e0,e1,Y3,Tryz.results135]|(with_reducible refine qiy H hc ?_))
  exact hk
 | none =>
  rw[h] at hk
  have e0:qfz b c=-1:=by simp[qfz,h]
  have e1:decide ((-1:Int) ≥ 0)=false:=by decide
  repeat (first|with_reducible (refine q9 H ?_;constructor)|simp only[rB,rP,rQ,q8,qa,q7,qb,reduceIte,reduceCtorEq,Nat.reduceAdd,Nat.reduceLT,Nat.reduceEqDiff,UInt8.reduceToNat,pe3,pf3,e0,e1,Y3,Tryz.results135]|(with_reducible refine qiy H hc ?_))
  exact hk
def J5 (b:List Nat):Bool:=Nat.ble 1 b.length&&(Nat.ble b.length 64&&!qy1 b 0)
theorem qrm {s:St} (H:Ok TE Tryz.prog pr3) {b:List Nat} {kr kp:AV→St→Bool} (hk:kr (.raw (.bool (J5 b))) s=true):(sem Tryz.prog).call 100 [.str b] s kr kp=true:=by
 refine qp H 16 qzx rfl rfl ?_
 unfold J5 at hk
 by_cases h1:1≤b.length
 ·have e1:decide ((b.length:Int) ≥ 1)=true:=by rw[decide_eq_true_eq];omega
  rw[Nat.ble_eq.mpr h1,Bool.true_and] at hk
  by_cases h2:b.length≤64
  ·have e2:decide ((b.length:Int)≤64)=true:=by rw[decide_eq_true_eq];omega
   rw[Nat.ble_eq.mpr h2,Bool.true_and] at hk
   repeat (first|with_reducible (refine q9 H ?_;constructor)|simp only[rB,rP,rQ,q8,qa,q7,qb,reduceIte,reduceCtorEq,Nat.reduceAdd,Nat.reduceLT,Nat.reduceEqDiff,UInt8.reduceToNat,pe3,pf3,ql,YL,Y3,e1,e2,Tryz.results100]|(with_reducible refine qa0 H (by decide) ?_))
   exact hk
  ·have e2:decide ((b.length:Int)≤64)=false:=by rw[decide_eq_false_iff_not];omega
   have e2':Nat.ble b.length 64=false:=by rw[← Bool.not_eq_true,Nat.ble_eq];exact h2
   rw[e2',Bool.false_and] at hk
   repeat (first|with_reducible (refine q9 H ?_;constructor)|simp only[rB,rP,rQ,q8,qa,q7,qb,reduceIte,reduceCtorEq,Nat.reduceAdd,Nat.reduceLT,Nat.reduceEqDiff,UInt8.reduceToNat,pe3,pf3,ql,YL,Y3,e1,e2,Tryz.results100])
   exact hk
 ·have e1:decide ((b.length:Int) ≥ 1)=false:=by rw[decide_eq_false_iff_not];omega
  have e1':Nat.ble 1 b.length=false:=by rw[← Bool.not_eq_true,Nat.ble_eq];exact h1
  rw[e1',Bool.false_and] at hk
  repeat (first|with_reducible (refine q9 H ?_;constructor)|simp only[rB,rP,rQ,q8,qa,q7,qb,reduceIte,reduceCtorEq,Nat.reduceAdd,Nat.reduceLT,Nat.reduceEqDiff,UInt8.reduceToNat,pe3,pf3,ql,YL,Y3,e1,Tryz.results100])
  exact hk
def setK (p:List Nat) (j:Nat):List (List Nat × Nat)→List (List Nat × Nat)
 | []=>[(p,j)]
 | (q,i)::l=>bif eqB p q then (p,j)::l else (q,i)::setK p j l
theorem qe2 {p:List Nat} {j:Nat}:∀ (l:List (List Nat × Nat)),qM p l≠none→setL (zQ l) (l.findIdx fun q=>eqB p q.1) (.str p,.ptr j 0)=zQ (setK p j l)
 | [],h=>absurd rfl h
 | (q,i)::l,h=>by
  simp only[qM] at h
  simp only[zQ,List.map_cons,List.findIdx_cons,setK]
  cases he:eqB p q with
  | true=>simp only[cond_true,setL,List.map_cons]
  | false =>
   rw[he] at h
   have ih:=qe2 (j:=j) l h
   simp only[zQ] at ih
   simp only[cond_false,setL,ih,List.map_cons]
theorem qe8 {p:List Nat} {j:Nat}:∀ (l:List (List Nat × Nat)),qM p l=none→zQ l++[(.str p,.ptr j 0)]=zQ (setK p j l)
 | [],_=>(rfl)
 | (q,i)::l,h=>by
  simp only[qM] at h
  cases he:eqB p q with
  | true=>rw[he] at h;cases h
  | false =>
   rw[he] at h
   have ih:=qe8 (j:=j) l h
   simp only[zQ] at ih
   simp only[zQ,List.map_cons,setK,he,cond_false,List.cons_append,ih]
theorem Vu {s:St} {mp:Nat} {kids:List (List Nat × Nat)} {p:List Nat} {j:Nat} (h:s.h.get mp=some (.map (zQ kids))):za TE s 115 (.map mp) (.str p) (.ptr j 0)=some { s with h:=s.h.set mp (.map (zQ (setK p j kids))) }:=by
 have e:za TE s 115 (.map mp) (.str p) (.ptr j 0)=(match s.h.get mp with
   | some (.map es)=>match Qr .string (.str p) es 0 with
      | some (some (i,_))=>some { s with h:=s.h.set mp (.map (setL es i (.str p,.ptr j 0))) }
      | some none=>some { s with h:=s.h.set mp (.map (es++[(.str p,.ptr j 0)])) }
      | none=>none
   | _=>none):=by kernel_rfl
 rw[e,h]
 simp only[XQ]
 cases hl:qM p kids with
 | none=>simp only[qe8 kids hl]
 | some i=>simp only[Nat.zero_add,qe2 kids (by rw[hl];simp)]
theorem qkt {s:St} (H:Ok TE Tryz.prog pr3) (hB:qc s) {u j:Nat} {ud kd:Nd} (hu:qvb s u ud) (hj:s.h.get j=some (ndA kd)) (huj:u≠j) {nm:List Nat} {kr kp:AV→St→Bool}
  (hk:∀ s',s'.nx=s.nx→Chg s s' [(j,ndA { kd with up:=some u,name:=nm }),(ud.mp,.map (zQ (setK nm j ud.kids)))]→qc s'→kr (.ptr j 0) s'=true) :
  (sem Tryz.prog).call 93 [.ptr u 0,.str nm,.ptr j 0] s kr kp=true:=by
 refine qp H 22 q5v rfl rfl ?_
 have hu1:=hu.1
 have hu2:=hu.2
 have hjm:j≠ud.mp:=by
  intro hh
  rw[hh,hu2] at hj
  cases hj
 have v1:(u=j)=False:=by simp[huj]
 have v2:(ud.mp=j)=False:=by simp;exact fun hh=>hjm hh.symm
 have v3:(j=ud.mp)=False:=by simp[hjm]
 let s2:St:={ s with h:=(s.h.set j (ndA { kd with up:=some u })).set j (ndA { kd with up:=some u,name:=nm }) }
 have hm2:s2.h.get ud.mp=some (.map (zQ ud.kids)):=(qe (fun hh=>hjm hh.symm)).trans ((qe (fun hh=>hjm hh.symm)).trans hu2)
 have up:=Vu (p:=nm) (j:=j) hm2
 simp only[s2,ndA,upA] at up
 repeat (first|with_reducible (refine q9 H ?_;constructor)|simp only[rB,rP,rQ,q8,qa,q7,qb,reduceIte,reduceCtorEq,Nat.reduceAdd,Nat.reduceLT,Nat.reduceEqDiff,UInt8.reduceToNat,pe3,pf3,qf0,q6i,q8z,J3,q0e,qct,hu1,hj,ndA,v1,v2,v3,up,Tryz.results93])
 refine hk _ rfl ⟨Nat.le_refl _,?_,?_⟩ (qn (qn (qn hB (hB _ _ hj) _) (hB _ _ hj) _) (hB _ _ hu2) _)
 ·intro q hq
  simp only[List.mem_cons,List.not_mem_nil,or_false] at hq
  rcases hq with rfl|rfl
  ·exact (qe hjm).trans hs_same
  ·exact hs_same
 ·intro q hq hn
  have g1:=hn _ List.mem_cons_self
  have g2:=hn _ (List.mem_cons_of_mem _ List.mem_cons_self)
  exact (qe g2).trans ((qe g1).trans (qe g1))
theorem q4y {t:Tr AV} {m:Nat} {s:St}:q7 TE Tryz.f58 ⟨t,m,[]⟩ s=some (.tuple []):=by
 simp only[q7,Tryz.results58]
 rfl
theorem b_in {t:TypeId} {v u:AV}:qE .neq (.iface t v) u=none:=(rfl)
theorem b_nn {u:AV}:qE .neq (.raw .nilIface) u=none:=(rfl)
theorem q7o {s:St} {t:TypeId} {v:AV} {d:Option (AV × List Nat)}:eqS TE s .neq 20 (.iface t v) (.raw .nilIface) d=some (.raw (.bool true),[]):=by kernel_rfl
theorem q5y {v:AV}:Vi TE (.iface 110 v) 110 true=some (.tuple [v,.raw (.bool true)]):=by kernel_rfl
theorem bd_s {n:Int}:Qb TE 38 [(0,.raw (.int .i64 n))]=some (.agg (anL n 0 0 0 [] nilS)):=by kernel_rfl
theorem qo8 {a:Ac}:a.eval (.const .nilIface)=.raw .nilIface:=(rfl)
theorem qtl {s:St} (H:Ok TE Tryz.prog pr3) {fn:Func} {a:Ac} {kr kp:AV→St→Bool} {ds:List AD} {A:Nat} {n:Int} {st nu k m:Int} {d:List Nat} {N:AV} (hA:s.h.get A=some (.cells (anL st nu k m d N) 38 0))
  (hk:zw TE (sem Tryz.prog) fn a kr kp ds none { s with h:=s.h.set A (.cells (anL n 0 0 0 [] nilS) 38 0) }=true) :
  zw TE (sem Tryz.prog) fn a kr kp (.call 58 [.ptr A 0]::ds) (some (.iface 110 (.raw (.int .i64 n)))) s=true:=by
 rw[VG 17 q17 rfl rfl]
 repeat (first|with_reducible (refine q9 H ?_;constructor)|simp only[rB,rP,rQ,q8,qa,q7,qb,reduceIte,reduceCtorEq,Nat.reduceAdd,Nat.reduceLT,Nat.reduceEqDiff,UInt8.reduceToNat,pe3,pf3,Option.map_some,qud,qo1,WW,quf,qls,q3q,q2l,q9c,qua,qtr,qfm,Vr,b_in,q7o,qo8,q5y,bd_s,KZ,J7,ZM,hA,Zb,qd1 q4y,qt3 q4y])
 exact hk
theorem q3h {i:Nat}:qX TE.P (do let r ← (do eqGuard .neq 20 (.tmp i) (.const .nilIface) .nilIface .nilIface;binOp .neq 20 .nilIface .nilIface);pure (Next.value r))=some (.value (.bool false)):=by kernel_rfl
def qo0:AV→Bool
 | .raw .nilIface=>true
 | _=>false
theorem nili:qo0 (.raw .nilIface)=true:=(rfl)
theorem q6c {a:Ac} {dst:Option Tmp} {i:Nat} {ty:TypeId} {pos:String} {after:Array Edge} (hx:qo0 (a.eval (.tmp i))=true) :
  qt TE a ⟨dst,.binOp .neq 20 (.tmp i) (.const .nilIface) 20,ty,pos,after,none⟩=some (.raw (.bool false),[]):=by
 have hx:a.eval (.tmp i)=.raw .nilIface:=by
  unfold qo0 at hx
  split at hx
  ·assumption
  ·cases hx
 have h1:zh a (.tmp i)=.nilIface:=by simp[zh,hx,zu]
 have h2:zh a (.const .nilIface)=.nilIface:=rfl
 have hall:(Op.operands (.binOp .neq 20 (.tmp i) (.const .nilIface) 20)).toList.all (fun x=>(zu (a.eval x)).isSome)=true:=by
  show (List.all [.tmp i,.const .nilIface] (fun x=>(zu (a.eval x)).isSome))=true
  simp only[List.all_cons,List.all_nil,hx]
  rfl
 have hr:qX TE.P (execOp (zh a) ⟨dst,.binOp .neq 20 (.tmp i) (.const .nilIface) 20,ty,pos,after,none⟩)=some (.value (.bool false)):=by
  have he:execOp (zh a) ⟨dst,.binOp .neq 20 (.tmp i) (.const .nilIface) 20,ty,pos,after,none⟩=(do let r ← (do eqGuard .neq 20 (.tmp i) (.const .nilIface) .nilIface .nilIface;binOp .neq 20 .nilIface .nilIface);pure (.value r)):=by
   simp only[execOp,h1,h2]
  rw[he]
  exact q3h
 simp only[qt,hall,cond_true,hr]
 rfl
theorem q7z {s:St} {d:Option (AV × List Nat)}:eqS TE s .neq 20 (.raw .nilIface) (.raw .nilIface) d=d:=by kernel_rfl
theorem qtx {s:St} (H:Ok TE Tryz.prog pr3) {fn:Func} {a:Ac} {kr kp:AV→St→Bool} {ds:List AD} {A:Nat} (hk:zw TE (sem Tryz.prog) fn a kr kp ds none s=true) :
  zw TE (sem Tryz.prog) fn a kr kp (.call 58 [.ptr A 0]::ds) none s=true:=by
 rw[VG 17 q17 rfl rfl]
 repeat (first|with_reducible (refine q9 H ?_;constructor)|simp only[rB,rP,rQ,q8,qa,q7,qb,reduceIte,reduceCtorEq,Nat.reduceAdd,Nat.reduceLT,Nat.reduceEqDiff,UInt8.reduceToNat,pe3,pf3,Option.map_none,qud,qo1,WW,quf,qls,qxj,q2l,q9c,qua,qtr,qfm,Vr,b_nn,q7z,q6c,nili,qo8,Zb,qd1 q4y,qt3 q4y])
 exact hk
def trA (root cwd:Nat) (fds:List (Option Nat)) (many:Int):AO:=.cells (.ptr root 0::.ptr cwd 0::(fds.map upA++[.raw (.int .i64 many)])) 120 0
end Go.AX
