import Derived.Test.YtkcbaokljkalcaaGreatAp3B2
import Derived.Test.YtkcbaokljkalcaaGreatAp3A3
set_option linter.unusedVariables false
set_option linter.unusedSimpArgs false
set_option linter.defProp false
namespace Go.AX
open Go.Proofs Go.RowKit
set_option maxRecDepth 1000000
set_option linter.unusedSimpArgs false
theorem qql:(evY TE pr2 3000).call 8 [] st0 (fun v _=>WB v) (fun _ _=>false)=true:=by kernel_rfl
def qsy (args:List AV) (s:St):Option (AV × St):=match args with
 | []=>some (q8 true,s)
 | _=>none
def pr3:Prims:=pr2.add 8 qsy
theorem ok3:Ok TE Tryz.prog pr3:=⟨ok0.prog,Jq (ok2 ok0).prims (fun {args s s' v w0 w E Args} h hv hs=>by
 unfold qsy at h
 split at h
 ·simp only[Option.some.injEq,Prod.mk.injEq] at h
  obtain⟨rfl,rfl⟩:=h
  exact Ju rfl rfl (fun kr kp hk=>qm9 (Y6 (qph (ok2 ok0) 3000) qql) hk) hv hs
 ·cases h)⟩
theorem pe3 {g:Nat} {args:List AV} {s:St} (h:g≠220):pr3.ext g args s=none:=qq3 h
theorem qwp {r:Tasks} {a:Ac} {dst:Option Tmp} {s:St} {k:Ac→St→Bool} {kp:AV→St→Bool}:YQ pr3 r (.fn 8 []) [] a dst s k kp=Q2 a dst (.raw (.bool true)) s k:=by
 refine JU (pe3 (by decide)) ?_
 unfold pr3
 rw[JI]
 rfl
theorem pf3 {g:Nat} {args:List AV} {s:St} (h1:g≠149) (h2:g≠136) (h3:g≠133) (h4:g≠171) (h5:g≠109) (h6:g≠147) (h7:g≠128) (h8:g≠103) (h9:g≠8):pr3.fn g args s=none:=by
 unfold pr3
 rw[Qb h9]
 unfold pr2
 rw[Qb h8,Qb h7]
 exact pf1 h1 h2 h3 h4 h5 h6
end Go.AX
