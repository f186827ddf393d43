import Derived.Test.YtkcbaokljkalcaaGreatBy2B2
import Derived.Test.YtkcbaokljkalcaaGreatBy2A3
set_option linter.unusedVariables false
set_option linter.unusedSimpArgs false
set_option linter.defProp false
namespace Go.AX
open Go.Proofs Go.RowKit
set_option maxRecDepth 1000000
set_option linter.unusedSimpArgs false
theorem qse:(evY TE pr2 3000).call 8 [] st0 (fun v _=>Kh v) (fun _ _=>false)=true:=by kernel_rfl
def qtg (args:List AV) (s:St):Option (AV × St):=match args with
 | []=>some (q8 true,s)
 | _=>none
def pr3:Prims:=pr2.add 8 qtg
theorem ok3:Ok TE Tryz.prog pr3:=⟨ok0.prog,J0 (ok2 ok0).prims (fun {args s s' v w0 w E Args} h hv hs=>by
 unfold qtg at h
 split at h
 ·simp only[Option.some.injEq,Prod.mk.injEq] at h
  obtain⟨rfl,rfl⟩:=h
  exact Yo rfl rfl (fun kr kp hk=>qnc (ZS (qog (ok2 ok0) 3000) qse) hk) hv hs
 ·cases h)⟩
theorem pe3 {g:Nat} {args:List AV} {s:St} (h:g≠220):pr3.ext g args s=none:=qqp h
theorem qwb {r:Tasks} {a:Ac} {dst:Option Tmp} {s:St} {k:Ac→St→Bool} {kp:AV→St→Bool}:YN pr3 r (.fn 8 []) [] a dst s k kp=zN a dst (.raw (.bool true)) s k:=by
 refine Xm (pe3 (by decide)) ?_
 unfold pr3
 rw[Jk]
 rfl
theorem pf3 {g:Nat} {args:List AV} {s:St} (h1:g≠149) (h2:g≠136) (h3:g≠133) (h4:g≠171) (h5:g≠109) (h6:g≠147) (h7:g≠128) (h8:g≠103) (h9:g≠8):pr3.fn g args s=none:=by
 unfold pr3
 rw[Qx h9]
 unfold pr2
 rw[Qx h8,Qx h7]
 exact pf1 h1 h2 h3 h4 h5 h6
def toU:AV→AV
 | .raw (.int _ z)=>.raw (.int .u64 (IntKind.u64.wrap z))
 | v=>v
theorem quo {k:IntKind} {z:Int}:toU (.raw (.int k z))=.raw (.int .u64 (IntKind.u64.wrap z)):=(rfl)
theorem q2o {z:Int}:qX TE.P (do pure (Next.value (← convert 3 35 (.int .i64 z))))=some (.value (.int .u64 (IntKind.u64.wrap z))):=by kernel_rfl
theorem q5j {s:St} {z:Int}:ql2 TE s 3 35 (.raw (.int .i64 z))=none:=by kernel_rfl
theorem q6g {pr:Prims} {r:Tasks} {rd:Option Nat} {a:Ac} {s:St} {dst:Option Tmp} {x:Operand} {ty:TypeId} {pos:String} {after:Array Edge} {k:Ac→St→Bool} {kp:AV→St→Bool} (h:qku (a.eval x)=true) :
  QC TE pr r rd ⟨dst,.convert 3 35 x,ty,pos,after,none⟩ a s k kp=zN a dst (toU (a.eval x)) s k:=by
 obtain⟨z,hz⟩:=qbl h
 have h1:zh a x=.int .i64 z:=by simp[zh,hz,zu]
 have hall:(Op.operands (.convert 3 35 x)).toList.all (fun x=>(zu (a.eval x)).isSome)=true:=by
  show (List.all [x] (fun x=>(zu (a.eval x)).isSome))=true
  simp[hz,zu]
 have hr:qX TE.P (execOp (zh a) ⟨dst,.convert 3 35 x,ty,pos,after,none⟩)=some (.value (.int .u64 (IntKind.u64.wrap z))):=by
  have he:execOp (zh a) ⟨dst,.convert 3 35 x,ty,pos,after,none⟩=(do pure (Next.value (← convert 3 35 (.int .i64 z)))):=by
   simp only[execOp,h1]
  rw[he]
  exact q2o
 have hp:qt TE a ⟨dst,.convert 3 35 x,ty,pos,after,none⟩=some (.raw (.int .u64 (IntKind.u64.wrap z)),[]):=by
  simp only[qt,hall,cond_true,hr]
  rfl
 have hs:zp TE a s ⟨dst,.convert 3 35 x,ty,pos,after,none⟩=some (.raw (.int .u64 (IntKind.u64.wrap z)),[]):=by
  simp only[zp,hz,q5j,hp]
 show zA TE ⟨dst,.convert 3 35 x,ty,pos,after,none⟩ a s k=_
 rw[Qz hs,hz]
 rfl
def qoa:AV→Bool
 | .raw (.int .u64 _)=>true
 | _=>false
theorem qxg {z:Int}:qoa (.raw (.int .u64 z))=true:=(rfl)
theorem qik {v:AV} (h:qoa v=true):∃ z,v=.raw (.int .u64 z):=by
 unfold qoa at h
 split at h
 ·exact⟨_,rfl⟩
 ·cases h
def q86 (m:Int):AV→Option (AV × List Nat)
 | .raw (.int .u64 z)=>some (.raw (.int .u64 (z.tmod m)),[])
 | _=>none
theorem qsz {m z:Int}:q86 m (.raw (.int .u64 z))=some (.raw (.int .u64 (z.tmod m)),[]):=(rfl)
theorem q6b {v w:AV}:qE .rem v w=none:=by
 unfold qE
 split
 ·split <;> rfl
 ·rfl
 ·rfl
theorem qvy {s:St} {t:TypeId} {x y:AV} {d:Option (AV × List Nat)}:eqS TE s .rem t x y d=d:=(rfl)
end Go.AX
