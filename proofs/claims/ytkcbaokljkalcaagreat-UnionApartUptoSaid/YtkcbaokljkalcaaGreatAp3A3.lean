import Derived.Test.YtkcbaokljkalcaaGreatAp3A2
import Derived.IntWalk
set_option linter.unusedVariables false
set_option linter.unusedSimpArgs false
set_option linter.defProp false
namespace Go.AX
open Go.RowKit
variable {P:Program} {e:Env} {pr:Prims} {r:Tasks} {rd:Option Nat} {a:Ac} {s:St}
def q0i (P:Program) (rd:Option Nat) (c:Code) (a:Ac) (s:St) (k:AE→Ac→St→Bool):Prop :=
 ∀ (RD:Option Nat) (w0 w:World) (E:Em) (A:Act) (Q:Exit→Act→World→Prop),RdRel E rd RD→FRel E a A→Sim w0 E s w→KOk w0 E k Q →
  c.wpIn (FW RD) 0 P Q A w∧(∀ c',c=.loop c'→LoopOk (FW RD) P c' Q A w)
def q0e (P:Program) (f:FuncId) (args:List AV) (s:St) (kr kp:AV→St→Bool):Prop :=
 ∀ (w0 w:World) (E:Em) (Args:List Value) (R Rp:Value→World→Prop),VRels E args Args→Sim w0 E s w→POk w0 E kr R→POk w0 E kp Rp →
  QN P f∧CallsIn (FW none) 0 P f Args.toArray w (QR R Rp)
noncomputable def sem (P:Program):Tasks:={
 code:=fun rd c a s k=>@decide (q0i P rd c a s k) (Classical.propDecidable _)
 call:=fun f args s kr kp=>@decide (q0e P f args s kr kp) (Classical.propDecidable _) }
theorem sem_code {c:Code} {k:AE→Ac→St→Bool}:(sem P).code rd c a s k=true↔q0i P rd c a s k:=by
 show @decide _ (Classical.propDecidable _)=true↔_
 exact @decide_eq_true_iff _ (Classical.propDecidable _)
theorem sem_call {f:FuncId} {args:List AV} {kr kp:AV→St→Bool}:(sem P).call f args s kr kp=true↔q0e P f args s kr kp:=by
 show @decide _ (Classical.propDecidable _)=true↔_
 exact @decide_eq_true_iff _ (Classical.propDecidable _)
theorem sem_sound:Sound P (sem P):={
 code:=fun h h1 h2 h3 h4=>(sem_code.1 h _ _ _ _ _ _ h1 h2 h3 h4).1
 loop:=fun h h1 h2 h3 h4=>(sem_code.1 h _ _ _ _ _ _ h1 h2 h3 h4).2 _ rfl
 call:=fun h h1 h2 h3 h4=>sem_call.1 h _ _ _ _ _ _ h1 h2 h3 h4 }
theorem Y5 (hr:Sound P r) {c:Code} {k:AE→Ac→St→Bool} (h:r.code rd c a s k=true):(sem P).code rd c a s k=true:=by
 refine sem_code.2 fun RD w0 w E A Q h1 h2 h3 h4=>⟨hr.code h h1 h2 h3 h4,fun c' hc=>?_⟩
 subst hc
 exact hr.loop h h1 h2 h3 h4
theorem Y6 (hr:Sound P r) {f:FuncId} {args:List AV} {kr kp:AV→St→Bool} (h:r.call f args s kr kp=true):(sem P).call f args s kr kp=true :=
 sem_call.2 fun _ _ _ _ _ _ h1 h2 h3 h4=>hr.call h h1 h2 h3 h4
structure Ok (e:Env) (P:Program) (pr:Prims):Prop where
 prog:ProgOk e P
 prims:PrimsOk P pr
theorem Ok.code (H:Ok e P pr) {c:Code} {k:AE→Ac→St→Bool} (h:(step e pr (sem P)).code rd c a s k=true):(sem P).code rd c a s k=true :=
 Y5 (YA H.prog H.prims sem_sound) h
theorem Ok.call (H:Ok e P pr) {f:FuncId} {args:List AV} {kr kp:AV→St→Bool} (h:(step e pr (sem P)).call f args s kr kp=true):(sem P).call f args s kr kp=true :=
 Y6 (YA H.prog H.prims sem_sound) h
theorem Ok.run (H:Ok e P pr) {n:Nat} {f:FuncId} {args:List AV} {kr kp:AV→St→Bool} (h:(ev e pr n).call f args s kr kp=true):(sem P).call f args s kr kp=true :=
 Y6 (qis H.prog H.prims n) h
def qx0 (r:Tasks) (rd:Option Nat) (y:Code) (k:AE→Ac→St→Bool):AE→Ac→St→Bool:=fun ex a' s'=>match ex with
 | .normal=>r.code rd y a' s' k
 | ex=>k ex a' s'
def XK (id:Nat) (k:AE→Ac→St→Bool):AE→Ac→St→Bool:=fun ex a' s'=>match ex with
 | .exit id'=>bif Nat.beq id' id then k .normal a' s' else k (.exit id') a' s'
 | ex=>k ex a' s'
def qbe (k:AE→Ac→St→Bool):AE→Ac→St→Bool:=fun ex a' s'=>match ex with
 | .goto _=>false
 | ex=>k ex a' s'
def qlf (r:Tasks) (rd:Option Nat) (c:Code) (k:AE→Ac→St→Bool):AE→Ac→St→Bool:=fun ex a' s'=>match ex with
 | .normal=>r.code rd (.loop c) a' s' k
 | ex=>k ex a' s'
def qsa (e:Env) (r:Tasks) (fn:Func) (kr kp:AV→St→Bool):AE→Ac→St→Bool:=fun ex a' s'=>match ex with
 | .normal=>zG e r fn a' kr kp a'.d none s'
 | .ret=>zG e r fn a' kr kp a'.d none s'
 | .panic v=>zG e r fn a' kr kp a'.d (some v) s'
 | _=>false
def q3l (e:Env) (pr:Prims) (r:Tasks) (rd:Option Nat) (all l:List Oper) (k:AE→Ac→St→Bool):Ac→St→Bool:=fun a' s'=>VC e pr r rd all l a' s' k
def q6w (a:Ac) (k:AE→Ac→St→Bool):AV→St→Bool:=fun v s'=>k (.panic v) a s'
def qya (a:Ac) (dst:Option Tmp) (k:Ac→St→Bool):AV→St→Bool:=fun v s'=>Q2 a dst v s' k
section
variable {k:AE→Ac→St→Bool}
theorem qk (H:Ok e P pr) {f:FuncId} {args:List AV} {kr kp:AV→St→Bool} {fn:Func} {c:Code} (m:Nat) (h:e.fn.get f=some fn) (hb:fn.body=some c) (hm:Nat.max fn.ntmps args.length=m)
  (hc:(sem P).code none c { t:=QH .e 0 args,n:=m,d:=[] } s (qsa e (sem P) fn kr kp)=true):(sem P).call f args s kr kp=true:=by
 refine H.call ?_
 subst hm
 simp only[step,h,hb]
 exact hc
theorem q6x (H:Ok e P pr) {x y:Code} (h:(sem P).code rd x a s (qx0 (sem P) rd y k)=true):(sem P).code rd (.seq x y) a s k=true:=H.code h
theorem qzj (H:Ok e P pr) (h:k .normal a s=true):(sem P).code rd .skip a s k=true:=H.code h
theorem q4u (H:Ok e P pr) (h:k .ret a s=true):(sem P).code rd .ret a s k=true:=H.code h
theorem qyw (H:Ok e P pr) {i:Nat} (h:k (.exit i) a s=true):(sem P).code rd (.exit i) a s k=true:=H.code h
theorem qu6 (H:Ok e P pr) {i:Nat} (h:k .normal a s=true):(sem P).code rd (.label i) a s k=true:=H.code h
theorem qt3 (H:Ok e P pr) {i:Nat} {c:Code} (h:(sem P).code rd c a s (XK i k)=true):(sem P).code rd (.block i c) a s k=true:=H.code h
theorem qt2 (H:Ok e P pr) {c:Code} (h:(sem P).code rd c a s (qbe k)=true):(sem P).code rd (.scope c) a s k=true:=H.code h
theorem qi9 (H:Ok e P pr) {c:Code} (h:(sem P).code rd c a s (qlf (sem P) rd c k)=true):(sem P).code rd (.loop c) a s k=true:=H.code h
theorem qzb (H:Ok e P pr) {c:Operand} {x y:Code} (b:Bool) (hb:a.eval c=.raw (.bool b)) (h:(sem P).code rd (bif b then x else y) a s k=true):(sem P).code rd (.cond c x y) a s k=true:=by
 refine H.code ?_
 simp only[step,hb]
 exact h
theorem qr3 (H:Ok e P pr) {i:Nat} {ops:List Oper} (h:VC e pr (sem P) rd ops ops a s k=true):(sem P).code rd (.region i ops.toArray false) a s k=true:=by
 refine H.code ?_
 simp only[step]
 exact h
theorem q5x (H:Ok e P pr) {i:Nat} {ops:List Oper} (hs:Kc ops=true) (h:Vn e pr (sem P) rd ops.toArray ops.length (Array.replicate ops.length false) [] a s (fun a' s'=>k .normal a' s') (fun v a' s'=>k (.panic v) { a' with t:=Yv a'.t ops } s')=true) :
  (sem P).code rd (.region i ops.toArray true) a s k=true:=by
 refine H.code ?_
 simp only[step,hs,cond_true]
 exact h
end
end Go.AX
namespace Go.AX
open Go.RowKit
variable {P:Program} {e:Env} {pr:Prims} {r:Tasks} {rd:Option Nat} {a:Ac} {s:St}
def tg (t:Tr AV) (i:Nat):AV:=match t.get i with|some v=>v|none=>Qc
theorem qtq {t:Tr AV} {i:Nat} {v:AV}:tg (t.set i v) i=v:=by simp[tg,Tr.get_set]
theorem q4v {t:Tr AV} {i j:Nat} {v:AV} (h:i≠j):tg (t.set j v) i=tg t i:=by simp[tg,Tr.get_set,h]
theorem q14 {t:Tr AV} {m:Nat} {ds:List AD} {i:Nat}:Ac.eval ⟨t,m,ds⟩ (.tmp i)=tg t i:=(rfl)
theorem qzo {k:IntKind} {i:Int}:a.eval (.const (.int k i))=.raw (.int k i):=(rfl)
theorem qxv {b:Bool}:a.eval (.const (.bool b))=.raw (.bool b):=(rfl)
theorem qzq {d:Array UInt8}:a.eval (.const (.string ⟨d⟩))=.str (d.toList.map UInt8.toNat):=(rfl)
theorem qud:a.eval (.const (.pointer none))=.raw (.pointer none):=(rfl)
theorem qv5:a.eval (.const .nilFunc)=.raw .nilFunc:=(rfl)
theorem qwv {n c:Nat}:a.eval (.const (.slice none n c))=.raw (.slice none n c):=(rfl)
theorem qwu {f:FuncId}:a.eval (.func f)=.fn f []:=(rfl)
theorem in0 {t:Tr AV} {i:Nat}:QH t i []=t:=(rfl)
theorem in1 {t:Tr AV} {i:Nat} {v:AV} {vs:List AV}:QH t i (v::vs)=QH (t.set i v) (i+1) vs:=(rfl)
section
variable {k:AE→Ac→St→Bool}
theorem qfk {y:Code}:qx0 r rd y k .normal a s=r.code rd y a s k:=(rfl)
theorem ql1 {y:Code}:qx0 r rd y k .ret a s=k .ret a s:=(rfl)
theorem qkd {i:Nat} {y:Code}:qx0 r rd y k (.exit i) a s=k (.exit i) a s:=(rfl)
theorem qgw {v:AV} {y:Code}:qx0 r rd y k (.panic v) a s=k (.panic v) a s:=(rfl)
theorem qho:qbe k .normal a s=k .normal a s:=(rfl)
theorem qq5:qbe k .ret a s=k .ret a s:=(rfl)
theorem qo2 {i:Nat}:qbe k (.exit i) a s=k (.exit i) a s:=(rfl)
theorem qkp {v:AV}:qbe k (.panic v) a s=k (.panic v) a s:=(rfl)
theorem WL {i:Nat}:XK i k .normal a s=k .normal a s:=(rfl)
theorem qg2 {i:Nat}:XK i k .ret a s=k .ret a s:=(rfl)
theorem qbz {i:Nat} {v:AV}:XK i k (.panic v) a s=k (.panic v) a s:=(rfl)
theorem qfo {i:Nat}:XK i k (.exit i) a s=k .normal a s:=by simp[XK]
theorem qkq {i j:Nat} (h:j≠i):XK i k (.exit j) a s=k (.exit j) a s:=by
 have:Nat.beq j i=false:=by
  cases hb:Nat.beq j i with
  | false=>rfl
  | true=>exact absurd (Nat.eq_of_beq_eq_true hb) h
 simp[XK,this]
theorem qdf {c:Code}:qlf r rd c k .normal a s=r.code rd (.loop c) a s k:=(rfl)
theorem qla {c:Code}:qlf r rd c k .ret a s=k .ret a s:=(rfl)
theorem qgk {c:Code} {i:Nat}:qlf r rd c k (.exit i) a s=k (.exit i) a s:=(rfl)
theorem qfu {c:Code} {v:AV}:qlf r rd c k (.panic v) a s=k (.panic v) a s:=(rfl)
theorem qco {fn:Func} {kr kp:AV→St→Bool}:qsa e r fn kr kp .normal a s=zG e r fn a kr kp a.d none s:=(rfl)
theorem qjx {fn:Func} {kr kp:AV→St→Bool}:qsa e r fn kr kp .ret a s=zG e r fn a kr kp a.d none s:=(rfl)
theorem qd5 {fn:Func} {v:AV} {kr kp:AV→St→Bool}:qsa e r fn kr kp (.panic v) a s=zG e r fn a kr kp a.d (some v) s:=(rfl)
theorem qty {fn:Func} {kr kp:AV→St→Bool}:zG e r fn a kr kp [] none s=match q7 e fn a s with
  | some v=>kr v s
  | none=>false:=(rfl)
theorem qbv {fn:Func} {kr kp:AV→St→Bool} {v:AV}:zG e r fn a kr kp [] (some v) s=kp v s:=(rfl)
theorem q48 {all l:List Oper}:q3l e pr r rd all l k a s=VC e pr r rd all l a s k:=(rfl)
theorem q46 {dst:Option Tmp} {k:Ac→St→Bool} {v:AV}:qya a dst k v s=Q2 a dst v s k:=(rfl)
theorem q6d {v:AV}:q6w a k v s=k (.panic v) a s:=(rfl)
theorem q5r {all:List Oper}:VC e pr r rd all [] a s k=k .normal a s:=(rfl)
theorem qtn {all l:List Oper} {dst:Option Tmp} {op:Op} {ty:TypeId} {pos:String} {after:Array Edge}:VC e pr r rd all (⟨dst,op,ty,pos,after,none⟩::l) a s k =
  Z1 e pr r rd ⟨dst,op,ty,pos,after,none⟩ a s (q3l e pr r rd all l k) (q6w a k):=(rfl)
theorem qxc {all l:List Oper} {dst:Option Tmp} {op:Op} {ty:TypeId} {pos:String} {after:Array Edge} {j:Nat} {b:Bool}:VC e pr r rd all (⟨dst,op,ty,pos,after,some (j,b)⟩::l) a s k =
  match Qp all a ⟨dst,op,ty,pos,after,some (j,b)⟩ with
  | some true=>Z1 e pr r rd ⟨dst,op,ty,pos,after,none⟩ a s (q3l e pr r rd all l k) (q6w a k)
  | some false=>Q2 a dst Qc s (q3l e pr r rd all l k)
  | none=>false:=(rfl)
end
def gd:List Oper→Nat→Option Tmp
 | [],_=>none
 | o::_,0=>o.dst
 | _::l,j+1=>gd l j
theorem qw8 {l:List Oper} {dst:Option Tmp} {op:Op} {ty:TypeId} {pos:String} {after:Array Edge} {g:Option (Nat × Bool)}:gd (⟨dst,op,ty,pos,after,g⟩::l) 0=dst:=(rfl)
theorem qxe {l:List Oper} {o:Oper} {j:Nat}:gd (o::l) (j+1)=gd l j:=(rfl)
theorem qs5:∀ (l:List Oper) (j:Nat),gd l j=match l[j]? with|some o=>o.dst|none=>none
 | [],_=>rfl
 | _::_,0=>rfl
 | o::l,j+1=>by simpa [gd] using qs5 l j
def gx (want:Bool):Option AV→Option Bool
 | some (.raw (.bool b))=>some (b==want)
 | some (.raw (.tuple _))=>some false
 | _=>none
theorem q4n:gx true (some (.raw (.bool true)))=some true:=(rfl)
theorem q5u:gx true (some (.raw (.bool false)))=some false:=(rfl)
theorem q4e:gx false (some (.raw (.bool true)))=some false:=(rfl)
theorem q4t:gx false (some (.raw (.bool false)))=some true:=(rfl)
theorem qrv {b:Bool}:gx b (some Qc)=some false:=(rfl)
def gw (want:Bool) (d:Option Tmp) (t:Tr AV):Option Bool:=match d with
 | some d=>gx want (t.get d)
 | none=>none
theorem qlm {b:Bool} {d:Tmp} {t:Tr AV}:gw b (some d) t=gx b (t.get d):=(rfl)
theorem qxg {t:Tr AV} {i:Nat} {v:AV}:(t.set i v).get i=some v:=by simp[Tr.get_set]
theorem q6v {t:Tr AV} {i j:Nat} {v:AV} (h:i≠j):(t.set j v).get i=t.get i:=by simp[Tr.get_set,h]
theorem qyg {all:List Oper} {dst:Option Tmp} {op:Op} {ty:TypeId} {pos:String} {after:Array Edge} {t:Tr AV} {m:Nat} {ds:List AD} {j:Nat} {b:Bool} :
  Qp all ⟨t,m,ds⟩ ⟨dst,op,ty,pos,after,some (j,b)⟩=gw b (gd all j) t:=by
 rw[qs5]
 unfold Qp
 simp only
 cases hj:all[j]? with
 | none=>rfl
 | some o =>
  simp only
  cases ho:o.dst with
  | none=>rfl
  | some d =>
   simp only[qlm]
   cases ht:t.get d with
   | none=>rfl
   | some v =>
    cases v with
    | raw w=>cases w <;> rfl
    | _=>rfl
section
variable {dst:Option Tmp} {ty:TypeId} {pos:String} {after:Array Edge} {k:Ac→St→Bool} {kp:AV→St→Bool}
theorem q5w {d:Tmp} {v:AV} {t:Tr AV} {m:Nat} {ds:List AD} (h:d < m):Q2 ⟨t,m,ds⟩ (some d) v s k=k ⟨t.set d v,m,ds⟩ s:=by
 have:Nat.blt d m=true:=Nat.blt_eq.mpr h
 simp only[Q2,Ac.put,this,cond_true]
theorem qyr {v:AV} {t:Tr AV} {m:Nat} {ds:List AD}:Q2 ⟨t,m,ds⟩ none v s k=k ⟨t,m,ds⟩ s:=(rfl)
theorem q12 {x:Operand}:Z1 e pr r rd ⟨dst,.move x,ty,pos,after,none⟩ a s k kp=Q2 a dst (a.eval x) s k:=(rfl)
theorem qqd {x:Operand}:Z1 e pr r rd ⟨dst,.assign x,ty,pos,after,none⟩ a s k kp=Q2 a dst (a.eval x) s k:=(rfl)
def qb8 (o:Option AV) (d:Bool) (a:Ac) (dst:Option Tmp) (s:St) (k:Ac→St→Bool):Bool:=match o with
 | some v=>Q2 a dst v s k
 | none=>d
theorem qng {v:AV} {d:Bool}:qb8 (some v) d a dst s k=Q2 a dst v s k:=(rfl)
def qtx (ids:List Nat) (o:Option AV) (d:Bool) (a:Ac) (dst:Option Tmp) (s:St) (k:Ac→St→Bool):Bool:=match o with
 | some v=>bif zZ s ids then Q2 a dst v s k else false
 | none=>d
theorem qlt {ids:List Nat} {v:AV} {d:Bool} (h:zZ s ids=true):qtx ids (some v) d a dst s k=Q2 a dst v s k:=by simp[qtx,h]
def qlj (o:Option (AV × St)) (a:Ac) (dst:Option Tmp) (k:Ac→St→Bool):Bool:=match o with
 | some (v,s')=>Q2 a dst v s' k
 | none=>false
theorem qm2 {v:AV} {s':St}:qlj (some (v,s')) a dst k=Q2 a dst v s' k:=(rfl)
theorem ZF {o:Oper} {v:AV} {ids:List Nat} (h:zI e a s o=some (v,ids)):zV e o a s k=bif zZ s ids then Q2 a o.dst v s k else false:=by
 simp only[zV,h]
theorem ZH {o:Oper} (h:zI e a s o=none):zV e o a s k=qlj (qcs e a s o) a o.dst k:=by
 simp only[zV,h,qlj]
 split <;> simp_all
theorem zz {o:Oper} {x:Option AV} (h:zI e a s o=zF x) (h':qcs e a s o=none):zV e o a s k=qb8 x false a o.dst s k:=by
 cases x with
 | some v=>rw[ZF h];rfl
 | none=>rw[ZH h,h'];rfl
theorem Vd {o:Oper} {ids:List Nat} {x:Option AV} (h:zI e a s o=KX ids x) (h':qcs e a s o=none):zV e o a s k=qtx ids x false a o.dst s k:=by
 cases x with
 | some v=>rw[ZF h];rfl
 | none=>rw[ZH h,h'];rfl
def qo9 (c x y:AV):Option AV:=match c with | .raw (.bool b)=>some (bif b then x else y)|_=>none
theorem qlg {b:Bool} {x y:AV}:qo9 (.raw (.bool b)) x y=some (bif b then x else y):=(rfl)
theorem q0j {c x y:Operand}:Z1 e pr r rd ⟨dst,.pick c x y,ty,pos,after,none⟩ a s k kp=qb8 (qo9 (a.eval c) (a.eval x) (a.eval y)) false a dst s k:=by
 refine zz (o:=⟨dst,.pick c x y,ty,pos,after,none⟩) ?_ rfl
 simp only[zI,qo9]
 cases h:a.eval c with
 | raw v=>cases v <;> rfl
 | _=>rfl
theorem qtp {t:TypeId} {parts:List (Nat × Operand)}:Z1 e pr r rd ⟨dst,.build t parts.toArray,ty,pos,after,none⟩ a s k kp=qb8 (Qq e t (parts.map fun q=>(q.1,a.eval q.2))) false a dst s k :=
 zz (o:=⟨dst,.build t parts.toArray,ty,pos,after,none⟩) rfl rfl
theorem qyo {t:TypeId} {x:Operand}:Z1 e pr r rd ⟨dst,.load t x,ty,pos,after,none⟩ a s k kp=qtx (Z4 (a.eval x)) (Q1 e s t (a.eval x)) false a dst s k :=
 Vd (o:=⟨dst,.load t x,ty,pos,after,none⟩) rfl rfl
def q08:AV→Option AV
 | .ptr id off=>some (.ptr id off)
 | .fn f c=>some (.fn f c)
 | .yld l=>some (.yld l)
 | .iface t v=>some (.iface t v)
 | _=>none
theorem qqs {i j:Nat}:q08 (.ptr i j)=some (.ptr i j):=(rfl)
theorem qw3 {f:FuncId} {c:List AV}:q08 (.fn f c)=some (.fn f c):=(rfl)
theorem qrj {i:Nat}:q08 (.yld i)=some (.yld i):=(rfl)
theorem qkl {x:Operand}:Z1 e pr r rd ⟨dst,.nilCheck x,ty,pos,after,none⟩ a s k kp=qb8 (q08 (a.eval x)) false a dst s k:=by
 refine zz (o:=⟨dst,.nilCheck x,ty,pos,after,none⟩) ?_ rfl
 simp only[zI]
 cases h:a.eval x <;> rfl
theorem qwh {t:TypeId} {x:Operand} {lo hi mx:Option Operand}:Z1 e pr r rd ⟨dst,.slice t x lo hi mx,ty,pos,after,none⟩ a s k kp=qb8 (zq e t (a.eval x) (lo.map a.eval) (hi.map a.eval) (mx.map a.eval)) false a dst s k :=
 zz (o:=⟨dst,.slice t x lo hi mx,ty,pos,after,none⟩) rfl rfl
theorem qgp {t:TypeId} {x:Operand} {f:Nat}:Z1 e pr r rd ⟨dst,.fieldAddr t x f,ty,pos,after,none⟩ a s k kp=qb8 (qn e t (a.eval x) f) false a dst s k :=
 zz (o:=⟨dst,.fieldAddr t x f,ty,pos,after,none⟩) rfl rfl
theorem qwo {t:TypeId} {x:Operand} {f:Nat}:Z1 e pr r rd ⟨dst,.field t x f,ty,pos,after,none⟩ a s k kp=qb8 (qa6 e t (a.eval x) f) false a dst s k :=
 zz (o:=⟨dst,.field t x f,ty,pos,after,none⟩) rfl rfl
theorem qgd {t:TypeId} {x i:Operand}:Z1 e pr r rd ⟨dst,.indexAddr t x i,ty,pos,after,none⟩ a s k kp=qb8 (qQ e t (a.eval x) (a.eval i)) false a dst s k :=
 zz (o:=⟨dst,.indexAddr t x i,ty,pos,after,none⟩) rfl rfl
theorem qxt {t:TypeId} {x i:Operand}:Z1 e pr r rd ⟨dst,.index t x i,ty,pos,after,none⟩ a s k kp=qb8 (XM e t (a.eval x) (a.eval i)) false a dst s k :=
 zz (o:=⟨dst,.index t x i,ty,pos,after,none⟩) rfl rfl
theorem qq2 {t:TypeId} {x i:Operand} {b:Bool}:Z1 e pr r rd ⟨dst,.lookup t x i b,ty,pos,after,none⟩ a s k kp=qtx (Z4 (a.eval x)) (Z8 e s t (a.eval x) (a.eval i) b) false a dst s k :=
 Vd (o:=⟨dst,.lookup t x i b,ty,pos,after,none⟩) rfl rfl
theorem qdi {x:Operand} {t t':TypeId} {b:Bool}:Z1 e pr r rd ⟨dst,.typeAssert x t' t b,ty,pos,after,none⟩ a s k kp=qb8 (Vc e (a.eval x) t b) false a dst s k :=
 zz (o:=⟨dst,.typeAssert x t' t b,ty,pos,after,none⟩) rfl rfl
theorem qj6 {f:FuncId} {cap:List Operand}:Z1 e pr r rd ⟨dst,.makeFunc (.func f) #[] cap.toArray,ty,pos,after,none⟩ a s k kp=Q2 a dst (.fn f (cap.map a.eval)) s k:=(rfl)
def qg7 (e:Env) (t:TypeId) (v:AV):Option AV:=match e.info t with
 | some ti=>bif WI ti.desc then none else some (.iface t v)
 | none=>none
theorem WC {t:TypeId} {x:Operand}:Z1 e pr r rd ⟨dst,.makeInterface t x,ty,pos,after,none⟩ a s k kp=qb8 (qg7 e t (a.eval x)) false a dst s k:=by
 refine zz (o:=⟨dst,.makeInterface t x,ty,pos,after,none⟩) ?_ rfl
 simp only[zI,qg7]
 cases e.info t with
 | none=>rfl
 | some ti=>cases h:WI ti.desc <;> simp only[h,cond_true,cond_false,zF]
def K7 (x:Option (AV × List Nat)):Option AV:=match x with|some (v,_)=>some v|none=>none
theorem VM {o:Oper} {x:AV × List Nat} (h:qz e a o=some x):x.2=[]:=by
 unfold qz at h
 cases hc:(o.op.operands.toList.all (fun x=>(Q9 (a.eval x)).isSome)) with
 | false=>rw[hc] at h;cases h
 | true =>
  rw[hc] at h
  simp only[cond_true] at h
  split at h
  ·cases h;rfl
  ·cases h
theorem V8 {o:Oper} (h:zI e a s o=qz e a o) (h':qcs e a s o=none):zV e o a s k=qb8 (K7 (qz e a o)) false a o.dst s k:=by
 cases hx:qz e a o with
 | none=>rw[hx] at h;rw[ZH h,h'];rfl
 | some x =>
  obtain⟨v,ids⟩:=x
  have:=VM hx
  simp only at this
  subst this
  rw[hx] at h
  rw[ZF h];rfl
theorem q2j {u:UnOp} {t:TypeId} {x:Operand}:Z1 e pr r rd ⟨dst,.unOp u t x,ty,pos,after,none⟩ a s k kp=qb8 (K7 (qz e a ⟨dst,.unOp u t x,ty,pos,after,none⟩)) false a dst s k :=
 V8 (o:=⟨dst,.unOp u t x,ty,pos,after,none⟩) rfl rfl
def exK (e:Env) (v:AV) (i:Nat) (o:Oper) (a:Ac) (dst:Option Tmp) (s:St) (k:Ac→St→Bool):Bool:=match v with
 | .tuple vs=>qb8 vs[i]? false a dst s k
 | _=>zV e o a s k
theorem qow {vs:List AV} {i:Nat} {o:Oper}:exK e (.tuple vs) i o a dst s k=qb8 vs[i]? false a dst s k:=(rfl)
theorem qlz {x:Operand} {i:Nat}:Z1 e pr r rd ⟨dst,.extract x i,ty,pos,after,none⟩ a s k kp=exK e (a.eval x) i ⟨dst,.extract x i,ty,pos,after,none⟩ a dst s k:=by
 cases h:a.eval x with
 | tuple vs =>
  refine zz (o:=⟨dst,.extract x i,ty,pos,after,none⟩) ?_ rfl
  simp only[zI,h]
 | _=>rfl
def eqS (e:Env) (s:St) (op:BinOp) (t:TypeId) (x y:AV) (d:Option (AV × List Nat)):Option (AV × List Nat):=match op with
   | .eql=>match e.info t with
    | some ti=>match eqA ti.desc x y with
     | some b=>some (q8 b,[])
     | none=>match eqP e s ti.desc x y with
      | some (b,ids)=>some (q8 b,ids)
      | none=>match eqG e t ti.desc x y with
       | some b=>some (q8 b,[])
       | none=>d
    | none=>none
   | .neq=>match e.info t with
    | some ti=>match eqA ti.desc x y with
     | some b=>some (q8 !b,[])
     | none=>match eqP e s ti.desc x y with
      | some (b,ids)=>some (q8 !b,ids)
      | none=>match eqG e t ti.desc x y with
       | some b=>some (q8 !b,[])
       | none=>d
    | none=>none
   | _=>d
def q3o (x:Option AV) (y:Option (AV × List Nat)) (a:Ac) (dst:Option Tmp) (s:St) (k:Ac→St→Bool):Bool:=match x with
 | some v=>Q2 a dst v s k
 | none=>match y with
  | some (v,ids)=>bif zZ s ids then Q2 a dst v s k else false
  | none=>false
theorem qod {v:AV} {y:Option (AV × List Nat)}:q3o (some v) y a dst s k=Q2 a dst v s k:=(rfl)
theorem zf {v:AV} {ids:List Nat} (h:zZ s ids=true):q3o none (some (v,ids)) a dst s k=Q2 a dst v s k:=by simp[q3o,h]
theorem q6h {op:BinOp} {t t':TypeId} {x y:Operand}:Z1 e pr r rd ⟨dst,.binOp op t x y t',ty,pos,after,none⟩ a s k kp =
  q3o (qN op (a.eval x) (a.eval y)) (eqS e s op t (a.eval x) (a.eval y) (qz e a ⟨dst,.binOp op t x y t',ty,pos,after,none⟩)) a dst s k:=by
 have hA:qcs e a s ⟨dst,.binOp op t x y t',ty,pos,after,none⟩=none:=(rfl)
 show zV e ⟨dst,.binOp op t x y t',ty,pos,after,none⟩ a s k=_
 cases h:qN op (a.eval x) (a.eval y) with
 | some v =>
  have:zI e a s ⟨dst,.binOp op t x y t',ty,pos,after,none⟩=some (v,[]):=by simp only[zI,h]
  rw[ZF this];rfl
 | none =>
  have:zI e a s ⟨dst,.binOp op t x y t',ty,pos,after,none⟩=eqS e s op t (a.eval x) (a.eval y) (qz e a ⟨dst,.binOp op t x y t',ty,pos,after,none⟩):=by
   simp only[zI,h,eqS]
   cases op <;> rfl
  cases hx:eqS e s op t (a.eval x) (a.eval y) (qz e a ⟨dst,.binOp op t x y t',ty,pos,after,none⟩) with
  | none=>rw[hx] at this;rw[ZH this,hA];rfl
  | some z=>obtain⟨v,ids⟩:=z;rw[hx] at this;rw[ZF this];rfl
theorem Qa {o:Oper} (h:zI e a s o=none):zV e o a s k=qlj (qcs e a s o) a o.dst k:=ZH h
def Qz (e:Env) (s:St) (t:TypeId):Option (AV × St):=match zA e t with
  | some z=>some (.ptr s.nx 0,s.alloc (.cells z.cells t 0))
  | none=>none
theorem qw1 {t:TypeId}:Z1 e pr r rd ⟨dst,.alloc t,ty,pos,after,none⟩ a s k kp=qlj (Qz e s t) a dst k:=Qa (o:=⟨dst,.alloc t,ty,pos,after,none⟩) rfl
theorem q4c {t:TypeId} {x:Operand}:Z1 e pr r rd ⟨dst,.box t x,ty,pos,after,none⟩ a s k kp=Q2 a dst (.ptr s.nx 0) (s.alloc (.cells (a.eval x).cells t 0)) k:=Qa (e:=e) (o:=⟨dst,.box t x,ty,pos,after,none⟩) rfl
theorem qdp {t:TypeId} {len:Nat} {parts:List (Nat × Operand)}:Z1 e pr r rd ⟨dst,.buildSlice t len parts.toArray,ty,pos,after,none⟩ a s k kp=qlj (Q6 e s t len (parts.map fun q=>(q.1,a.eval q.2))) a dst k :=
 Qa (o:=⟨dst,.buildSlice t len parts.toArray,ty,pos,after,none⟩) rfl
def qx2 (o:Option St) (a:Ac) (dst:Option Tmp) (k:Ac→St→Bool):Bool:=match o with
 | some s'=>Q2 a dst Qc s' k
 | none=>false
theorem qmw {s':St}:qx2 (some s') a dst k=Q2 a dst Qc s' k:=(rfl)
theorem JA {o:Option St}:qlj (KH o) a dst k=qx2 o a dst k:=by cases o <;> rfl
theorem qu4 {t:TypeId} {x v:Operand}:Z1 e pr r rd ⟨dst,.store t x v,ty,pos,after,none⟩ a s k kp=qx2 (QZ e s t (a.eval x) (a.eval v)) a dst k :=
 (Qa (o:=⟨dst,.store t x v,ty,pos,after,none⟩) rfl).trans JA
theorem qo7 {t:TypeId}:Z1 e pr r rd ⟨dst,.makeMap t none,ty,pos,after,none⟩ a s k kp=Q2 a dst (.map s.nx) (s.alloc (.map [])) k:=Qa (e:=e) (o:=⟨dst,.makeMap t none,ty,pos,after,none⟩) rfl
theorem qhi {t:TypeId} {l c:Operand}:Z1 e pr r rd ⟨dst,.makeSlice t l c,ty,pos,after,none⟩ a s k kp=qlj (JP e s t (a.eval l) (a.eval c)) a dst k :=
 Qa (o:=⟨dst,.makeSlice t l c,ty,pos,after,none⟩) rfl
theorem qg9 {t:TypeId} {m x v:Operand}:Z1 e pr r rd ⟨dst,.mapUpdate t m x v,ty,pos,after,none⟩ a s k kp=qx2 (zu e s t (a.eval m) (a.eval x) (a.eval v)) a dst k :=
 (Qa (o:=⟨dst,.mapUpdate t m x v,ty,pos,after,none⟩) rfl).trans JA
theorem qqw {t:TypeId} {m x v:Operand}:Z1 e pr r rd ⟨dst,.insert t m x v,ty,pos,after,none⟩ a s k kp=qx2 (zu e s t (a.eval m) (a.eval x) (a.eval v)) a dst k :=
 (Qa (o:=⟨dst,.insert t m x v,ty,pos,after,none⟩) rfl).trans JA
theorem qpr {args:List Operand} {tys:List TypeId}:Z1 e pr r rd ⟨dst,.call { callee:=.builtin .append,args:=args.toArray,argTypes:=tys.toArray },ty,pos,after,none⟩ a s k kp=qlj (Z9 e s tys (args.map a.eval)) a dst k :=
 Qa (o:=⟨dst,.call { callee:=.builtin .append,args:=args.toArray,argTypes:=tys.toArray },ty,pos,after,none⟩) rfl
theorem q19 {args:List Operand} {tys:List TypeId}:Z1 e pr r rd ⟨dst,.call { callee:=.builtin .copy,args:=args.toArray,argTypes:=tys.toArray },ty,pos,after,none⟩ a s k kp=qlj (qqm e s tys (args.map a.eval)) a dst k :=
 Qa (o:=⟨dst,.call { callee:=.builtin .copy,args:=args.toArray,argTypes:=tys.toArray },ty,pos,after,none⟩) rfl
theorem qp9 {args:List Operand} {tys:List TypeId}:Z1 e pr r rd ⟨dst,.call { callee:=.builtin .delete,args:=args.toArray,argTypes:=tys.toArray },ty,pos,after,none⟩ a s k kp=qx2 (QM e s tys (args.map a.eval)) a dst k :=
 (Qa (o:=⟨dst,.call { callee:=.builtin .delete,args:=args.toArray,argTypes:=tys.toArray },ty,pos,after,none⟩) rfl).trans JA
theorem q4i {x:Operand} {t:TypeId}:Z1 e pr r rd ⟨dst,.call { callee:=.builtin .len,args:=#[x],argTypes:=#[t] },ty,pos,after,none⟩ a s k kp=qtx (Z4 (a.eval x)) (Qv e s [t] [a.eval x]) false a dst s k :=
 Vd (o:=⟨dst,.call { callee:=.builtin .len,args:=#[x],argTypes:=#[t] },ty,pos,after,none⟩) rfl rfl
theorem q3w {args:List Operand} {tys:List TypeId}:Z1 e pr r rd ⟨dst,.call { callee:=.builtin .cap,args:=args.toArray,argTypes:=tys.toArray },ty,pos,after,none⟩ a s k kp=qb8 (qdx e tys (args.map a.eval)) false a dst s k :=
 zz (o:=⟨dst,.call { callee:=.builtin .cap,args:=args.toArray,argTypes:=tys.toArray },ty,pos,after,none⟩) rfl rfl
theorem q3x {args:Array Operand} {tys:Array TypeId}:Z1 e pr r rd ⟨dst,.call { callee:=.builtin .min,args:=args,argTypes:=tys },ty,pos,after,none⟩ a s k kp=qb8 (K7 (qz e a ⟨dst,.call { callee:=.builtin .min,args:=args,argTypes:=tys },ty,pos,after,none⟩)) false a dst s k :=
 V8 (o:=⟨dst,.call { callee:=.builtin .min,args:=args,argTypes:=tys },ty,pos,after,none⟩) rfl rfl
theorem q5k {args:Array Operand} {tys:Array TypeId}:Z1 e pr r rd ⟨dst,.call { callee:=.builtin .max,args:=args,argTypes:=tys },ty,pos,after,none⟩ a s k kp=qb8 (K7 (qz e a ⟨dst,.call { callee:=.builtin .max,args:=args,argTypes:=tys },ty,pos,after,none⟩)) false a dst s k :=
 V8 (o:=⟨dst,.call { callee:=.builtin .max,args:=args,argTypes:=tys },ty,pos,after,none⟩) rfl rfl
def YQ (pr:Prims) (r:Tasks) (f:AV) (args:List AV) (a:Ac) (dst:Option Tmp) (s:St) (k:Ac→St→Bool) (kp:AV→St→Bool):Bool:=match f with
 | .fn g cap =>
    match pr.ext g (args++cap) s with
    | some (v,s')=>Q2 a dst v s' k
    | none =>
     match pr.fn g (args++cap) s with
     | some (v,s')=>Q2 a dst v s' k
     | none=>r.call g (args++cap) s (qya a dst k) kp
 | .yld id=>Yd r id args s (qya a dst k)
 | _=>false
theorem q23 {f:Operand} {args:List Operand} {tys:Array TypeId}:Z1 e pr r rd ⟨dst,.call { callee:=.value f,args:=args.toArray,argTypes:=tys },ty,pos,after,none⟩ a s k kp =
  YQ pr r (a.eval f) (args.map a.eval) a dst s k kp:=by
 simp only[Z1,YQ]
 cases a.eval f <;> rfl
theorem c_fn {g:FuncId} {cap args:List AV} (h1:pr.ext g (args++cap) s=none) (h2:pr.fn g (args++cap) s=none):YQ pr r (.fn g cap) args a dst s k kp=r.call g (args++cap) s (qya a dst k) kp:=by
 simp only[YQ,h1,h2]
theorem JU {g:FuncId} {cap args:List AV} {v:AV} {s':St} (h1:pr.ext g (args++cap) s=none) (h2:pr.fn g (args++cap) s=some (v,s')):YQ pr r (.fn g cap) args a dst s k kp=Q2 a dst v s' k:=by
 simp only[YQ,h1,h2]
theorem q2s {id:Nat} {args:List AV}:YQ pr r (.yld id) args a dst s k kp=Yd r id args s (qya a dst k):=(rfl)
def q6i (v:AV) (s:St) (kp:AV→St→Bool):Bool:=match v with
 | .iface t v=>kp (.iface t v) s
 | _=>false
theorem qji {x:Operand}:Z1 e pr r rd ⟨dst,.panic x,ty,pos,after,none⟩ a s k kp=q6i (a.eval x) s kp:=by
 simp only[Z1,q6i]
 cases a.eval x <;> rfl
theorem q07 {t:TypeId} {v:AV}:q6i (.iface t v) s kp=kp (.iface t v) s:=(rfl)
end
end Go.AX
namespace Go.AX
open Go.RowKit
variable {P:Program} {e:Env} {pr:Prims} {r:Tasks} {rd:Option Nat} {a:Ac} {s:St}
inductive Pl where
 | done
 | no
 | yes
 | take (i:Nat) (p:Pl)
 | alt (i:Nat) (deps:List Nat) (p q:Pl)
 deriving Inhabited
def X1 (ops:Array Oper) (i:Nat):List Nat:=(List.range ops.size).filter (qdg ops 8 i)
def qv8 (ops:Array Oper) (f:Nat→Pl):List Nat→Pl
 | []=>.yes
 | i::l=>.alt i (X1 ops i) (f i) (qv8 ops f l)
def qsl (e:Env) (ops:Array Oper):Nat→Array Bool→Pl
 | 0,listed=>match Region.ready .any ops listed with
  | []=>.done
  | _=>.no
 | f+1,listed=>match Region.ready .any ops listed with
  | []=>.done
  | i0::rs=>match ZE e ops listed (i0::rs) with
   | some (i,_)=>.take i (qsl e ops f (listed.setIfInBounds i true))
   | none=>qv8 ops (fun i=>qsl e ops f (listed.setIfInBounds i true)) (i0::rs)
def YB (deps:List Nat) (s s':St):List (Nat × List Nat)→Bool
 | []=>true
 | (i,ids)::l=>bif deps.contains i||ZO s s' ids then YB deps s s' l else false
def qli (deps:List Nat):List (Nat × List Nat)→List (Nat × List Nat)
 | []=>[]
 | (i,ids)::l=>bif deps.contains i then qli deps l else (i,ids)::qli deps l
def qsk (i:Nat) (ids:List Nat) (held:List (Nat × List Nat)):List (Nat × List Nat):=match ids with | []=>held|_::_=>(i,ids)::held
def qkw:List Oper→Nat→Option Oper
 | [],_=>none
 | o::_,0=>some o
 | _::l,i+1=>qkw l i
theorem qb3:∀ (l:List Oper) (i:Nat),qkw l i=l[i]?
 | [],_=>(rfl)
 | _::_,0=>(rfl)
 | o::l,i+1=>by simpa [qkw] using qb3 l i
def qe8 (e:Env) (pr:Prims) (r:Tasks) (rd:Option Nat) (all:List Oper):Pl→List (Nat × List Nat)→Ac→St→(Ac→St→Bool)→(AV→Ac→St→Bool)→Bool
 | .done,_,a,s,k,_=>k a s
 | .no,_,_,_,_,_=>false
 | .yes,_,_,_,_,_=>true
 | .take i p,held,a,s,k,kp=>match qkw all i with
  | some o=>match Qp all a o with
   | some true=>match zI e a s o with
    | some (v,ids)=>bif zZ s ids then Q2 a o.dst v s (fun a' s'=>qe8 e pr r rd all p (qsk i ids held) a' s' k kp) else false
    | none=>false
   | some false=>Q2 a o.dst Qc s (fun a' s'=>qe8 e pr r rd all p held a' s' k kp)
   | none=>false
  | none=>false
 | .alt i deps p q,held,a,s,k,kp=>(match qkw all i with
  | some o=>match Qp all a o with
   | some true=>Z1 e pr r rd o a s (fun a' s'=>bif YB deps s s' held then qe8 e pr r rd all p (qli deps held) a' s' k kp else false) (fun v s'=>kp v a s')
   | some false=>Q2 a o.dst Qc s (fun a' s'=>qe8 e pr r rd all p held a' s' k kp)
   | none=>false
  | none=>false)&&qe8 e pr r rd all q held a s k kp
theorem X4 {ops:Array Oper} {listed:Array Bool}:∀ {l:List Nat} {i:Nat} {o:Oper},ZE e ops listed l=some (i,o)→ops[i]?=some o
 | [],_,_,h=>by simp[ZE] at h
 | j::l,i,o,h=>by
  simp only[ZE] at h
  split at h
  ·rename_i oj hj
   cases hc:(JH e oj.op&&Region.free .any ops listed j) with
   | true=>rw[hc] at h;simp only[cond_true,Option.some.injEq,Prod.mk.injEq] at h;obtain⟨rfl,rfl⟩:=h;exact hj
   | false=>rw[hc] at h;exact X4 h
  ·exact X4 h
theorem zl {dst:Option Tmp} {v:AV} {k k':Ac→St→Bool} (h:Q2 a dst v s k=true) (hk:∀ a' s',k a' s'=true→k' a' s'=true):Q2 a dst v s k'=true:=by
 unfold Q2 at h ⊢
 split at h
 ·exact hk _ _ h
 ·cases h
theorem qih {ops:Array Oper} {i j:Nat} (h:(X1 ops i).contains j=true):qdg ops 8 i j=true:=by
 unfold X1 at h
 rw[List.contains_iff_mem] at h
 exact (List.mem_filter.1 h).2
theorem qkt {ops:Array Oper} {i:Nat} {s s':St}:∀ {h1 h2:List (Nat × List Nat)},(∀ x∈h2,x∈h1)→YB (X1 ops i) s s' h1=true→Jn ops i s s' h2=true:=by
 intro h1 h2
 have key:∀ {h1:List (Nat × List Nat)},YB (X1 ops i) s s' h1=true→∀ x∈h1,(qdg ops 8 i x.1||ZO s s' x.2)=true:=by
  intro h1
  induction h1 with
  | nil=>intro _ x hx;cases hx
  | cons y l ih =>
   obtain⟨j,ids⟩:=y
   intro h x hx
   simp only[YB] at h
   cases hc:((X1 ops i).contains j||ZO s s' ids) with
   | false=>rw[hc] at h;cases h
   | true =>
    rw[hc] at h
    simp only[cond_true] at h
    rcases List.mem_cons.1 hx with rfl|hx
    ·rw[Bool.or_eq_true] at hc ⊢
     exact hc.imp qih id
    ·exact ih h x hx
 intro hsub h
 have hall:=key h
 clear h key
 induction h2 with
 | nil=>rfl
 | cons y l ih =>
  obtain⟨j,ids⟩:=y
  simp only[Jn]
  rw[hall (j,ids) (hsub _ (by simp))]
  exact ih (fun x hx=>hsub x (by simp[hx]))
theorem qp1 {ops:Array Oper} {i:Nat}:∀ {h1 h2:List (Nat × List Nat)},(∀ x∈h2,x∈h1)→∀ x∈K9 ops i h2,x∈qli (X1 ops i) h1:=by
 have k1:∀ (h1:List (Nat × List Nat)) x,x∈h1→qdg ops 8 i x.1=false→x∈qli (X1 ops i) h1:=by
  intro h1
  induction h1 with
  | nil=>intro x hx;cases hx
  | cons y l ih =>
   obtain⟨j,ids⟩:=y
   intro x hx hd
   simp only[qli]
   cases hc:(X1 ops i).contains j with
   | true =>
    simp only[cond_true]
    rcases List.mem_cons.1 hx with rfl|hx
    ·rw[qih hc] at hd;cases hd
    ·exact ih x hx hd
   | false =>
    simp only[cond_false]
    rcases List.mem_cons.1 hx with rfl|hx
    ·simp
    ·exact List.mem_cons_of_mem _ (ih x hx hd)
 have k2:∀ (h2:List (Nat × List Nat)) x,x∈K9 ops i h2→x∈h2∧qdg ops 8 i x.1=false:=by
  intro h2
  induction h2 with
  | nil=>intro x hx;cases hx
  | cons y l ih =>
   obtain⟨j,ids⟩:=y
   intro x hx
   simp only[K9] at hx
   cases hc:qdg ops 8 i j with
   | true=>rw[hc] at hx;have:=ih x hx;exact⟨List.mem_cons_of_mem _ this.1,this.2⟩
   | false =>
    rw[hc] at hx
    simp only[cond_false] at hx
    rcases List.mem_cons.1 hx with rfl|hx
    ·exact⟨by simp,hc⟩
    ·have:=ih x hx;exact⟨List.mem_cons_of_mem _ this.1,this.2⟩
 intro h1 h2 hs x hx
 have:=k2 h2 x hx
 exact k1 h1 x (hs x this.1) this.2
theorem Xp {c:Code} {k k':AE→Ac→St→Bool} (h:(sem P).code rd c a s k=true) (hk:∀ ex a' s',k ex a' s'=true→k' ex a' s'=true):(sem P).code rd c a s k'=true :=
 sem_code.2 fun RD w0 w E A Q h1 h2 h3 h4=>sem_code.1 h RD w0 w E A Q h1 h2 h3 (fun E' ex a' s' X A' w' g1 g2 g3 g4 g5=>h4 E' ex a' s' X A' w' g1 g2 g3 g4 (hk _ _ _ g5))
theorem KW {f:FuncId} {args:List AV} {kr kr' kp kp':AV→St→Bool} (h:(sem P).call f args s kr kp=true) (hk:∀ v s',kr v s'=true→kr' v s'=true) (hp:∀ v s',kp v s'=true→kp' v s'=true):(sem P).call f args s kr' kp'=true :=
 sem_call.2 fun w0 w E Args R Rp h1 h2 h3 h4=>sem_call.1 h w0 w E Args R Rp h1 h2 (fun E' v s' V w' g1 g2 g3 g4=>h3 E' v s' V w' g1 g2 g3 (hk _ _ g4)) (fun E' v s' V w' g1 g2 g3 g4=>h4 E' v s' V w' g1 g2 g3 (hp _ _ g4))
theorem Zk {id:Nat} {j:Option Code} {b:Bool} {k k':AV→St→Bool} (h:qc2 s id j b k=true) (hk:∀ v s',k v s'=true→k' v s'=true):qc2 s id j b k'=true:=by
 unfold qc2 at h ⊢
 split at h
 ·exact hk _ _ h
 ·cases h
theorem qj2 {id:Nat} {args:List AV} {k k':AV→St→Bool} (h:Yd (sem P) id args s k=true) (hk:∀ v s',k v s'=true→k' v s'=true):Yd (sem P) id args s k'=true:=by
 unfold Yd at h ⊢
 split at h
 ·split at h
  ·refine Xp h fun ex a1 s1 h1=>?_
   split at h1
   ·split at h1
    ·refine Xp h1 fun ex a2 s2 h2=>?_
     split at h2
     ·exact Zk h2 hk
     ·exact Zk h2 hk
     ·exact Zk h2 hk
     ·exact Zk h2 hk
     ·cases h2
    ·cases h1
   ·cases h1
  ·cases h
 ·cases h
theorem JB {o:Oper} {k k':Ac→St→Bool} (h:zV e o a s k=true) (hk:∀ a' s',k a' s'=true→k' a' s'=true):zV e o a s k'=true:=by
 unfold zV at h ⊢
 split at h
 ·rename_i v ids _
  cases hi:zZ s ids with
  | false=>rw[hi] at h;cases h
  | true=>rw[hi] at h;exact zl h hk
 ·split at h
  ·exact zl h hk
  ·cases h
theorem qbm {s:St} {x:AV} {k k':AV→St→Bool} (h:Wi s x k=true) (hk:∀ v s',k v s'=true→k' v s'=true):Wi s x k'=true:=by
 unfold Wi at h ⊢
 split at h
 ·split at h
  ·split at h
   ·rename_i es it ix _
    cases hb:Nat.beq it _ with
    | false=>rw[hb] at h;cases h
    | true =>
     rw[hb] at h
     simp only[cond_true] at h ⊢
     split at h
     ·exact hk _ _ h
     ·exact List.all_eq_true.2 fun q hq=>hk _ _ (List.all_eq_true.1 h q hq)
   ·cases h
  ·cases h
 ·cases h
theorem qln {o:Oper} {k k':Ac→St→Bool} {kp kp':AV→St→Bool} (h:Z1 e pr (sem P) rd o a s k kp=true) (hk:∀ a' s',k a' s'=true→k' a' s'=true) (hp:∀ v s',kp v s'=true→kp' v s'=true) :
  Z1 e pr (sem P) rd o a s k' kp'=true:=by
 unfold Z1 at h ⊢
 split at h
 ·split at h
  ·exact hp _ _ h
  ·cases h
 ·split at h
  ·split at h
   ·exact zl h hk
   ·cases h
  ·cases h
 ·split at h
  ·split at h
   ·split at h
    ·exact zl h hk
    ·split at h
     ·exact zl h hk
     ·exact KW h (fun v s' hv=>zl hv hk) hp
   ·exact qj2 h (fun v s' hv=>zl hv hk)
   ·cases h
  ·exact JB h hk
 ·exact qbm h (fun v s' hv=>zl hv hk)
 ·exact JB h hk
theorem qkj {ops:Array Oper} {k k':Ac→St→Bool} {kp kp':AV→Ac→St→Bool} (hk:∀ a' s',k a' s'=true→k' a' s'=true) (hp:∀ v a' s',kp v a' s'=true→kp' v a' s'=true) :
  ∀ (f:Nat) (listed:Array Bool) (h1 h2:List (Nat × List Nat)) (a:Ac) (s:St),(∀ x∈h2,x∈h1)→qe8 e pr (sem P) rd ops.toList (qsl e ops f listed) h1 a s k kp=true→Vn e pr (sem P) rd ops f listed h2 a s k' kp'=true:=by
 intro f
 induction f with
 | zero =>
  intro listed h1 h2 a s hs h
  unfold qsl at h
  unfold Vn
  split
  ·rename_i hr;rw[hr] at h;exact hk _ _ h
  ·rename_i hr
   split at h
   ·rename_i hr';exact absurd hr' hr
   ·cases h
 | succ f ih =>
  intro listed h1 h2 a s hs h
  unfold qsl at h
  unfold Vn
  split
  ·rename_i hr;rw[hr] at h;exact hk _ _ h
  ·rename_i i0 rs hr
   rw[hr] at h
   simp only at h
   split
   ·rename_i i o hpk
    rw[hpk] at h
    have hat:qkw ops.toList i=some o:=by rw[qb3];simpa using X4 hpk
    simp only[qe8,hat] at h
    split
    ·rename_i hw
     rw[hw] at h
     simp only at h
     split
     ·rename_i v ids hst
      rw[hst] at h
      simp only at h
      cases hi:zZ s ids with
      | false=>rw[hi] at h;cases h
      | true =>
       rw[hi] at h
       simp only[cond_true] at h ⊢
       refine zl h fun a' s' h'=>ih _ _ _ _ _ ?_ h'
       intro x hx
       cases ids with
       | nil=>exact hs x hx
       | cons y l =>
        rcases List.mem_cons.1 hx with rfl|hx
        ·simp[qsk]
        ·simp only[qsk];exact List.mem_cons_of_mem _ (hs x hx)
     ·rename_i hst;rw[hst] at h;cases h
    ·rename_i hw
     rw[hw] at h
     exact zl h fun a' s' h'=>ih _ _ _ _ _ hs h'
    ·rename_i hw;rw[hw] at h;cases h
   ·rename_i hpk
    rw[hpk] at h
    simp only at h
    generalize i0::rs=L at h
    rw[List.all_eq_true]
    intro i hi
    induction L with
    | nil=>cases hi
    | cons j L ihL =>
     simp only[qv8,qe8,qb3,Array.getElem?_toList,Bool.and_eq_true] at h
     cases ho:ops[j]? with
     | none=>rw[ho] at h;cases h.1
     | some o =>
      rw[ho] at h
      simp only at h
      rcases List.mem_cons.1 hi with rfl|hi
      ·rw[ho]
       simp only
       have h:=h.1
       split
       ·rename_i hw
        rw[hw] at h
        simp only at h
        refine qln h (fun a' s' h'=>?_) (fun v s' h'=>hp _ _ _ h')
        cases hst:YB (X1 ops i) s s' h1 with
        | false=>rw[hst] at h';cases h'
        | true =>
         rw[hst] at h'
         simp only[cond_true] at h'
         rw[qkt hs hst]
         exact ih _ _ _ _ _ (qp1 hs) h'
       ·rename_i hw
        rw[hw] at h
        exact zl h fun a' s' h'=>ih _ _ _ _ _ hs h'
       ·rename_i hw;rw[hw] at h;cases h
      ·exact ihL h.2 hi
def plK (e:Env) (pr:Prims) (r:Tasks) (rd:Option Nat) (all:List Oper) (p:Pl) (held:List (Nat × List Nat)) (k:AE→Ac→St→Bool):Ac→St→Bool:=fun a' s'=>qe8 e pr r rd all p held a' s' (fun a' s'=>k .normal a' s') (fun v a' s'=>k (.panic v) { a' with t:=Yv a'.t all } s')
def q1e (e:Env) (pr:Prims) (r:Tasks) (rd:Option Nat) (all:List Oper) (deps:List Nat) (p:Pl) (s:St) (held:List (Nat × List Nat)) (k:AE→Ac→St→Bool):Ac→St→Bool:=fun a' s'=>bif YB deps s s' held then plK e pr r rd all p (qli deps held) k a' s' else false
def qrd (a:Ac) (all:List Oper) (k:AE→Ac→St→Bool):AV→St→Bool:=fun v s'=>k (.panic v) { a with t:=Yv a.t all } s'
theorem qq (H:Ok e P pr) {i:Nat} {ops:List Oper} {k:AE→Ac→St→Bool} (p:Pl) (hs:Kc ops=true) (hp:qsl e ops.toArray ops.length (Array.replicate ops.length false)=p)
  (h:plK e pr (sem P) rd ops p [] k a s=true):(sem P).code rd (.region i ops.toArray true) a s k=true:=by
 refine q5x H hs ?_
 subst hp
 exact qkj (fun _ _ h=>h) (fun _ _ _ h=>h) _ _ _ _ _ _ (fun _ hx=>hx) h
section
variable {all:List Oper} {held:List (Nat × List Nat)} {k:AE→Ac→St→Bool} {dst:Option Tmp} {op:Op} {ty:TypeId} {pos:String} {after:Array Edge} {i:Nat} {p q:Pl}
theorem qyb:plK e pr r rd all .done held k a s=k .normal a s:=(rfl)
theorem q6n:plK e pr r rd all .yes held k a s=true:=(rfl)
def qcx (e:Env) (pr:Prims) (r:Tasks) (rd:Option Nat) (all:List Oper) (x:Option (AV × List Nat)) (i:Nat) (held:List (Nat × List Nat)) (a:Ac) (dst:Option Tmp) (s:St) (p:Pl) (k:AE→Ac→St→Bool):Bool:=match x with
 | some (v,ids)=>bif zZ s ids then Q2 a dst v s (plK e pr r rd all p (qsk i ids held) k) else false
 | none=>false
def qps (e:Env) (pr:Prims) (r:Tasks) (rd:Option Nat) (all:List Oper) (x:Option Oper) (i:Nat) (held:List (Nat × List Nat)) (a:Ac) (s:St) (p:Pl) (k:AE→Ac→St→Bool):Bool:=match x with
 | some o=>match Qp all a o with
  | some true=>qcx e pr r rd all (zI e a s o) i held a o.dst s p k
  | some false=>Q2 a o.dst Qc s (plK e pr r rd all p held k)
  | none=>false
 | none=>false
def q3j (e:Env) (pr:Prims) (r:Tasks) (rd:Option Nat) (all:List Oper) (x:Option Oper) (deps:List Nat) (held:List (Nat × List Nat)) (a:Ac) (s:St) (p:Pl) (k:AE→Ac→St→Bool):Bool:=match x with
 | some o=>match Qp all a o with
  | some true=>Z1 e pr r rd o a s (q1e e pr r rd all deps p s held k) (qrd a all k)
  | some false=>Q2 a o.dst Qc s (plK e pr r rd all p held k)
  | none=>false
 | none=>false
theorem q3d:plK e pr r rd all (.take i p) held k a s=qps e pr r rd all (qkw all i) i held a s p k:=by
 simp only[plK,qe8,qps]
 cases qkw all i with
 | none=>(rfl)
 | some o =>
  simp only
  cases Qp all a o with
  | none=>(rfl)
  | some b=>cases b <;> (rfl)
theorem q4l {deps:List Nat}:plK e pr r rd all (.alt i deps p q) held k a s=(q3j e pr r rd all (qkw all i) deps held a s p k&&plK e pr r rd all q held k a s):=by
 simp only[plK,qe8,q3j]
 cases qkw all i with
 | none=>(rfl)
 | some o =>
  simp only
  cases Qp all a o with
  | none=>(rfl)
  | some b=>cases b <;> (rfl)
theorem qvu {o:Oper} {l:List Oper}:qkw (o::l) 0=some o:=(rfl)
theorem qv0 {o:Oper} {l:List Oper} {j:Nat}:qkw (o::l) (j+1)=qkw l j:=(rfl)
theorem qt0:qps e pr r rd all (some ⟨dst,op,ty,pos,after,none⟩) i held a s p k=qcx e pr r rd all (zI e a s ⟨dst,op,ty,pos,after,none⟩) i held a dst s p k:=(rfl)
theorem qus {g:Nat × Bool}:qps e pr r rd all (some ⟨dst,op,ty,pos,after,some g⟩) i held a s p k=match Qp all a ⟨dst,op,ty,pos,after,some g⟩ with
  | some true=>qcx e pr r rd all (zI e a s ⟨dst,op,ty,pos,after,none⟩) i held a dst s p k
  | some false=>Q2 a dst Qc s (plK e pr r rd all p held k)
  | none=>false:=(rfl)
theorem q28 {deps:List Nat}:q3j e pr r rd all (some ⟨dst,op,ty,pos,after,none⟩) deps held a s p k=Z1 e pr r rd ⟨dst,op,ty,pos,after,none⟩ a s (q1e e pr r rd all deps p s held k) (qrd a all k):=(rfl)
theorem q2w {deps:List Nat} {g:Nat × Bool}:q3j e pr r rd all (some ⟨dst,op,ty,pos,after,some g⟩) deps held a s p k=match Qp all a ⟨dst,op,ty,pos,after,some g⟩ with
  | some true=>Z1 e pr r rd ⟨dst,op,ty,pos,after,none⟩ a s (q1e e pr r rd all deps p s held k) (qrd a all k)
  | some false=>Q2 a dst Qc s (plK e pr r rd all p held k)
  | none=>false:=(rfl)
theorem q49 {deps:List Nat} {s0:St} (h:YB deps s0 s held=true):q1e e pr r rd all deps p s0 held k a s=plK e pr r rd all p (qli deps held) k a s:=by simp[q1e,h]
theorem q03 {v:AV}:qrd a all k v s=k (.panic v) { a with t:=Yv a.t all } s:=(rfl)
theorem qvq {v:AV}:qcx e pr r rd all (zF (some v)) i held a dst s p k=Q2 a dst v s (plK e pr r rd all p held k):=(rfl)
theorem qy1 {ids:List Nat} {v:AV} (h:zZ s ids=true):qcx e pr r rd all (KX ids (some v)) i held a dst s p k=Q2 a dst v s (plK e pr r rd all p (qsk i ids held) k):=by simp[qcx,KX,h]
theorem qra:qsk i [] held=held:=(rfl)
theorem qmt {x:Nat} {l:List Nat}:qsk i (x::l) held=(i,x::l)::held:=(rfl)
theorem qtt {x:Operand}:zI e a s ⟨dst,.move x,ty,pos,after,none⟩=zF (some (a.eval x)):=(rfl)
theorem ql0 {x:Operand}:zI e a s ⟨dst,.assign x,ty,pos,after,none⟩=zF (some (a.eval x)):=(rfl)
theorem qwe {t:TypeId} {x:Operand}:zI e a s ⟨dst,.load t x,ty,pos,after,none⟩=KX (Z4 (a.eval x)) (Q1 e s t (a.eval x)):=(rfl)
theorem qga {x:Operand}:zI e a s ⟨dst,.nilCheck x,ty,pos,after,none⟩=zF (q08 (a.eval x)):=by
 simp only[zI]
 cases a.eval x <;> rfl
theorem quh {c x y:Operand}:zI e a s ⟨dst,.pick c x y,ty,pos,after,none⟩=zF (qo9 (a.eval c) (a.eval x) (a.eval y)):=by
 simp only[zI,qo9]
 cases h:a.eval c with
 | raw v=>cases v <;> rfl
 | _=>rfl
theorem qrc {t:TypeId} {parts:List (Nat × Operand)}:zI e a s ⟨dst,.build t parts.toArray,ty,pos,after,none⟩=zF (Qq e t (parts.map fun q=>(q.1,a.eval q.2))):=(rfl)
theorem qpo {t:TypeId} {x:Operand} {lo hi mx:Option Operand}:zI e a s ⟨dst,.slice t x lo hi mx,ty,pos,after,none⟩=zF (zq e t (a.eval x) (lo.map a.eval) (hi.map a.eval) (mx.map a.eval)):=(rfl)
theorem qfh {t:TypeId} {x:Operand} {f:Nat}:zI e a s ⟨dst,.fieldAddr t x f,ty,pos,after,none⟩=zF (qn e t (a.eval x) f):=(rfl)
theorem qr4 {t:TypeId} {x:Operand} {f:Nat}:zI e a s ⟨dst,.field t x f,ty,pos,after,none⟩=zF (qa6 e t (a.eval x) f):=(rfl)
theorem qf4 {t:TypeId} {x j:Operand}:zI e a s ⟨dst,.indexAddr t x j,ty,pos,after,none⟩=zF (qQ e t (a.eval x) (a.eval j)):=(rfl)
theorem qr6 {t:TypeId} {x j:Operand}:zI e a s ⟨dst,.index t x j,ty,pos,after,none⟩=zF (XM e t (a.eval x) (a.eval j)):=(rfl)
theorem qot {t:TypeId} {x j:Operand} {b:Bool}:zI e a s ⟨dst,.lookup t x j b,ty,pos,after,none⟩=KX (Z4 (a.eval x)) (Z8 e s t (a.eval x) (a.eval j) b):=(rfl)
theorem qcm {x:Operand} {t t':TypeId} {b:Bool}:zI e a s ⟨dst,.typeAssert x t' t b,ty,pos,after,none⟩=zF (Vc e (a.eval x) t b):=(rfl)
theorem qgb {f:FuncId} {cap:List Operand}:zI e a s ⟨dst,.makeFunc (.func f) #[] cap.toArray,ty,pos,after,none⟩=zF (some (.fn f (cap.map a.eval))):=(rfl)
theorem qni {x:Operand} {t:TypeId}:zI e a s ⟨dst,.call { callee:=.builtin .len,args:=#[x],argTypes:=#[t] },ty,pos,after,none⟩=KX (Z4 (a.eval x)) (Qv e s [t] [a.eval x]):=(rfl)
def q1n (x:Option AV) (y:Option (AV × List Nat)):Option (AV × List Nat):=match x with
 | some v=>some (v,[])
 | none=>y
theorem q52 {v:AV} {y:Option (AV × List Nat)}:qcx e pr r rd all (q1n (some v) y) i held a dst s p k=Q2 a dst v s (plK e pr r rd all p held k):=(rfl)
theorem qaw {v:AV} {ids:List Nat} (h:zZ s ids=true):qcx e pr r rd all (q1n none (some (v,ids))) i held a dst s p k=Q2 a dst v s (plK e pr r rd all p (qsk i ids held) k):=by simp[qcx,q1n,h]
theorem qyz {op:BinOp} {t t':TypeId} {x y:Operand}:zI e a s ⟨dst,.binOp op t x y t',ty,pos,after,none⟩ =
  q1n (qN op (a.eval x) (a.eval y)) (eqS e s op t (a.eval x) (a.eval y) (qz e a ⟨dst,.binOp op t x y t',ty,pos,after,none⟩)):=by
 simp only[zI,eqS,q1n]
 cases qN op (a.eval x) (a.eval y) with
 | some v=>rfl
 | none=>cases op <;> rfl
theorem qb4 {o:Oper}:qz e a o=zF (K7 (qz e a o)):=by
 cases hx:qz e a o with
 | none=>rfl
 | some x=>obtain⟨v,ids⟩:=x;have:=VM hx;simp only at this;subst this;rfl
theorem qy3 {args:Array Operand} {tys:Array TypeId}:zI e a s ⟨dst,.call { callee:=.builtin .min,args:=args,argTypes:=tys },ty,pos,after,none⟩=zF (K7 (qz e a ⟨dst,.call { callee:=.builtin .min,args:=args,argTypes:=tys },ty,pos,after,none⟩)):=qb4 (o:=⟨dst,.call { callee:=.builtin .min,args:=args,argTypes:=tys },ty,pos,after,none⟩)
theorem q2o {args:Array Operand} {tys:Array TypeId}:zI e a s ⟨dst,.call { callee:=.builtin .max,args:=args,argTypes:=tys },ty,pos,after,none⟩=zF (K7 (qz e a ⟨dst,.call { callee:=.builtin .max,args:=args,argTypes:=tys },ty,pos,after,none⟩)):=qb4 (o:=⟨dst,.call { callee:=.builtin .max,args:=args,argTypes:=tys },ty,pos,after,none⟩)
theorem qwj {u:UnOp} {t:TypeId} {x:Operand}:zI e a s ⟨dst,.unOp u t x,ty,pos,after,none⟩=zF (K7 (qz e a ⟨dst,.unOp u t x,ty,pos,after,none⟩)):=qb4 (o:=⟨dst,.unOp u t x,ty,pos,after,none⟩)
def exP (v:AV) (i:Nat) (d:Option (AV × List Nat)):Option (AV × List Nat):=match v with
 | .tuple vs=>zF vs[i]?
 | _=>d
theorem qnf {vs:List AV} {j:Nat} {d:Option (AV × List Nat)}:exP (.tuple vs) j d=zF vs[j]?:=(rfl)
theorem qk1 {x:Operand} {j:Nat}:zI e a s ⟨dst,.extract x j,ty,pos,after,none⟩=exP (a.eval x) j (qz e a ⟨dst,.extract x j,ty,pos,after,none⟩):=by
 simp only[zI,exP]
 cases a.eval x <;> rfl
end
def ldC (s:St) (x o:Nat):Option AV:=match za s x with
 | some (cs,_,_)=>cs[o]?
 | none=>match qrt s x with
  | some cs=>cs[o]?
  | none=>none
def stC (s:St) (x o:Nat) (v:AV):Option St:=match za s x with
 | some (cs,el,fz)=>match JF cs o [v] with
  | some cs'=>some { s with h:=s.h.set x (.cells cs' el fz) }
  | none=>none
 | none=>none
def q63 (e:Env) (t:TypeId):Bool:=match e.info t with|some ti=>QF ti.desc|none=>true
def qe1 (e:Env) (t:TypeId):Nat:=match e.info t with|some ti=>ti.size|none=>0
theorem J4 {t x o:Nat} (h:q63 e t=false):Q1 e s t (.ptr x o)=ldC s x o:=by
 unfold q63 at h
 cases ht:e.info t with
 | none=>rw[ht] at h;cases h
 | some ti =>
  rw[ht] at h
  simp only at h
  simp only[Q1,ldC,ht]
  cases za s x with
  | none =>
   cases qrt s x with
   | none=>rfl
   | some cs=>simp[h]
  | some y=>obtain⟨cs,el,fz⟩:=y;simp[h]
theorem KJ {t x o:Nat} {v:AV} (h:qe1 e t=1) (h1:v.cells=[v]) (h2:v.one=true):QZ e s t (.ptr x o) v=stC s x o v:=by
 unfold qe1 at h
 cases ht:e.info t with
 | none=>rw[ht] at h;cases h
 | some ti =>
  rw[ht] at h
  simp only at h
  simp only[QZ,stC,ht,h,h1,zJ,List.length_cons,List.length_nil,List.all_cons,List.all_nil,h2]
  cases za s x with
  | none=>rfl
  | some y=>obtain⟨cs,el,fz⟩:=y;rfl
theorem W7 {x el fz:Nat} {cs:List AV} (h:s.h.get x=some (.cells cs el fz)):za s x=some (cs,el,fz):=by simp[za,h]
theorem qcq {k:IntKind} {z:Int}:(AV.raw (.int k z)).cells=[.raw (.int k z)]:=(rfl)
theorem WN {b:Bool}:(AV.raw (.bool b)).cells=[.raw (.bool b)]:=(rfl)
theorem WW:(AV.raw (.pointer none)).cells=[.raw (.pointer none)]:=(rfl)
theorem WP {a b:Nat}:(AV.raw (.slice none a b)).cells=[.raw (.slice none a b)]:=(rfl)
theorem qem {l:List Nat}:(AV.str l).cells=[.str l]:=(rfl)
theorem qn5 {i j:Nat}:(AV.ptr i j).cells=[.ptr i j]:=(rfl)
theorem qgy {i o l c k:Nat} {x:Bool}:(AV.slice i o l c k x).cells=[.slice i o l c k x]:=(rfl)
theorem qou {i:Nat}:(AV.map i).cells=[.map i]:=(rfl)
theorem qd {l:List AV}:(AV.agg l).cells=l:=(rfl)
theorem KZ {k:IntKind} {z:Int}:(AV.raw (.int k z)).one=true:=(rfl)
theorem qdh {b:Bool}:(AV.raw (.bool b)).one=true:=(rfl)
theorem qfl:(AV.raw (.pointer none)).one=true:=(rfl)
theorem qez {a b:Nat}:(AV.raw (.slice none a b)).one=true:=(rfl)
theorem qbr {l:List Nat}:(AV.str l).one=true:=(rfl)
theorem quk {i j:Nat}:(AV.ptr i j).one=true:=(rfl)
theorem qoi {i o l c k:Nat} {x:Bool}:(AV.slice i o l c k x).one=true:=(rfl)
theorem qw9 {i:Nat}:(AV.map i).one=true:=(rfl)
theorem qwc {i j:Nat}:Z4 (.ptr i j)=[i]:=(rfl)
theorem qva {i:Nat}:Z4 (.map i)=[i]:=(rfl)
theorem qv2 {v:Value}:Z4 (.raw v)=[]:=(rfl)
theorem qwi {l:List Nat}:Z4 (.str l)=[]:=(rfl)
theorem qmg {i o l c k:Nat} {x:Bool}:Z4 (.slice i o l c k x)=[]:=(rfl)
theorem qyp:zZ s []=true:=(rfl)
theorem q5n {o:AO}:(s.alloc o).nx=s.nx+1:=(rfl)
theorem qt {o:AO}:(s.alloc o).h.get s.nx=some o:=by simp[St.alloc,Tr.get_set]
theorem zm {o:AO} {i:Nat} (h:i≠s.nx):(s.alloc o).h.get i=s.h.get i:=by simp[St.alloc,Tr.get_set,h]
theorem hs_same {h:Tr AO} {o:AO} {i:Nat}:(h.set i o).get i=some o:=by simp[Tr.get_set]
theorem qa {h:Tr AO} {o:AO} {i j:Nat} (hn:i≠j):(h.set j o).get i=h.get i:=by simp[Tr.get_set,hn]
theorem qrh {v:AV} {d:Bool} {dst:Option Tmp} {k:Ac→St→Bool}:qtx [] (some v) d a dst s k=Q2 a dst v s k:=(rfl)
theorem qZ (H:Ok e P pr) {c:Code} {k:AE→Ac→St→Bool} {N:Nat} {ds:List AD} (J:Nat→Tr AV→St→Prop) {n:Nat} {t:Tr AV} (h0:J n t s)
  (hstep:∀ n t s,(∀ m t' s',m < n→J m t' s'→(sem P).code rd (.loop c) ⟨t',N,ds⟩ s' k=true)→J n t s→(sem P).code rd c ⟨t,N,ds⟩ s (qlf (sem P) rd c k)=true) :
  (sem P).code rd (.loop c) ⟨t,N,ds⟩ s k=true:=by
 have key:∀ n t s,J n t s→(sem P).code rd (.loop c) ⟨t,N,ds⟩ s k=true:=by
  intro n
  induction n using Nat.strongRecOn with
  | ind n ih=>exact fun t s hJ=>qi9 H (hstep n t s (fun m t' s' hm hJ'=>ih m hm t' s' hJ') hJ)
 exact key n t s h0
def qdo (r:Tasks) (a:Ac) (nx:Nat) (k:AE→Ac→St→Bool):AV→St→Bool:=fun _ s2 =>
 match s2.h.get (nx+1) with
 | some (.loop st pd fn t n ps as b dd) =>
  match st with
  | .busy=>false
  | _=>match pd with
   | none=>k .normal { a with d:=.mark nx::a.d } { s2 with h:=s2.h.set (nx+1) (.loop .exhausted pd fn t n ps as b dd) }
   | some j=>r.code none j { a with d:=.mark nx::a.d } { s2 with h:=s2.h.set (nx+1) (.loop .exhausted pd fn t n ps as b dd) } k
 | _=>false
def q4m:AV→St→Bool:=fun _ _=>false
theorem qxi (H:Ok e P pr) {f:Operand} {ps:List Tmp} {as body:Code} {k:AE→Ac→St→Bool} (g:FuncId) (cap:List AV) (hf:a.eval f=.fn g cap)
  (h:(sem P).call g (.yld (s.nx+1)::cap) { h:=(s.h.set s.nx (.dfr false)).set (s.nx+1) (.loop .ready none 0 a.t a.n ps as body s.nx),nx:=s.nx+2 } (qdo (sem P) a s.nx k) q4m=true) :
  (sem P).code none (.rangeFunc f ps.toArray as body) a s k=true:=by
 refine H.code ?_
 simp only[step,hf]
 exact h
theorem qcu {nx:Nat} {k:AE→Ac→St→Bool} {v:AV} {fn:FuncId} {t:Tr AV} {n:Nat} {ps:List Tmp} {as b:Code} {dd:Nat} (h:s.h.get (nx+1)=some (.loop .ready none fn t n ps as b dd)) :
  qdo r a nx k v s=k .normal { a with d:=.mark nx::a.d } { s with h:=s.h.set (nx+1) (.loop .exhausted none fn t n ps as b dd) }:=by
 simp only[qdo,h]
theorem qgf {nx:Nat} {k:AE→Ac→St→Bool} {v:AV} {fn:FuncId} {t:Tr AV} {n:Nat} {ps:List Tmp} {as b j:Code} {dd:Nat} (h:s.h.get (nx+1)=some (.loop .done (some j) fn t n ps as b dd)) :
  qdo r a nx k v s=r.code none j { a with d:=.mark nx::a.d } { s with h:=s.h.set (nx+1) (.loop .exhausted (some j) fn t n ps as b dd) } k:=by
 simp only[qdo,h]
def asK (r:Tasks) (id:Nat) (body:Code) (k:AV→St→Bool):AE→Ac→St→Bool:=fun ex a1 s1 =>
 match ex with
 | .normal =>
  match s1.h.get id with
  | some (.loop .ready pd fn t n ps as b d) =>
   r.code (some id) body a1 { s1 with h:=s1.h.set id (.loop .busy pd fn t n ps as b d) } fun ex _ s2 =>
    match ex with
    | .normal=>qc2 s2 id none true k
    | .ret=>qc2 s2 id (some .ret) false k
    | .exit j=>qc2 s2 id (some (.exit j)) false k
    | .goto j=>qc2 s2 id (some (.goto j)) false k
    | .panic _=>false
  | _=>false
 | _=>false
def qns (id:Nat) (k:AV→St→Bool):AE→Ac→St→Bool:=fun ex _ s2 =>
 match ex with
 | .normal=>qc2 s2 id none true k
 | .ret=>qc2 s2 id (some .ret) false k
 | .exit j=>qc2 s2 id (some (.exit j)) false k
 | .goto j=>qc2 s2 id (some (.goto j)) false k
 | .panic _=>false
theorem qvo {id:Nat} {args:List AV} {k:AV→St→Bool} {st:LoopState} {pd:Option Code} {fn:FuncId} {t t':Tr AV} {n:Nat} {ps:List Tmp} {as body:Code} {d:Nat} (hs:s.h.get id=some (.loop st pd fn t n ps as body d)) (ht:Zw t n ps args=some t')
  (h:(sem P).code (some id) as ⟨t',n,[]⟩ s (asK (sem P) id body k)=true):Yd (sem P) id args s k=true:=by
 simp only[Yd,hs,ht]
 exact h
theorem ZI {id:Nat} {k:AV→St→Bool} {pd:Option Code} {fn:FuncId} {t:Tr AV} {n:Nat} {ps:List Tmp} {as b body:Code} {d:Nat} (hs:s.h.get id=some (.loop .ready pd fn t n ps as b d)) :
  asK r id body k .normal a s=r.code (some id) body a { s with h:=s.h.set id (.loop .busy pd fn t n ps as b d) } (qns id k):=by
 simp only[asK,hs]
 rfl
theorem ze {id:Nat} {k:AV→St→Bool} {st:LoopState} {pd:Option Code} {fn:FuncId} {t:Tr AV} {n:Nat} {ps:List Tmp} {as b:Code} {d:Nat} (hs:s.h.get id=some (.loop st pd fn t n ps as b d)) :
  qns id k .normal a s=k (q8 true) { s with h:=s.h.set id (.loop .ready none fn t n ps as b d) }:=by
 simp only[qns,qc2,XF,hs]
theorem XI {id:Nat} {k:AV→St→Bool} {st:LoopState} {pd:Option Code} {fn:FuncId} {t:Tr AV} {n:Nat} {ps:List Tmp} {as b:Code} {d:Nat} (hs:s.h.get id=some (.loop st pd fn t n ps as b d)) :
  qns id k .ret a s=k (q8 false) { s with h:=s.h.set id (.loop .done (some .ret) fn t n ps as b d) }:=by
 simp only[qns,qc2,XF,hs]
theorem qT {fn:Func} {kr kp:AV→St→Bool} {id:Nat} {ds:List AD} {pn:Option AV} (h:s.h.get id=some (.dfr false)):zG e r fn a kr kp (.mark id::ds) pn s=zG e r fn a kr kp ds pn { s with h:=s.h.set id (.dfr true) }:=by
 simp only[zG,h]
def ldO (o:Option AO) (i:Nat):Option AV:=match o with
 | some (.cells cs _ _)=>cs[i]?
 | some (.old cs)=>cs[i]?
 | _=>none
theorem Kb {x o:Nat}:ldC s x o=ldO (s.h.get x) o:=by
 unfold ldC za qrt ldO
 cases s.h.get x with
 | none=>rfl
 | some y=>cases y <;> rfl
theorem que {cs:List AV} {i:Nat}:ldO (some (.old cs)) i=cs[i]?:=(rfl)
theorem qr9 {cs:List AV} {el fz i:Nat}:ldO (some (.cells cs el fz)) i=cs[i]?:=(rfl)
def stO (s:St) (x:Nat) (c:Option AO) (i:Nat) (v:AV):Option St:=match c with
 | some (.cells cs el fz)=>match JF cs i [v] with
  | some cs'=>some { s with h:=s.h.set x (.cells cs' el fz) }
  | none=>none
 | _=>none
theorem q4k {x o:Nat} {v:AV}:stC s x o v=stO s x (s.h.get x) o v:=by
 unfold stC za stO
 cases s.h.get x with
 | none=>rfl
 | some y=>cases y <;> rfl
theorem qp7 {x i el fz:Nat} {cs:List AV} {v:AV}:stO s x (some (.cells cs el fz)) i v=match JF cs i [v] with
  | some cs'=>some { s with h:=s.h.set x (.cells cs' el fz) }
  | none=>none:=(rfl)
theorem qor {c v:AV} {cs:List AV}:JF (c::cs) 0 [v]=some (v::cs):=by cases cs <;> rfl
theorem qci {c v:AV} {cs:List AV} {n:Nat}:JF (c::cs) (n+1) [v]=match JF cs n [v] with|some r=>some (c::r)|none=>none:=(rfl)
def inO (o:Option AO) (b:Bool):Bool:=match o with
 | some _=>b
 | none=>false
theorem in_o {i:Nat} {l:List Nat}:zZ s (i::l)=inO (s.h.get i) (zZ s l):=by
 show (match s.h.get i with|some _=>zZ s l|none=>false)=_
 unfold inO
 cases s.h.get i <;> rfl
theorem qre {o:AO} {b:Bool}:inO (some o) b=b:=(rfl)
theorem qyh {o:AO} {i:Nat}:(s.alloc o).h.get i=if i=s.nx then some o else s.h.get i:=by simp[St.alloc,Tr.get_set]
theorem q2e {h:Tr AO} {o:AO} {i j:Nat}:(h.set i o).get j=if j=i then some o else h.get j:=by rw[Tr.get_set]
theorem qlo {i:Nat}:Nat.beq i i=true:=by simp
theorem qiw:∀ {l:List Nat},eqB l l=true
 | []=>(rfl)
 | x::l=>by simp only[eqB,qlo,cond_true,qiw (l:=l)]
theorem q04 {deps:List Nat} {s':St}:YB deps s s' []=true:=(rfl)
theorem qwl {deps:List Nat} {s':St} {i:Nat} {ids:List Nat} {l:List (Nat × List Nat)}:YB deps s s' ((i,ids)::l)=((deps.contains i||ZO s s' ids)&&YB deps s s' l):=by
 simp only[YB]
 cases (deps.contains i||ZO s s' ids) <;> rfl
theorem q17 {s':St}:ZO s s' []=true:=(rfl)
def q35 (o o':Option AO) (b:Bool):Bool:=match o,o' with
 | some o,some o'=>qfy o o'&&b
 | _,_=>false
theorem qv9 {s':St} {i:Nat} {l:List Nat}:ZO s s' (i::l)=q35 (s.h.get i) (s'.h.get i) (ZO s s' l):=by
 simp only[ZO,q35]
 cases s.h.get i with
 | none=>rfl
 | some o=>cases s'.h.get i with
  | none=>rfl
  | some o'=>cases h:qfy o o' <;> simp[h]
theorem qmj {o o':AO} {b:Bool}:q35 (some o) (some o') b=(qfy o o'&&b):=(rfl)
theorem qyk {c:List AV}:qfy (.old c) (.old c)=Y3 c c:=by simp[qfy]
theorem qp6 {c:List AV} {e f:Nat}:qfy (.cells c e f) (.cells c e f)=Y3 c c:=by simp[qfy]
theorem qox:Y3 [] []=true:=by simp[Y3]
theorem qht {v:AV} {l:List AV}:Y3 (v::l) (v::l)=(beqA v v&&Y3 l l):=by simp[Y3]
theorem qnc {k:IntKind} {z:Int}:beqA (.raw (.int k z)) (.raw (.int k z))=true:=by simp[beqA,qta]
theorem qxq {b:Bool}:beqA (.raw (.bool b)) (.raw (.bool b))=true:=by simp[beqA,qta]
theorem qvx:beqA (.raw (.pointer none)) (.raw (.pointer none))=true:=by simp[beqA,qta]
theorem quu {a b:Nat}:beqA (.raw (.slice none a b)) (.raw (.slice none a b))=true:=by simp[beqA,qta]
theorem qh7 {l:List Nat}:beqA (.str l) (.str l)=true:=by simp[beqA,qiw]
theorem q2h {i j:Nat}:beqA (.ptr i j) (.ptr i j)=true:=by simp[beqA]
theorem q16 {i:Nat}:beqA (.map i) (.map i)=true:=by simp[beqA]
theorem qpw {i o l c k:Nat} {x:Bool}:beqA (.slice i o l c k x) (.slice i o l c k x)=true:=by simp[beqA]
theorem q24 {deps:List Nat}:qli deps []=[]:=(rfl)
theorem quj {deps:List Nat} {i:Nat} {ids:List Nat} {l:List (Nat × List Nat)}:qli deps ((i,ids)::l)=bif deps.contains i then qli deps l else (i,ids)::qli deps l:=(rfl)
theorem q11 {i:Nat}:List.contains ([]:List Nat) i=false:=(rfl)
theorem qvg {i:Nat} {l:List Nat}:List.contains (i::l) i=true:=by simp
theorem q32 {i j:Nat} {l:List Nat} (h:i≠j):List.contains (j::l) i=List.contains l i:=by
 simp[h]
end Go.AX
namespace Go.AX
open Go.RowKit
variable {P:Program} {w0:World} {E:Em} {s:St} {w:World}
def st0:St:={ h:=.e,nx:=0 }
theorem nx0:st0.nx=0:=(rfl)
theorem Sim.addP (h:Sim w0 E s w) {w':World} (hb:Below w.heap.size w w') {P0:Nat × Nat × Nat} (hg:w.heap.size≤P0.1) {o:AO} {O:Obj} (hO:w'.heap[P0.1]?=some O) (ho:ORel (E.put s.nx P0) P0 o O) :
  Sim w0 (E.put s.nx P0) (s.alloc o) w':=by
 have hle:=Em.le_put E s.nx P0 h.free
 have h':=h.grown hb
 have lt:∀ {id o' p},s.h.get id=some o'→E id=some p→p.1 < w.heap.size:=fun {id o' p} hi hp=>by
  obtain⟨q,O',hq,hO',_,_⟩:=h.obj id o' hi
  rw[hp] at hq;cases hq
  exact (Array.getElem?_eq_some_iff.1 hO').1
 have old:∀ {id o'},(s.alloc o).h.get id=some o'→id≠s.nx→s.h.get id=some o':=fun {id o'} hi hne=>by
  simp only[St.alloc,Tr.get_set] at hi
  rw[if_neg hne] at hi
  exact hi
 have olds:∀ {id p},(E.put s.nx P0) id=some p→id≠s.nx→E id=some p:=fun {id p} hp hne=>by
  unfold Em.put at hp
  rw[if_neg hne] at hp
  exact hp
 refine⟨fun id o' ho'=>?_,fun id id' o1 o2 p p' h1 h2 e1 e2 hp=>?_,fun id p hp=>?_,h'.below⟩
 ·by_cases hid:id=s.nx
  ·subst hid
   simp only[St.alloc,Tr.get_set,if_true,Option.some.injEq] at ho'
   subst ho'
   exact⟨_,O,Em.put_same _ _ _,hO,ho,Or.inl (Nat.le_trans h.below.size hg)⟩
  ·obtain⟨q,O',hq,hO',hr,hB⟩:=h'.obj id o' (old ho' hid)
   exact⟨q,O',hle _ _ hq,hO',hr.mono hle,hB⟩
 ·by_cases hid:id=s.nx
  ·by_cases hid':id'=s.nx
   ·exact Or.inl (by rw[hid,hid'])
   ·subst hid
    rw[Em.put_same] at e1
    cases e1
    have:=lt (old h2 hid') (olds e2 hid')
    omega
  ·by_cases hid':id'=s.nx
   ·subst hid'
    rw[Em.put_same] at e2
    cases e2
    have:=lt (old h1 hid) (olds e1 hid)
    omega
   ·exact h.inj _ _ _ _ _ _ (old h1 hid) (old h2 hid') (olds e1 hid) (olds e2 hid') hp
 ·by_cases hid:id=s.nx
  ·subst hid;simp[St.alloc]
  ·have:=h.fresh id p (olds hp hid);simp only[St.alloc];omega
def qec:AV→Bool
 | .raw _=>true
 | .str _=>true
 | _=>false
def q20:AV→Bool
 | .tuple vs=>vs.all qec
 | v=>qec v
theorem WJ {E E':Em} {v:AV} {V:Value} (hf:qec v=true) (h:VRel E v V):VRel E' v V:=by
 cases v <;> first|(simp[qec] at hf;done)|(simpa [VRel] using h)
theorem KO {E E':Em}:∀ {vs:List AV} {L:List Value},vs.all qec=true→VRels E vs L→VRels E' vs L
 | [],_,_,h=>by simpa [VRels] using h
 | v::vs,L,hf,h=>by
  simp only[VRels] at h ⊢
  simp only[List.all_cons,Bool.and_eq_true] at hf
  obtain⟨V,Vs,h1,h2,h3⟩:=h
  exact⟨V,Vs,WJ hf.1 h1,KO hf.2 h2,h3⟩
theorem qmp {E E':Em} {v:AV} {V:Value} (hf:q20 v=true) (h:VRel E v V):VRel E' v V:=by
 cases v with
 | tuple vs =>
  simp only[VRel] at h ⊢
  obtain⟨C,h1,h2⟩:=h
  exact⟨C,KO hf h1,h2⟩
 | _=>exact WJ hf h
theorem qd9 {f:FuncId} {args:List AV} {Q:AV→St→Prop} (ha:args.all qec=true) (h:∀ kr kp:AV→St→Bool,(∀ v s',Q v s'→kr v s'=true)→(sem P).call f args st0 kr kp=true)
  {Args:List Value} (hv:VRels E args Args):QN P f∧CallsIn (FW none) 0 P f Args.toArray w fun en w'=>∃ V v s' E',en=.returned V∧Q v s'∧VRel E' v V∧Sim w E' s' w':=by
 have key:=sem_call.1 (h (fun v s'=>@decide (Q v s') (Classical.propDecidable _)) (fun _ _=>false) (fun v s' hq=>@decide_eq_true _ (Classical.propDecidable _) hq))
  w w (fun _=>none) Args (fun V w'=>∃ v s' E',Q v s'∧VRel E' v V∧Sim w E' s' w') (fun _ _=>False) (KO ha hv) (q64 w)
  (fun E' v s' V w' _ g2 g3 g4=>⟨v,s',E',@of_decide_eq_true _ (Classical.propDecidable _) g4,g2,g3⟩) (fun _ _ _ _ _ _ _ _ g=>by cases g)
 refine⟨key.1,CallsIn.mono key.2 fun en w' he=>?_⟩
 cases en with
 | returned V=>obtain⟨v,s',E',h1,h2,h3⟩:=he;exact⟨V,v,s',E',rfl,h1,h2,h3⟩
 | panicked ch=>obtain⟨_,_,hh⟩:=he;exact hh.elim
 | outgrown=>exact he.elim
theorem Ju {f:FuncId} {args:List AV} {v:AV} (ha:args.all qec=true) (hf:q20 v=true) (h:∀ kr kp:AV→St→Bool,(∀ s',kr v s'=true)→(sem P).call f args st0 kr kp=true)
  {Args:List Value} (hv:VRels E args Args) (hs:Sim w0 E s w):QN P f∧CallsIn (FW none) 0 P f Args.toArray w fun en w'=>∃ V E',en=.returned V∧E.le E'∧VRel E' v V∧Sim w0 E' s w':=by
 obtain⟨h1,h2⟩:=qd9 (w:=w) (Q:=fun v' _=>v'=v) ha (fun kr kp hk=>h kr kp (fun s'=>hk v s' rfl)) hv
 refine⟨h1,CallsIn.mono h2 ?_⟩
 rintro en w' ⟨V,v',s',E',rfl,rfl,hV,hS⟩
 exact⟨V,E,rfl,Em.le_refl E,qmp hf hV,hs.grown hS.below⟩
def SlR (ty:Nat) (F:Nat→Prop) (s:St) (V:AV) (names:List (List Nat)):Prop:=(V=.raw (.slice none 0 0)∧names=[]) ∨
 ∃ id cap cs,V=.slice id 0 names.length 0 cap false∧F id∧id < s.nx∧s.h.get id=some (.cells cs ty 2)∧cs.length=cap∧names.length≤cap∧cs.take names.length=names.map .str
def Xw (ty:Nat) (names:List (List Nat)) (s:St):AV × St:=match names with
 | []=>(.raw (.slice none 0 0),s)
 | _::_=>(.slice s.nx 0 names.length 0 names.length false,s.alloc (.cells (names.map .str) ty 2))
theorem qk3 {f ty:Nat} {args:List AV} {names:List (List Nat)} (hn:names≠[]) (ha:args.all qec=true) (h:∀ kr kp:AV→St→Bool,(∀ V s',SlR ty (fun _=>True) s' V names→kr V s'=true)→(sem P).call f args st0 kr kp=true)
  {Args:List Value} (hv:VRels E args Args) (hs:Sim w0 E s w):QN P f∧CallsIn (FW none) 0 P f Args.toArray w fun en w'=>∃ V E',en=.returned V∧E.le E'∧VRel E' (Xw ty names s).1 V∧Sim w0 E' (Xw ty names s).2 w':=by
 obtain⟨h1,h2⟩:=qd9 (w:=w) (Q:=fun V s'=>SlR ty (fun _=>True) s' V names) ha h hv
 refine⟨h1,CallsIn.mono h2 ?_⟩
 rintro en w' ⟨V,v,s',E',rfl,hq,hV,hS⟩
 rcases hq with⟨_,hq⟩|⟨id,cap,cs,rfl,_,_,g1,g2,g3,g4⟩
 ·exact absurd hq hn
 ·have hmk:Xw ty names s=(.slice s.nx 0 names.length 0 names.length false,s.alloc (.cells (names.map .str) ty 2)):=by
   cases names with
   | nil=>exact absurd rfl hn
   | cons _ _=>rfl
  rw[hmk]
  simp only[VRel] at hV
  obtain⟨p,hp,rfl,hl,hcap⟩:=hV
  have hcap:cap≤p.2.2 - 0:=by simpa using hcap
  obtain⟨p',O,hp',hO,hr,hge⟩:=hS.obj id _ g1
  rw[hp] at hp'
  cases hp'
  refine⟨_,E.put s.nx p,rfl,Em.le_put E s.nx p hs.free,?_,hs.addP hS.below (hge.resolve_right (fun ⟨_,h⟩=>by cases h)) hO ?_⟩
  ·simp only[VRel]
   exact⟨p,Em.put_same _ _ _,rfl,Nat.le_refl _,fun _=>by omega⟩
  ·simp only[ORel] at hr ⊢
   obtain⟨C,fz,rfl,hc,hfr⟩:=hr
   refine⟨C,fz,rfl,fun i v hi=>?_,hfr⟩
   have hi':cs[i]?=some v:=by
    have hlt:i < names.length:=by
     have:=(List.getElem?_eq_some_iff.1 hi).1
     simpa using this
    rw[← g4,List.getElem?_take] at hi
    rw[if_pos hlt] at hi
    exact hi
   obtain⟨V,k1,k2⟩:=hc i v hi'
   refine⟨V,k1,WJ ?_ k2⟩
   rw[List.getElem?_map,Option.map_eq_some_iff] at hi
   obtain⟨x,_,rfl⟩:=hi
   rfl
def Prims.add (pr:Prims) (g:FuncId) (f:List AV→St→Option (AV × St)):Prims:={ ext:=pr.ext,fn:=fun h args s=>bif Nat.beq h g then f args s else pr.fn h args s }
theorem Jq {pr:Prims} {g:FuncId} {f:List AV→St→Option (AV × St)} (h:PrimsOk P pr)
  (hg:∀ {args:List AV} {s s':St} {v:AV} {w0 w:World} {E:Em} {Args:List Value},f args s=some (v,s')→VRels E args Args→Sim w0 E s w →
   QN P g∧CallsIn (FW none) 0 P g Args.toArray w fun en w'=>∃ V E',en=.returned V∧E.le E'∧VRel E' v V∧Sim w0 E' s' w'):PrimsOk P (pr.add g f):=by
 refine⟨fun h1 h2 h3=>h.ext h1 h2 h3,fun {g' args s s' v w0 w E Args} h1 h2 h3=>?_⟩
 simp only[Prims.add] at h1
 cases hb:Nat.beq g' g with
 | true =>
  rw[hb] at h1
  have:=Nat.eq_of_beq_eq_true hb
  subst this
  exact hg h1 h2 h3
 | false =>
  rw[hb] at h1
  exact h.fn h1 h2 h3
theorem Qb {pr:Prims} {g h:FuncId} {f:List AV→St→Option (AV × St)} {args:List AV} (hn:h≠g):(pr.add g f).fn h args s=pr.fn h args s:=by
 have:Nat.beq h g=false:=by
  cases hb:Nat.beq h g with
  | false=>rfl
  | true=>exact absurd (Nat.eq_of_beq_eq_true hb) hn
 simp only[Prims.add,this,cond_false]
theorem JI {pr:Prims} {g:FuncId} {f:List AV→St→Option (AV × St)} {args:List AV}:(pr.add g f).fn g args s=f args s:=by simp[Prims.add]
end Go.AX
namespace Go.AX
open Go.RowKit
variable {P:Program} {e:Env} {pr:Prims} {r:Tasks} {rd:Option Nat} {a:Ac} {s:St}
theorem qpy (hr:Sound P r) {id:Nat} {args:List AV} {k k':AV→St→Bool} (h:Yd r id args s k=true) (hk:∀ v s',k v s'=true→k' v s'=true):Yd (sem P) id args s k'=true:=by
 unfold Yd at h ⊢
 split at h
 ·split at h
  ·refine Xp (Y5 hr h) fun ex a1 s1 h1=>?_
   split at h1
   ·split at h1
    ·refine Xp (Y5 hr h1) fun ex a2 s2 h2=>?_
     split at h2
     ·exact Zk h2 hk
     ·exact Zk h2 hk
     ·exact Zk h2 hk
     ·exact Zk h2 hk
     ·cases h2
    ·cases h1
   ·cases h1
  ·cases h
 ·cases h
theorem qvj (hr:Sound P r) {o:Oper} {k k':Ac→St→Bool} {kp kp':AV→St→Bool} (h:Z1 e pr r rd o a s k kp=true) (hk:∀ a' s',k a' s'=true→k' a' s'=true) (hp:∀ v s',kp v s'=true→kp' v s'=true) :
  Z1 e pr (sem P) rd o a s k' kp'=true:=by
 unfold Z1 at h ⊢
 split at h
 ·split at h
  ·exact hp _ _ h
  ·cases h
 ·split at h
  ·split at h
   ·exact zl h hk
   ·cases h
  ·cases h
 ·split at h
  ·split at h
   ·split at h
    ·exact zl h hk
    ·split at h
     ·exact zl h hk
     ·exact KW (Y6 hr h) (fun v s' hv=>zl hv hk) hp
   ·exact qpy hr h (fun v s' hv=>zl hv hk)
   ·cases h
  ·exact JB h hk
 ·exact qbm h (fun v s' hv=>zl hv hk)
 ·exact JB h hk
theorem Vm (hr:Sound P r) {all:List Oper} {k:Ac→St→Bool} {kp:AV→Ac→St→Bool}:∀ (p:Pl) (held:List (Nat × List Nat)) (a:Ac) (s:St),qe8 e pr r rd all p held a s k kp=true→qe8 e pr (sem P) rd all p held a s k kp=true
 | .done,_,_,_,h=>h
 | .no,_,_,_,h=>h
 | .yes,_,_,_,h=>h
 | .take i p,held,a,s,h=>by
  simp only[qe8] at h ⊢
  split at h
  ·split at h
   ·split at h
    ·rename_i v ids _
     cases hi:zZ s ids with
     | false=>rw[hi] at h;cases h
     | true=>rw[hi] at h;simp only[cond_true] at h ⊢;exact zl h fun a' s' h'=>Vm hr p _ _ _ h'
    ·cases h
   ·exact zl h fun a' s' h'=>Vm hr p _ _ _ h'
   ·cases h
  ·cases h
 | .alt i deps p q,held,a,s,h=>by
  simp only[qe8,Bool.and_eq_true] at h ⊢
  refine⟨?_,Vm hr q _ _ _ h.2⟩
  have h:=h.1
  split at h
  ·split at h
   ·refine qvj hr h (fun a' s' h'=>?_) (fun _ _ h'=>h')
    cases hst:YB deps s s' held with
    | false=>rw[hst] at h';cases h'
    | true=>rw[hst] at h';exact Vm hr p _ _ _ h'
   ·exact zl h fun a' s' h'=>Vm hr p _ _ _ h'
   ·cases h
  ·cases h
def qjv (e:Env) (pr:Prims) (r:Tasks):Tasks:={
 code:=fun rd c a s k=>match c with
  | .region _ ops true=>bif Kc ops.toList then qe8 e pr r rd ops.toList (qsl e ops ops.size (Array.replicate ops.size false)) [] a s (fun a' s'=>k .normal a' s') (fun v a' s'=>k (.panic v) { a' with t:=Yv a'.t ops.toList } s') else false
  | c=>(step e pr r).code rd c a s k
 call:=(step e pr r).call }
def evX (e:Env) (pr:Prims):Nat→Tasks
 | 0=>qbs
 | n+1=>qjv e pr (evX e pr n)
theorem qap (H:Ok e P pr) (hr:Sound P r) {c:Code} {k:AE→Ac→St→Bool} (h:(qjv e pr r).code rd c a s k=true):(sem P).code rd c a s k=true:=by
 have other:(step e pr r).code rd c a s k=true→(sem P).code rd c a s k=true:=fun h=>Y5 (YA H.prog H.prims hr) h
 simp only[qjv] at h
 split at h
 ·rename_i i ops
  cases hs:Kc ops.toList with
  | false=>rw[hs] at h;cases h
  | true =>
   rw[hs] at h
   obtain⟨l⟩:=ops
   exact qq H _ hs rfl (Vm hr _ _ _ _ h)
 ·exact other h
theorem qgh (H:Ok e P pr) (hr:Sound P r):Sound P (qjv e pr r):={
 code:=fun h h1 h2 h3 h4=>sem_sound.code (qap H hr h) h1 h2 h3 h4
 loop:=fun h h1 h2 h3 h4=>sem_sound.loop (qap H hr h) h1 h2 h3 h4
 call:=fun h h1 h2 h3 h4=>(YA H.prog H.prims hr).call h h1 h2 h3 h4 }
theorem qdn (H:Ok e P pr):∀ n,Sound P (evX e pr n)
 | 0=>Xx
 | n+1=>qgh H (qdn H n)
theorem qpd {v:AV} (h:WB v=true):v=.raw (.bool true):=by
 unfold WB at h
 split at h
 ·rw[h]
 ·cases h
theorem qm9 {f:FuncId} {args:List AV} {kr kp:AV→St→Bool} (h:(sem P).call f args s (fun v _=>WB v) (fun _ _=>false)=true) (hk:∀ s',kr (.raw (.bool true)) s'=true):(sem P).call f args s kr kp=true :=
 KW h (fun v s' hv=>by rw[qpd hv];exact hk s') (fun _ _ hv=>by cases hv)
theorem qpt {f:FuncId} {args:List AV} {Args:List Value} {E:Em} {s:St} {w:World} (hs:Sim w E s w) (hv:VRels E args Args) (h:(sem P).call f args s (fun v _=>WB v) (fun _ _=>false)=true) :
  Calls P f Args.toArray w fun e w'=>e=.returned (.bool true)∧Below w.heap.size w w':=by
 have key:=sem_sound.call (R:=fun V w'=>V=.bool true∧Below w.heap.size w w') (Rp:=fun _ _=>False) h hv hs (fun E' v s V w' _ hv hs hk=>?_) (fun _ _ _ _ _ _ _ _ h=>by cases h)
 ·refine (callsIn_wide (n:=0)).1 (CallsIn.mono key.2 fun en w' he=>?_)
  cases en with
  | returned V=>exact⟨by rw[he.1],he.2⟩
  | panicked ch=>obtain⟨_,_,hh⟩:=he;exact hh.elim
  | outgrown=>exact he.elim
 ·refine⟨?_,hs.below⟩
  unfold WB at hk
  split at hk
  ·rename_i b
   simp only[VRel] at hv
   subst hk hv
   rfl
  ·cases hk
def q3k (x m:Int):Int:=IntKind.i64.wrap (((BitVec.ofInt 64 x &&& BitVec.ofInt 64 m).toNat:Nat):Int)
def qn4:AV→Bool
 | .raw (.int .i64 _)=>true
 | _=>false
def q6z:AV→AV→Option (AV × List Nat)
 | .raw (.int .i64 x),.raw (.int .i64 y)=>some (.raw (.int .i64 (q3k x y)),[])
 | _,_=>none
theorem quo {z:Int}:qn4 (.raw (.int .i64 z))=true:=(rfl)
theorem qq9 {x y:Int}:q6z (.raw (.int .i64 x)) (.raw (.int .i64 y))=some (.raw (.int .i64 (q3k x y)),[]):=(rfl)
theorem qim {v:AV} (h:qn4 v=true):∃ z,v=.raw (.int .i64 z):=by
 unfold qn4 at h
 split at h
 ·exact⟨_,rfl⟩
 ·cases h
theorem q3t {v w:AV}:qN .and v w=none:=by
 unfold qN
 split
 ·split <;> rfl
 ·rfl
 ·rfl
theorem quy {t:TypeId} {x y:AV} {d:Option (AV × List Nat)}:eqS e s .and t x y d=d:=(rfl)
theorem q6r {dst:Option Tmp} {x y:Operand} {t t' ty:TypeId} {pos:String} {after:Array Edge} (hx:qn4 (a.eval x)=true) (hy:qn4 (a.eval y)=true) :
  qz e a ⟨dst,.binOp .and t x y t',ty,pos,after,none⟩=q6z (a.eval x) (a.eval y):=by
 obtain⟨u,hx⟩:=qim hx
 obtain⟨v,hy⟩:=qim hy
 have h1:zO a x=.int .i64 u:=by simp[zO,hx,Q9]
 have h2:zO a y=.int .i64 v:=by simp[zO,hy,Q9]
 have hall:(Op.operands (.binOp .and t x y t')).toList.all (fun x=>(Q9 (a.eval x)).isSome)=true:=by
  show (List.all [x,y] (fun x=>(Q9 (a.eval x)).isSome))=true
  simp[hx,hy,Q9]
 simp only[qz,hall,cond_true]
 have hr:zp e.P (execOp (zO a) ⟨dst,.binOp .and t x y t',ty,pos,after,none⟩)=some (.value (.int .i64 (q3k u v))):=by
  have:execOp (zO a) ⟨dst,.binOp .and t x y t',ty,pos,after,none⟩=.pure (.value (.int .i64 (q3k u v))):=by
   simp only[execOp,h1,h2]
   rfl
  rw[this];rfl
 rw[hr,hx,hy]
 rfl
end Go.AX
namespace Go.AX
open Go.RowKit
def fN (n:Nat) (k:Nat→Bool):Bool:=match n with
 | 0=>k 0
 | m+1=>k (m+1)
theorem K6 {n:Nat} {k:Nat→Bool}:fN n k=k n:=by cases n <;> rfl
def fI (n:Int) (k:Int→Bool):Bool:=match n with
 | .ofNat m=>fN m fun m=>k (.ofNat m)
 | .negSucc m=>fN m fun m=>k (.negSucc m)
theorem q4s {n:Int} {k:Int→Bool}:fI n k=k n:=by cases n <;> simp only[fI,K6]
def fLn (l:List Nat) (k:List Nat→Bool):Bool:=match l with
 | []=>k []
 | n::l=>fN n fun n=>fLn l fun l=>k (n::l)
theorem qml:∀ {l:List Nat} {k:List Nat→Bool},fLn l k=k l
 | [],_=>rfl
 | n::l,k=>by simp only[fLn,K6,qml (l:=l)]
def fV (v:Value) (k:Value→Bool):Bool:=match v with
 | .int t n=>fI n fun n=>k (.int t n)
 | .bool true=>k (.bool true)
 | .bool false=>k (.bool false)
 | v=>k v
theorem q51 {v:Value} {k:Value→Bool}:fV v k=k v:=by
 unfold fV
 split
 ·simp only[q4s]
 ·rfl
 ·rfl
 ·rfl
mutual
def fA:AV→(AV→Bool)→Bool
 | .raw v,k=>fV v fun v=>k (.raw v)
 | .str s,k=>fLn s fun s=>k (.str s)
 | .ptr i o,k=>fN i fun i=>fN o fun o=>k (.ptr i o)
 | .slice i o l c q x,k=>fN i fun i=>fN o fun o=>fN l fun l=>fN c fun c=>fN q fun q=>(match x with|true=>k (.slice i o l c q true)|false=>k (.slice i o l c q false))
 | .esl i o c l z,k=>fN i fun i=>fN o fun o=>fN c fun c=>fN l fun l=>fN z fun z=>k (.esl i o c l z)
 | .map i,k=>fN i fun i=>k (.map i)
 | .fn f c,k=>fAs c fun c=>k (.fn f c)
 | .yld i,k=>fN i fun i=>k (.yld i)
 | .iface t v,k=>fA v fun v=>k (.iface t v)
 | .agg c,k=>fAs c fun c=>k (.agg c)
 | .tuple c,k=>fAs c fun c=>k (.tuple c)
def fAs:List AV→(List AV→Bool)→Bool
 | [],k=>k []
 | v::l,k=>fA v fun v=>fAs l fun l=>k (v::l)
end

mutual
theorem qqj:∀ (v:AV) (k:AV→Bool),fA v k=k v:=fun v k=>by
 cases v with
 | raw v=>simp only[fA,q51]
 | str s=>simp only[fA,qml]
 | ptr i o=>simp only[fA,K6]
 | slice i o l c q x=>cases x <;> simp only[fA,K6]
 | esl i o c l z=>simp only[fA,K6]
 | map i=>simp only[fA,K6]
 | fn f c=>simp only[fA,qao c]
 | yld i=>simp only[fA,K6]
 | iface t v=>simp only[fA,qqj v]
 | agg c=>simp only[fA,qao c]
 | tuple c=>simp only[fA,qao c]
theorem qao:∀ (l:List AV) (k:List AV→Bool),fAs l k=k l:=fun l k=>by
 cases l with
 | nil=>simp only[fAs]
 | cons v l=>simp only[fAs,qqj v,qao l]
end

def fM:List (AV × AV)→(List (AV × AV)→Bool)→Bool
 | [],k=>k []
 | (x,y)::l,k=>fA x fun x=>fA y fun y=>fM l fun l=>k ((x,y)::l)
theorem q10:∀ {l:List (AV × AV)} {k:List (AV × AV)→Bool},fM l k=k l
 | [],_=>rfl
 | (x,y)::l,k=>by simp only[fM,qqj,q10 (l:=l)]
def fO (o:AO) (k:AO→Bool):Bool:=match o with
 | .cells c e f=>fAs c fun c=>fN e fun e=>fN f fun f=>k (.cells c e f)
 | .map es=>fM es fun es=>k (.map es)
 | .rmap es i ix=>fM es fun es=>fN i fun i=>fLn ix fun ix=>k (.rmap es i ix)
 | .miter m l=>fN m fun m=>fLn l fun l=>k (.miter m l)
 | .siter l n r=>fLn l fun l=>fN n fun n=>fLn r fun r=>k (.siter l n r)
 | o=>k o
theorem q47 {o:AO} {k:AO→Bool}:fO o k=k o:=by
 unfold fO
 split <;> simp only[qao,q10,K6,qml]
def fT {α:Type} (f:α→(α→Bool)→Bool):Tr α→(Tr α→Bool)→Bool
 | .e,k=>k .e
 | .n l v r,k=>fT f l fun l=>match v with
  | none=>fT f r fun r=>k (.n l none r)
  | some x=>f x fun x=>fT f r fun r=>k (.n l (some x) r)
theorem qsc {α:Type} {f:α→(α→Bool)→Bool} (hf:∀ x k,f x k=k x):∀ {t:Tr α} {k:Tr α→Bool},fT f t k=k t
 | .e,_=>rfl
 | .n l v r,k=>by
  cases v <;> simp only[fT,hf,qsc hf (t:=l),qsc hf (t:=r)]
def fS (s:St) (k:St→Bool):Bool:=fT fO s.h fun h=>fN s.nx fun n=>k { h:=h,nx:=n }
theorem q41 {s:St} {k:St→Bool}:fS s k=k s:=by simp only[fS,qsc (fun _ _=>q47),K6]
def fD:List AD→(List AD→Bool)→Bool
 | [],k=>k []
 | .call f c::l,k=>fN f fun f=>fAs c fun c=>fD l fun l=>k (.call f c::l)
 | .mark i::l,k=>fN i fun i=>fD l fun l=>k (.mark i::l)
theorem qtm:∀ {l:List AD} {k:List AD→Bool},fD l k=k l
 | [],_=>rfl
 | .call f c::l,k=>by simp only[fD,K6,qao,qtm (l:=l)]
 | .mark i::l,k=>by simp only[fD,K6,qtm (l:=l)]
def fAc (a:Ac) (k:Ac→Bool):Bool:=fT fA a.t fun t=>fN a.n fun n=>fD a.d fun d=>k { t:=t,n:=n,d:=d }
theorem qyn {a:Ac} {k:Ac→Bool}:fAc a k=k a:=by simp only[fAc,qsc qqj,K6,qtm]
def qut (e:Env) (pr:Prims) (r:Tasks):Tasks:={
 code:=fun rd c a s k=>match c with
  | .region _ ops true=>bif Kc ops.toList then qe8 e pr r rd ops.toList (qsl e ops ops.size (Array.replicate ops.size false)) [] a s (fun a' s'=>fAc a' fun a'=>fS s' fun s'=>k .normal a' s') (fun v a' s'=>k (.panic v) { a' with t:=Yv a'.t ops.toList } s') else false
  | c=>(step e pr r).code rd c a s k
 call:=(step e pr r).call }
theorem qqt {e:Env} {pr:Prims} {r:Tasks}:qut e pr r=qjv e pr r:=by
 unfold qut qjv
 congr 1
 funext rd c a s k
 split <;> simp only[qyn,q41]
def evY (e:Env) (pr:Prims):Nat→Tasks
 | 0=>qbs
 | n+1=>qut e pr (evY e pr n)
theorem qs7 {e:Env} {pr:Prims}:∀ n,evY e pr n=evX e pr n
 | 0=>rfl
 | n+1=>by simp only[evY,evX,qs7 n,qqt]
theorem qph {P:Program} {e:Env} {pr:Prims} (H:Ok e P pr) (n:Nat):Sound P (evY e pr n):=by
 rw[qs7]
 exact qdn H n
variable {P:Program} {e:Env} {pr:Prims}
def hL:List (Nat × AO)→Tr AO
 | []=>.e
 | q::l=>(hL l).set q.1 q.2
def inT (t:Tr AO):List (Nat × AO)→Bool
 | []=>true
 | q::l=>match t.get q.1 with
  | some o=>bif qfy q.2 o then inT t l else false
  | none=>false
theorem qct {t:Tr AO}:∀ {l:List (Nat × AO)} {i:Nat} {o:AO},inT t l=true→(hL l).get i=some o→t.get i=some o
 | [],_,_,_,h=>by simp[hL,Tr.get] at h
 | q::l,i,o,hs,h=>by
  unfold inT at hs
  split at hs
  ·rename_i o' ho
   cases hb:qfy q.2 o' with
   | false=>rw[hb] at hs;cases hs
   | true =>
    rw[hb,cond_true] at hs
    have e:=qo8 hb
    unfold hL at h
    rw[Tr.get_set] at h
    by_cases hi:i=q.1
    ·rw[if_pos hi] at h
     cases h
     rw[hi,ho,e]
    ·rw[if_neg hi] at h
     exact qct hs h
  ·cases hs
theorem Sim.sub {w0 w:World} {E:Em} {l:List (Nat × AO)} {s1:St} (h:Sim w0 E s1 w) (hs:inT s1.h l=true):Sim w0 E { h:=hL l,nx:=s1.nx } w :=
 ⟨fun id o ho=>h.obj id o (qct hs ho),fun id id' o o' p p' h1 h2=>h.inj id id' o o' p p' (qct hs h1) (qct hs h2),fun id p hp=>h.fresh id p hp,h.below⟩
structure Cut where
 f:FuncId
 args:List AV
 l:List (Nat × AO)
 nx:Nat
 v:AV
 l':List (Nat × AO)
 nx':Nat
def Cut.out (c:Cut) (args:List AV) (s:St):Option (AV × St):=bif Y3 c.args args&&(Nat.beq c.nx s.nx&&inT s.h c.l) then some (c.v,{ h:=hL c.l',nx:=c.nx' }) else none
def Cut.fin (c:Cut) (v:AV) (s:St):Bool:=beqA v c.v&&(Nat.beq c.nx' s.nx&&inT s.h c.l')
def Prims.cut (pr:Prims) (c:Cut):Prims:={ ext:=pr.ext,fn:=fun h args s=>match (bif Nat.beq h c.f then c.out args s else none) with|some r=>some r|none=>pr.fn h args s }
end Go.AX
namespace Go.AX
open Go.RowKit
variable {P:Program} {e:Env} {pr:Prims}
def qu9 (r:Tasks) (rd:Option Nat) (v:AV) (x y:Code) (a:Ac) (s:St) (k:AE→Ac→St→Bool):Bool:=match v with
 | .raw (.bool b)=>r.code rd (bif b then x else y) a s k
 | _=>false
theorem qvn {r:Tasks} {rd:Option Nat} {b:Bool} {x y:Code} {a:Ac} {s:St} {k:AE→Ac→St→Bool}:qu9 r rd (.raw (.bool b)) x y a s k=r.code rd (bif b then x else y) a s k:=(rfl)
inductive One (e:Env) (pr:Prims) (P:Program) (rd:Option Nat):Code→Ac→St→(AE→Ac→St→Bool)→Prop
 | seq {x y:Code} {a:Ac} {s:St} {k:AE→Ac→St→Bool} (h:(sem P).code rd x a s (qx0 (sem P) rd y k)=true):One e pr P rd (.seq x y) a s k
 | region {i:Nat} {ops:List Oper} {a:Ac} {s:St} {k:AE→Ac→St→Bool} (h:VC e pr (sem P) rd ops ops a s k=true):One e pr P rd (.region i ops.toArray false) a s k
 | cond {c:Operand} {x y:Code} {a:Ac} {s:St} {k:AE→Ac→St→Bool} (h:qu9 (sem P) rd (a.eval c) x y a s k=true):One e pr P rd (.cond c x y) a s k
 | block {i:Nat} {c:Code} {a:Ac} {s:St} {k:AE→Ac→St→Bool} (h:(sem P).code rd c a s (XK i k)=true):One e pr P rd (.block i c) a s k
 | skip {a:Ac} {s:St} {k:AE→Ac→St→Bool} (h:k .normal a s=true):One e pr P rd .skip a s k
 | ret {a:Ac} {s:St} {k:AE→Ac→St→Bool} (h:k .ret a s=true):One e pr P rd .ret a s k
 | exit {i:Nat} {a:Ac} {s:St} {k:AE→Ac→St→Bool} (h:k (.exit i) a s=true):One e pr P rd (.exit i) a s k
 | label {i:Nat} {a:Ac} {s:St} {k:AE→Ac→St→Bool} (h:k .normal a s=true):One e pr P rd (.label i) a s k
 | scope {c:Code} {a:Ac} {s:St} {k:AE→Ac→St→Bool} (h:(sem P).code rd c a s (qbe k)=true):One e pr P rd (.scope c) a s k
theorem q9 (H:Ok e P pr) {rd:Option Nat} {c:Code} {a:Ac} {s:St} {k:AE→Ac→St→Bool} (h:One e pr P rd c a s k):(sem P).code rd c a s k=true:=by
 cases h with
 | seq h=>exact q6x H h
 | region h=>exact qr3 H h
 | cond h =>
  unfold qu9 at h
  split at h
  ·rename_i b hb
   exact qzb H b hb h
  ·cases h
 | block h=>exact qt3 H h
 | skip h=>exact qzj H h
 | ret h=>exact q4u H h
 | exit h=>exact qyw H h
 | label h=>exact qu6 H h
 | scope h=>exact qt2 H h
end Go.AX
namespace Go.AX
open Go.RowKit
variable {P:Program} {e:Env} {pr:Prims} {r:Tasks} {rd:Option Nat} {a:Ac} {s:St}
abbrev DK:=AE→Ac→Option (AV × Bool)→St→Bool
def doK (pn:Option (AV × Bool)) (k:DK):AE→Ac→St→Bool:=fun ex a' s'=>k ex a' pn s'
def qv6 (e:Env) (r:Tasks) (n:Nat) (y:Code) (k:DK):DK:=fun ex a' pn' s'=>match ex with
 | .normal=>ZT e r n y a' pn' s' k
 | ex=>k ex a' pn' s'
def q2q (e:Env) (all l:List Oper) (pn:Option (AV × Bool)) (k:DK):Ac→St→Bool:=fun a' s'=>Jp e all l a' s' (fun a'' s''=>k .normal a'' pn s'')
section
variable {k:DK} {pn:Option (AV × Bool)} {n:Nat}
theorem q67 {ex:AE}:doK pn k ex a s=k ex a pn s:=(rfl)
theorem qsn {y:Code}:qv6 e r n y k .normal a pn s=ZT e r n y a pn s k:=(rfl)
theorem qsj {y:Code}:qv6 e r n y k .ret a pn s=k .ret a pn s:=(rfl)
theorem qsz {x y:Code}:ZT e r (n+1) (.seq x y) a pn s k=ZT e r n x a pn s (qv6 e r n y k):=(rfl)
def qwd (e:Env) (r:Tasks) (n:Nat) (v:AV) (x y:Code) (a:Ac) (pn:Option (AV × Bool)) (s:St) (k:DK):Bool:=match v with
 | .raw (.bool b)=>ZT e r n (bif b then x else y) a pn s k
 | _=>false
theorem qn6 {c:Operand} {x y:Code}:ZT e r (n+1) (.cond c x y) a pn s k=qwd e r n (a.eval c) x y a pn s k:=by
 simp only[ZT,qwd]
 rfl
theorem qa2 {b:Bool} {x y:Code}:qwd e r n (.raw (.bool b)) x y a pn s k=ZT e r n (bif b then x else y) a pn s k:=(rfl)
theorem qsh:ZT e r (n+1) .ret a pn s k=r.code none .ret a s (doK pn k):=(rfl)
theorem qo5:ZT e r (n+1) .skip a pn s k=r.code none .skip a s (doK pn k):=(rfl)
theorem qm8 {i:Nat} {o:Oper} {l:List Oper} (h:Je o.op=false):ZT e r (n+1) (.region i (o::l).toArray false) a pn s k=r.code none (.region i (o::l).toArray false) a s (doK pn k):=by
 simp only[ZT,h,cond_false]
 rfl
theorem q1f {i:Nat} {dst:Option Tmp} {x:Operand} {ty:TypeId} {pos:String} {after:Array Edge} {g:Option (Nat × Bool)} {l:List Oper}:ZT e r (n+1) (.region i (⟨dst,.move x,ty,pos,after,g⟩::l).toArray false) a pn s k=r.code none (.region i (⟨dst,.move x,ty,pos,after,g⟩::l).toArray false) a s (doK pn k):=qm8 rfl
theorem q0z {i:Nat} {dst:Option Tmp} {ty:TypeId} {pos:String} {after:Array Edge} {l:List Oper} {args:Array Operand} {tys:Array TypeId} {v:AV}:ZT e r (n+1) (.region i (⟨dst,.call { callee:=.builtin .recover,args:=args,argTypes:=tys },ty,pos,after,none⟩::l).toArray false) a (some (v,false)) s k =
  Q2 a dst v s (q2q e (⟨dst,.call { callee:=.builtin .recover,args:=args,argTypes:=tys },ty,pos,after,none⟩::l) l (some (v,true)) k):=(rfl)
theorem qun {i:Nat} {dst:Option Tmp} {ty:TypeId} {pos:String} {after:Array Edge} {l:List Oper} {args:Array Operand} {tys:Array TypeId}:ZT e r (n+1) (.region i (⟨dst,.call { callee:=.builtin .recover,args:=args,argTypes:=tys },ty,pos,after,none⟩::l).toArray false) a none s k =
  Q2 a dst (.raw .nilIface) s (q2q e (⟨dst,.call { callee:=.builtin .recover,args:=args,argTypes:=tys },ty,pos,after,none⟩::l) l none k):=(rfl)
theorem qfm {all:List Oper}:q2q e all [] pn k a s=k .normal a pn s:=(rfl)
theorem VJ {all l:List Oper} {dst:Option Tmp} {x:Operand} {ty:TypeId} {pos:String} {after:Array Edge}:q2q e all (⟨dst,.assign x,ty,pos,after,none⟩::l) pn k a s=Q2 a dst (a.eval x) s (q2q e all l pn k):=(rfl)
end
def Kw (e:Env) (r:Tasks) (fn gf:Func) (a:Ac) (kr kp:AV→St→Bool) (ds:List AD):DK:=fun ex a' pn' s' =>
 match a'.d,q7 e gf a' s' with
 | [],some _ =>
  match ex with
  | .normal=>zG e r fn a kr kp ds (ZC pn') s'
  | .ret=>zG e r fn a kr kp ds (ZC pn') s'
  | _=>false
 | _,_=>false
theorem VY {fn gf:Func} {kr kp:AV→St→Bool} {g:FuncId} {args:List AV} {ds:List AD} {pn:Option AV} {c:Code} (m:Nat) (h:e.fn.get g=some gf) (hb:gf.body=some c) (hm:Nat.max gf.ntmps args.length=m) :
  zG e r fn a kr kp (.call g args::ds) pn s=ZT e r 100 c ⟨QH .e 0 args,m,[]⟩ (pn.map (·,false)) s (Kw e r fn gf a kr kp ds):=by
 subst hm
 simp only[zG,h,hb]
 rfl
theorem qe3 {fn gf:Func} {kr kp:AV→St→Bool} {ds:List AD} {pn:Option (AV × Bool)} {t:Tr AV} {m:Nat} {v:AV} (h:q7 e gf ⟨t,m,[]⟩ s=some v):Kw e r fn gf a kr kp ds .normal ⟨t,m,[]⟩ pn s=zG e r fn a kr kp ds (ZC pn) s:=by
 simp only[Kw,h]
theorem qs3 {fn gf:Func} {kr kp:AV→St→Bool} {ds:List AD} {pn:Option (AV × Bool)} {t:Tr AV} {m:Nat} {v:AV} (h:q7 e gf ⟨t,m,[]⟩ s=some v):Kw e r fn gf a kr kp ds .ret ⟨t,m,[]⟩ pn s=zG e r fn a kr kp ds (ZC pn) s:=by
 simp only[Kw,h]
def qo4 (v:AV) (args:List AV) (t:Tr AV) (m:Nat) (ds:List AD) (dst:Option Tmp) (s:St) (k:Ac→St→Bool):Bool:=match v with
 | .fn g cap=>Q2 ⟨t,m,.call g (args++cap)::ds⟩ dst Qc s k
 | _=>false
theorem YX {f:Operand} {args:List Operand} {tys:Array TypeId} {t:Tr AV} {m:Nat} {ds:List AD} {dst:Option Tmp} {ty:TypeId} {pos:String} {after:Array Edge} {k:Ac→St→Bool} {kp:AV→St→Bool} :
  Z1 e pr r none ⟨dst,.defer { callee:=.value f,args:=args.toArray,argTypes:=tys },ty,pos,after,none⟩ ⟨t,m,ds⟩ s k kp=qo4 (Ac.eval ⟨t,m,ds⟩ f) (args.map (Ac.eval ⟨t,m,ds⟩)) t m ds dst s k:=by
 simp only[Z1,qo4]
 cases Ac.eval ⟨t,m,ds⟩ f <;> rfl
theorem QY {g:FuncId} {cap args:List AV} {t:Tr AV} {m:Nat} {ds:List AD} {dst:Option Tmp} {k:Ac→St→Bool}:qo4 (.fn g cap) args t m ds dst s k=Q2 ⟨t,m,.call g (args++cap)::ds⟩ dst Qc s k:=(rfl)
end Go.AX
namespace Go.AX
open Go.RowKit
def rB:=(And.intro (And.intro (And.intro (And.intro (And.intro (And.intro (And.intro @in1 @in0) (And.intro @q14 (And.intro @qzo @qxv))) (And.intro (And.intro @qzq @qud) (And.intro @qv5 (And.intro @qwv @qwu)))) (And.intro (And.intro (And.intro @qtq @qfk) (And.intro @ql1 (And.intro @qkd @qgw))) (And.intro (And.intro @qho @qq5) (And.intro @qo2 (And.intro @qkp @WL))))) (And.intro (And.intro (And.intro (And.intro @qg2 @qbz) (And.intro @qfo (And.intro @qdf @qla))) (And.intro (And.intro @qgk @qfu) (And.intro @qco (And.intro @qjx @qd5)))) (And.intro (And.intro (And.intro @qty @qbv) (And.intro @q48 (And.intro @q46 @q6d))) (And.intro (And.intro @q5r @qtn) (And.intro @qxc (And.intro @qyg @qw8)))))) (And.intro (And.intro (And.intro (And.intro (And.intro @qxe @qlm) (And.intro @q4n (And.intro @q5u @q4e))) (And.intro (And.intro @q4t @qrv) (And.intro @qxg (And.intro @qyr @q12)))) (And.intro (And.intro (And.intro @qqd @qng) (And.intro @qm2 (And.intro @qmw @qod))) (And.intro (And.intro @qlg @q0j) (And.intro @qtp (And.intro @qyo @qqs))))) (And.intro (And.intro (And.intro (And.intro @qw3 @qrj) (And.intro @qkl (And.intro @qwh @qgp))) (And.intro (And.intro @qwo @qgd) (And.intro @qxt (And.intro @qq2 @qdi)))) (And.intro (And.intro (And.intro @qj6 @WC) (And.intro @q2j (And.intro @q6h @qw1))) (And.intro (And.intro @q4c (And.intro @qdp @qu4)) (And.intro @qo7 (And.intro @qhi @qg9))))))) (And.intro (And.intro (And.intro (And.intro (And.intro (And.intro @qqw @qpr) (And.intro @q19 (And.intro @qp9 @q4i))) (And.intro (And.intro @q3w @q3x) (And.intro @q5k (And.intro @q23 @qji)))) (And.intro (And.intro (And.intro @q07 @qvn) (And.intro @Kb (And.intro @qr9 @que))) (And.intro (And.intro @q4k @qp7) (And.intro @qor (And.intro @qci @in_o))))) (And.intro (And.intro (And.intro (And.intro @qre @qyh) (And.intro @q2e (And.intro @q5n @nx0))) (And.intro (And.intro @qcq @WN) (And.intro @WW (And.intro @WP @qem)))) (And.intro (And.intro (And.intro @qn5 @qgy) (And.intro @qou (And.intro @KZ @qdh))) (And.intro (And.intro @qfl (And.intro @qez @qbr)) (And.intro @quk (And.intro @qoi @qw9)))))) (And.intro (And.intro (And.intro (And.intro (And.intro @q6v @q4v) (And.intro @qkq (And.intro @q5w @c_fn))) (And.intro (And.intro @qlz @qow) (And.intro @qnf (And.intro @qk1 @qwc)))) (And.intro (And.intro (And.intro @qva @qv2) (And.intro @qwi (And.intro @qmg @qyp))) (And.intro (And.intro @qrh @qlt) (And.intro @qy1 (And.intro @q3t @quy))))) (And.intro (And.intro (And.intro (And.intro @q6r @quo) (And.intro @qq9 (And.intro @zf @ne_eq.{1}))) (And.intro (And.intro @not_false_eq_true @List.map_nil.{0,0}) (And.intro @List.map_cons.{0,0} (And.intro @Option.map_none.{0,0} @Option.map_some.{0,0})))) (And.intro (And.intro (And.intro @cond_true.{1} @cond_false.{1}) (And.intro @List.append_nil.{0} (And.intro @List.nil_append.{0} @List.cons_append.{0}))) (And.intro (And.intro @Nat.lt_add_one (And.intro @List.getElem?_cons_zero.{0} @List.getElem?_cons_succ.{0})) (And.intro @Bool.not_true (And.intro @Bool.not_false @Bool.and_true))))))))
def rP:=(And.intro (And.intro (And.intro (And.intro (And.intro @qyb (And.intro @q6n @q3d)) (And.intro (And.intro @q4l @qvu) (And.intro @qv0 @qt0))) (And.intro (And.intro (And.intro @qus @q28) (And.intro @q2w @q03)) (And.intro (And.intro @qvq @qra) (And.intro @qmt @qtt)))) (And.intro (And.intro (And.intro (And.intro @ql0 @qwe) (And.intro @qga @quh)) (And.intro (And.intro @qrc @qpo) (And.intro @qfh @qr4))) (And.intro (And.intro (And.intro @qf4 @qr6) (And.intro @qot @qcm)) (And.intro (And.intro @qgb @qni) (And.intro @q52 @qyz))))) (And.intro (And.intro (And.intro (And.intro (And.intro @qwj @qy3) (And.intro @q2o @qyk)) (And.intro (And.intro @q49 @q04) (And.intro @qwl @q17))) (And.intro (And.intro (And.intro @qv9 @qmj) (And.intro @qp6 @qox)) (And.intro (And.intro @qht @qnc) (And.intro @qxq @qvx)))) (And.intro (And.intro (And.intro (And.intro @quu @qh7) (And.intro @q2h @q16)) (And.intro (And.intro @qpw @q24) (And.intro @quj @q11))) (And.intro (And.intro (And.intro @qvg @q32) (And.intro @Bool.or_true @Bool.true_or)) (And.intro (And.intro @Bool.or_false @Bool.false_or) (And.intro @Bool.true_and @Bool.and_self))))))
end Go.AX
