import Derived.Test.YtkcbaokljkalcaaGreatBy2A2
import Derived.IntWalk
set_option linter.unusedVariables false
set_option linter.unusedSimpArgs false
set_option linter.defProp false
namespace Go.AX
open Go.RowKit
variable {P:Program} {e:Env} {pr:Prims} {r:Tasks} {rd:Option Nat} {a:Ac} {s:St}
def q2j (P:Program) (rd:Option Nat) (c:Code) (a:Ac) (s:St) (k:AE→Ac→St→Bool):Prop :=
 ∀ (RD:Option Nat) (w0 w:World) (E:Em) (A:Act) (Q:Exit→Act→World→Prop),RdRel E rd RD→FRel E a A→Sim w0 E s w→KOk w0 E k Q →
  c.wpIn (FW RD) 0 P Q A w∧(∀ c',c=.loop c'→LoopOk (FW RD) P c' Q A w)
def q1k (P:Program) (f:FuncId) (args:List AV) (s:St) (kr kp:AV→St→Bool):Prop :=
 ∀ (w0 w:World) (E:Em) (Args:List Value) (R Rp:Value→World→Prop),VRels E args Args→Sim w0 E s w→POk w0 E kr R→POk w0 E kp Rp →
  Qy P f∧CallsIn (FW none) 0 P f Args.toArray w (QF R Rp)
noncomputable def sem (P:Program):Tasks:={
 code:=fun rd c a s k=>@decide (q2j P rd c a s k) (Classical.propDecidable _)
 call:=fun f args s kr kp=>@decide (q1k P f args s kr kp) (Classical.propDecidable _) }
theorem sem_code {c:Code} {k:AE→Ac→St→Bool}:(sem P).code rd c a s k=true↔q2j P rd c a s k:=by
 show @decide _ (Classical.propDecidable _)=true↔_
 exact @decide_eq_true_iff _ (Classical.propDecidable _)
theorem sem_call {f:FuncId} {args:List AV} {kr kp:AV→St→Bool}:(sem P).call f args s kr kp=true↔q1k P f args s kr kp:=by
 show @decide _ (Classical.propDecidable _)=true↔_
 exact @decide_eq_true_iff _ (Classical.propDecidable _)
theorem sem_sound:Sound P (sem P):={
 code:=fun h h1 h2 h3 h4=>(sem_code.1 h _ _ _ _ _ _ h1 h2 h3 h4).1
 loop:=fun h h1 h2 h3 h4=>(sem_code.1 h _ _ _ _ _ _ h1 h2 h3 h4).2 _ rfl
 call:=fun h h1 h2 h3 h4=>sem_call.1 h _ _ _ _ _ _ h1 h2 h3 h4 }
theorem ZL (hr:Sound P r) {c:Code} {k:AE→Ac→St→Bool} (h:r.code rd c a s k=true):(sem P).code rd c a s k=true:=by
 refine sem_code.2 fun RD w0 w E A Q h1 h2 h3 h4=>⟨hr.code h h1 h2 h3 h4,fun c' hc=>?_⟩
 subst hc
 exact hr.loop h h1 h2 h3 h4
theorem ZS (hr:Sound P r) {f:FuncId} {args:List AV} {kr kp:AV→St→Bool} (h:r.call f args s kr kp=true):(sem P).call f args s kr kp=true :=
 sem_call.2 fun _ _ _ _ _ _ h1 h2 h3 h4=>hr.call h h1 h2 h3 h4
structure Ok (e:Env) (P:Program) (pr:Prims):Prop where
 prog:ProgOk e P
 prims:PrimsOk P pr
theorem Ok.code (H:Ok e P pr) {c:Code} {k:AE→Ac→St→Bool} (h:(step e pr (sem P)).code rd c a s k=true):(sem P).code rd c a s k=true :=
 ZL (Y9 H.prog H.prims sem_sound) h
theorem Ok.call (H:Ok e P pr) {f:FuncId} {args:List AV} {kr kp:AV→St→Bool} (h:(step e pr (sem P)).call f args s kr kp=true):(sem P).call f args s kr kp=true :=
 ZS (Y9 H.prog H.prims sem_sound) h
theorem Ok.run (H:Ok e P pr) {n:Nat} {f:FuncId} {args:List AV} {kr kp:AV→St→Bool} (h:(ev e pr n).call f args s kr kp=true):(sem P).call f args s kr kp=true :=
 ZS (qif H.prog H.prims n) h
def qy5 (r:Tasks) (rd:Option Nat) (y:Code) (k:AE→Ac→St→Bool):AE→Ac→St→Bool:=fun ex a' s'=>match ex with
 | .normal=>r.code rd y a' s' k
 | ex=>k ex a' s'
def Xh (id:Nat) (k:AE→Ac→St→Bool):AE→Ac→St→Bool:=fun ex a' s'=>match ex with
 | .exit id'=>bif Nat.beq id' id then k .normal a' s' else k (.exit id') a' s'
 | ex=>k ex a' s'
def qay (k:AE→Ac→St→Bool):AE→Ac→St→Bool:=fun ex a' s'=>match ex with
 | .goto _=>false
 | ex=>k ex a' s'
def qkp (r:Tasks) (rd:Option Nat) (c:Code) (k:AE→Ac→St→Bool):AE→Ac→St→Bool:=fun ex a' s'=>match ex with
 | .normal=>r.code rd (.loop c) a' s' k
 | ex=>k ex a' s'
def qrz (e:Env) (r:Tasks) (fn:Func) (kr kp:AV→St→Bool):AE→Ac→St→Bool:=fun ex a' s'=>match ex with
 | .normal=>zw e r fn a' kr kp a'.d none s'
 | .ret=>zw e r fn a' kr kp a'.d none s'
 | .panic v=>zw e r fn a' kr kp a'.d (some v) s'
 | _=>false
def q4t (e:Env) (pr:Prims) (r:Tasks) (rd:Option Nat) (all l:List Oper) (k:AE→Ac→St→Bool):Ac→St→Bool:=fun a' s'=>V7 e pr r rd all l a' s' k
def q7t (a:Ac) (k:AE→Ac→St→Bool):AV→St→Bool:=fun v s'=>k (.panic v) a s'
def qzd (a:Ac) (dst:Option Tmp) (k:Ac→St→Bool):AV→St→Bool:=fun v s'=>zN a dst v s' k
section
variable {k:AE→Ac→St→Bool}
theorem qp (H:Ok e P pr) {f:FuncId} {args:List AV} {kr kp:AV→St→Bool} {fn:Func} {c:Code} (m:Nat) (h:e.fn.get f=some fn) (hb:fn.body=some c) (hm:Nat.max fn.ntmps args.length=m)
  (hc:(sem P).code none c { t:=Qn .e 0 args,n:=m,d:=[] } s (qrz e (sem P) fn kr kp)=true):(sem P).call f args s kr kp=true:=by
 refine H.call ?_
 subst hm
 simp only[step,h,hb]
 exact hc
theorem q62 (H:Ok e P pr) {x y:Code} (h:(sem P).code rd x a s (qy5 (sem P) rd y k)=true):(sem P).code rd (.seq x y) a s k=true:=H.code h
theorem qz0 (H:Ok e P pr) (h:k .normal a s=true):(sem P).code rd .skip a s k=true:=H.code h
theorem q5s (H:Ok e P pr) (h:k .ret a s=true):(sem P).code rd .ret a s k=true:=H.code h
theorem q1q (H:Ok e P pr) {i:Nat} (h:k (.exit i) a s=true):(sem P).code rd (.exit i) a s k=true:=H.code h
theorem qyh (H:Ok e P pr) {i:Nat} (h:k .normal a s=true):(sem P).code rd (.label i) a s k=true:=H.code h
theorem qxm (H:Ok e P pr) {i:Nat} {c:Code} (h:(sem P).code rd c a s (Xh i k)=true):(sem P).code rd (.block i c) a s k=true:=H.code h
theorem qv5 (H:Ok e P pr) {c:Code} (h:(sem P).code rd c a s (qay k)=true):(sem P).code rd (.scope c) a s k=true:=H.code h
theorem qfp (H:Ok e P pr) {c:Code} (h:(sem P).code rd c a s (qkp (sem P) rd c k)=true):(sem P).code rd (.loop c) a s k=true:=H.code h
theorem q2w (H:Ok e P pr) {c:Operand} {x y:Code} (b:Bool) (hb:a.eval c=.raw (.bool b)) (h:(sem P).code rd (bif b then x else y) a s k=true):(sem P).code rd (.cond c x y) a s k=true:=by
 refine H.code ?_
 simp only[step,hb]
 exact h
theorem qs2 (H:Ok e P pr) {i:Nat} {ops:List Oper} (h:V7 e pr (sem P) rd ops ops a s k=true):(sem P).code rd (.region i ops.toArray false) a s k=true:=by
 refine H.code ?_
 simp only[step]
 exact h
theorem q8i (H:Ok e P pr) {i:Nat} {ops:List Oper} (hs:VM ops=true) (h:Vm e pr (sem P) rd ops.toArray ops.length (Array.replicate ops.length false) [] a s (fun a' s'=>k .normal a' s') (fun v a' s'=>k (.panic v) { a' with t:=Yl a'.t ops } s')=true) :
  (sem P).code rd (.region i ops.toArray true) a s k=true:=by
 refine H.code ?_
 simp only[step,hs,cond_true]
 exact h
end
end Go.AX
namespace Go.AX
open Go.RowKit
variable {P:Program} {e:Env} {pr:Prims} {r:Tasks} {rd:Option Nat} {a:Ac} {s:St}
def tg (t:Tr AV) (i:Nat):AV:=match t.get i with|some v=>v|none=>zY
theorem qvg {t:Tr AV} {i:Nat} {v:AV}:tg (t.set i v) i=v:=by simp[tg,Tr.get_set]
theorem q7v {t:Tr AV} {i j:Nat} {v:AV} (h:i≠j):tg (t.set j v) i=tg t i:=by simp[tg,Tr.get_set,h]
theorem qzg {t:Tr AV} {m:Nat} {ds:List AD} {i:Nat}:Ac.eval ⟨t,m,ds⟩ (.tmp i)=tg t i:=(rfl)
theorem q0b {k:IntKind} {i:Int}:a.eval (.const (.int k i))=.raw (.int k i):=(rfl)
theorem qw3 {b:Bool}:a.eval (.const (.bool b))=.raw (.bool b):=(rfl)
theorem q0i {d:Array UInt8}:a.eval (.const (.string ⟨d⟩))=.str (d.toList.map UInt8.toNat):=(rfl)
theorem qyv:a.eval (.const (.pointer none))=.raw (.pointer none):=(rfl)
theorem qu8:a.eval (.const .nilFunc)=.raw .nilFunc:=(rfl)
theorem qxs {n c:Nat}:a.eval (.const (.slice none n c))=.raw (.slice none n c):=(rfl)
theorem qxo {f:FuncId}:a.eval (.func f)=.fn f []:=(rfl)
theorem in0 {t:Tr AV} {i:Nat}:Qn t i []=t:=(rfl)
theorem in1 {t:Tr AV} {i:Nat} {v:AV} {vs:List AV}:Qn t i (v::vs)=Qn (t.set i v) (i+1) vs:=(rfl)
section
variable {k:AE→Ac→St→Bool}
theorem qd2 {y:Code}:qy5 r rd y k .normal a s=r.code rd y a s k:=(rfl)
theorem qmg {y:Code}:qy5 r rd y k .ret a s=k .ret a s:=(rfl)
theorem qj7 {i:Nat} {y:Code}:qy5 r rd y k (.exit i) a s=k (.exit i) a s:=(rfl)
theorem qhy {v:AV} {y:Code}:qy5 r rd y k (.panic v) a s=k (.panic v) a s:=(rfl)
theorem qg7:qay k .normal a s=k .normal a s:=(rfl)
theorem qrk:qay k .ret a s=k .ret a s:=(rfl)
theorem qnf {i:Nat}:qay k (.exit i) a s=k (.exit i) a s:=(rfl)
theorem qkr {v:AV}:qay k (.panic v) a s=k (.panic v) a s:=(rfl)
theorem Wn {i:Nat}:Xh i k .normal a s=k .normal a s:=(rfl)
theorem qgp {i:Nat}:Xh i k .ret a s=k .ret a s:=(rfl)
theorem qbi {i:Nat} {v:AV}:Xh i k (.panic v) a s=k (.panic v) a s:=(rfl)
theorem qfu {i:Nat}:Xh i k (.exit i) a s=k .normal a s:=by simp[Xh]
theorem qkb {i j:Nat} (h:j≠i):Xh i k (.exit j) a s=k (.exit j) a s:=by
 have:Nat.beq j i=false:=by
  cases hb:Nat.beq j i with
  | false=>rfl
  | true=>exact absurd (Nat.eq_of_beq_eq_true hb) h
 simp[Xh,this]
theorem qa9 {c:Code}:qkp r rd c k .normal a s=r.code rd (.loop c) a s k:=(rfl)
theorem qk1 {c:Code}:qkp r rd c k .ret a s=k .ret a s:=(rfl)
theorem qgt {c:Code} {i:Nat}:qkp r rd c k (.exit i) a s=k (.exit i) a s:=(rfl)
theorem qd7 {c:Code} {v:AV}:qkp r rd c k (.panic v) a s=k (.panic v) a s:=(rfl)
theorem qba {fn:Func} {kr kp:AV→St→Bool}:qrz e r fn kr kp .normal a s=zw e r fn a kr kp a.d none s:=(rfl)
theorem qjv {fn:Func} {kr kp:AV→St→Bool}:qrz e r fn kr kp .ret a s=zw e r fn a kr kp a.d none s:=(rfl)
theorem qel {fn:Func} {v:AV} {kr kp:AV→St→Bool}:qrz e r fn kr kp (.panic v) a s=zw e r fn a kr kp a.d (some v) s:=(rfl)
theorem quu {fn:Func} {kr kp:AV→St→Bool}:zw e r fn a kr kp [] none s=match q7 e fn a s with
  | some v=>kr v s
  | none=>false:=(rfl)
theorem qb6 {fn:Func} {kr kp:AV→St→Bool} {v:AV}:zw e r fn a kr kp [] (some v) s=kp v s:=(rfl)
theorem q8c {all l:List Oper}:q4t e pr r rd all l k a s=V7 e pr r rd all l a s k:=(rfl)
theorem q8w {dst:Option Tmp} {k:Ac→St→Bool} {v:AV}:qzd a dst k v s=zN a dst v s k:=(rfl)
theorem q48 {v:AV}:q7t a k v s=k (.panic v) a s:=(rfl)
theorem q8v {all:List Oper}:V7 e pr r rd all [] a s k=k .normal a s:=(rfl)
theorem qwn {all l:List Oper} {dst:Option Tmp} {op:Op} {ty:TypeId} {pos:String} {after:Array Edge}:V7 e pr r rd all (⟨dst,op,ty,pos,after,none⟩::l) a s k =
  QC e pr r rd ⟨dst,op,ty,pos,after,none⟩ a s (q4t e pr r rd all l k) (q7t a k):=(rfl)
theorem qxu {all l:List Oper} {dst:Option Tmp} {op:Op} {ty:TypeId} {pos:String} {after:Array Edge} {j:Nat} {b:Bool}:V7 e pr r rd all (⟨dst,op,ty,pos,after,some (j,b)⟩::l) a s k =
  match Qd all a ⟨dst,op,ty,pos,after,some (j,b)⟩ with
  | some true=>QC e pr r rd ⟨dst,op,ty,pos,after,none⟩ a s (q4t e pr r rd all l k) (q7t a k)
  | some false=>zN a dst zY s (q4t e pr r rd all l k)
  | none=>false:=(rfl)
end
def gd:List Oper→Nat→Option Tmp
 | [],_=>none
 | o::_,0=>o.dst
 | _::l,j+1=>gd l j
theorem qvl {l:List Oper} {dst:Option Tmp} {op:Op} {ty:TypeId} {pos:String} {after:Array Edge} {g:Option (Nat × Bool)}:gd (⟨dst,op,ty,pos,after,g⟩::l) 0=dst:=(rfl)
theorem qvz {l:List Oper} {o:Oper} {j:Nat}:gd (o::l) (j+1)=gd l j:=(rfl)
theorem qtp:∀ (l:List Oper) (j:Nat),gd l j=match l[j]? with|some o=>o.dst|none=>none
 | [],_=>rfl
 | _::_,0=>rfl
 | o::l,j+1=>by simpa [gd] using qtp l j
def gx (want:Bool):Option AV→Option Bool
 | some (.raw (.bool b))=>some (b==want)
 | some (.raw (.tuple _))=>some false
 | _=>none
theorem q5f:gx true (some (.raw (.bool true)))=some true:=(rfl)
theorem q8s:gx true (some (.raw (.bool false)))=some false:=(rfl)
theorem q5w:gx false (some (.raw (.bool true)))=some false:=(rfl)
theorem q5d:gx false (some (.raw (.bool false)))=some true:=(rfl)
theorem qrc {b:Bool}:gx b (some zY)=some false:=(rfl)
def gw (want:Bool) (d:Option Tmp) (t:Tr AV):Option Bool:=match d with
 | some d=>gx want (t.get d)
 | none=>none
theorem qno {b:Bool} {d:Tmp} {t:Tr AV}:gw b (some d) t=gx b (t.get d):=(rfl)
theorem qu3 {t:Tr AV} {i:Nat} {v:AV}:(t.set i v).get i=some v:=by simp[Tr.get_set]
theorem q7r {t:Tr AV} {i j:Nat} {v:AV} (h:i≠j):(t.set j v).get i=t.get i:=by simp[Tr.get_set,h]
theorem q0a {all:List Oper} {dst:Option Tmp} {op:Op} {ty:TypeId} {pos:String} {after:Array Edge} {t:Tr AV} {m:Nat} {ds:List AD} {j:Nat} {b:Bool} :
  Qd all ⟨t,m,ds⟩ ⟨dst,op,ty,pos,after,some (j,b)⟩=gw b (gd all j) t:=by
 rw[qtp]
 unfold Qd
 simp only
 cases hj:all[j]? with
 | none=>rfl
 | some o =>
  simp only
  cases ho:o.dst with
  | none=>rfl
  | some d =>
   simp only[qno]
   cases ht:t.get d with
   | none=>rfl
   | some v =>
    cases v with
    | raw w=>cases w <;> rfl
    | _=>rfl
section
variable {dst:Option Tmp} {ty:TypeId} {pos:String} {after:Array Edge} {k:Ac→St→Bool} {kp:AV→St→Bool}
theorem q6r {d:Tmp} {v:AV} {t:Tr AV} {m:Nat} {ds:List AD} (h:d < m):zN ⟨t,m,ds⟩ (some d) v s k=k ⟨t.set d v,m,ds⟩ s:=by
 have:Nat.blt d m=true:=Nat.blt_eq.mpr h
 simp only[zN,Ac.put,this,cond_true]
theorem qzq {v:AV} {t:Tr AV} {m:Nat} {ds:List AD}:zN ⟨t,m,ds⟩ none v s k=k ⟨t,m,ds⟩ s:=(rfl)
theorem q10 {x:Operand}:QC e pr r rd ⟨dst,.move x,ty,pos,after,none⟩ a s k kp=zN a dst (a.eval x) s k:=(rfl)
theorem qsf {x:Operand}:QC e pr r rd ⟨dst,.assign x,ty,pos,after,none⟩ a s k kp=zN a dst (a.eval x) s k:=(rfl)
def qcc (o:Option AV) (d:Bool) (a:Ac) (dst:Option Tmp) (s:St) (k:Ac→St→Bool):Bool:=match o with
 | some v=>zN a dst v s k
 | none=>d
theorem qo3 {v:AV} {d:Bool}:qcc (some v) d a dst s k=zN a dst v s k:=(rfl)
def qwv (ids:List Nat) (o:Option AV) (d:Bool) (a:Ac) (dst:Option Tmp) (s:St) (k:Ac→St→Bool):Bool:=match o with
 | some v=>bif QB s ids then zN a dst v s k else false
 | none=>d
theorem qlr {ids:List Nat} {v:AV} {d:Bool} (h:QB s ids=true):qwv ids (some v) d a dst s k=zN a dst v s k:=by simp[qwv,h]
def qlj (o:Option (AV × St)) (a:Ac) (dst:Option Tmp) (k:Ac→St→Bool):Bool:=match o with
 | some (v,s')=>zN a dst v s' k
 | none=>false
theorem qph {v:AV} {s':St}:qlj (some (v,s')) a dst k=zN a dst v s' k:=(rfl)
theorem Qz {o:Oper} {v:AV} {ids:List Nat} (h:zp e a s o=some (v,ids)):zA e o a s k=bif QB s ids then zN a o.dst v s k else false:=by
 simp only[zA,h]
theorem Zf {o:Oper} (h:zp e a s o=none):zA e o a s k=qlj (qbq e a s o) a o.dst k:=by
 simp only[zA,h,qlj]
 split <;> simp_all
theorem zr {o:Oper} {x:Option AV} (h:zp e a s o=zx x) (h':qbq e a s o=none):zA e o a s k=qcc x false a o.dst s k:=by
 cases x with
 | some v=>rw[Qz h];rfl
 | none=>rw[Zf h,h'];rfl
theorem Ve {o:Oper} {ids:List Nat} {x:Option AV} (h:zp e a s o=Ko ids x) (h':qbq e a s o=none):zA e o a s k=qwv ids x false a o.dst s k:=by
 cases x with
 | some v=>rw[Qz h];rfl
 | none=>rw[Zf h,h'];rfl
def qmc (c x y:AV):Option AV:=match c with | .raw (.bool b)=>some (bif b then x else y)|_=>none
theorem qk5 {b:Bool} {x y:AV}:qmc (.raw (.bool b)) x y=some (bif b then x else y):=(rfl)
theorem q4i {c x y:Operand}:QC e pr r rd ⟨dst,.pick c x y,ty,pos,after,none⟩ a s k kp=qcc (qmc (a.eval c) (a.eval x) (a.eval y)) false a dst s k:=by
 refine zr (o:=⟨dst,.pick c x y,ty,pos,after,none⟩) ?_ rfl
 simp only[zp,qmc]
 cases h:a.eval c with
 | raw v=>cases v <;> rfl
 | _=>rfl
theorem quj {t:TypeId} {parts:List (Nat × Operand)}:QC e pr r rd ⟨dst,.build t parts.toArray,ty,pos,after,none⟩ a s k kp=qcc (Qb e t (parts.map fun q=>(q.1,a.eval q.2))) false a dst s k :=
 zr (o:=⟨dst,.build t parts.toArray,ty,pos,after,none⟩) rfl rfl
theorem qy8 {t:TypeId} {x:Operand}:QC e pr r rd ⟨dst,.load t x,ty,pos,after,none⟩ a s k kp=qwv (QG (a.eval x)) (Q3 e s t (a.eval x)) false a dst s k :=
 Ve (o:=⟨dst,.load t x,ty,pos,after,none⟩) rfl rfl
def q3x:AV→Option AV
 | .ptr id off=>some (.ptr id off)
 | .fn f c=>some (.fn f c)
 | .yld l=>some (.yld l)
 | .iface t v=>some (.iface t v)
 | _=>none
theorem qV {i j:Nat}:q3x (.ptr i j)=some (.ptr i j):=(rfl)
theorem qup {f:FuncId} {c:List AV}:q3x (.fn f c)=some (.fn f c):=(rfl)
theorem qsr {i:Nat}:q3x (.yld i)=some (.yld i):=(rfl)
theorem qkh {x:Operand}:QC e pr r rd ⟨dst,.nilCheck x,ty,pos,after,none⟩ a s k kp=qcc (q3x (a.eval x)) false a dst s k:=by
 refine zr (o:=⟨dst,.nilCheck x,ty,pos,after,none⟩) ?_ rfl
 simp only[zp]
 cases h:a.eval x <;> rfl
theorem qyp {t:TypeId} {x:Operand} {lo hi mx:Option Operand}:QC e pr r rd ⟨dst,.slice t x lo hi mx,ty,pos,after,none⟩ a s k kp=qcc (qF e t (a.eval x) (lo.map a.eval) (hi.map a.eval) (mx.map a.eval)) false a dst s k :=
 zr (o:=⟨dst,.slice t x lo hi mx,ty,pos,after,none⟩) rfl rfl
theorem qhv {t:TypeId} {x:Operand} {f:Nat}:QC e pr r rd ⟨dst,.fieldAddr t x f,ty,pos,after,none⟩ a s k kp=qcc (qk e t (a.eval x) f) false a dst s k :=
 zr (o:=⟨dst,.fieldAddr t x f,ty,pos,after,none⟩) rfl rfl
theorem qx4 {t:TypeId} {x:Operand} {f:Nat}:QC e pr r rd ⟨dst,.field t x f,ty,pos,after,none⟩ a s k kp=qcc (qam e t (a.eval x) f) false a dst s k :=
 zr (o:=⟨dst,.field t x f,ty,pos,after,none⟩) rfl rfl
theorem qhp {t:TypeId} {x i:Operand}:QC e pr r rd ⟨dst,.indexAddr t x i,ty,pos,after,none⟩ a s k kp=qcc (qL e t (a.eval x) (a.eval i)) false a dst s k :=
 zr (o:=⟨dst,.indexAddr t x i,ty,pos,after,none⟩) rfl rfl
theorem qva {t:TypeId} {x i:Operand}:QC e pr r rd ⟨dst,.index t x i,ty,pos,after,none⟩ a s k kp=qcc (Xg e t (a.eval x) (a.eval i)) false a dst s k :=
 zr (o:=⟨dst,.index t x i,ty,pos,after,none⟩) rfl rfl
theorem qqc {t:TypeId} {x i:Operand} {b:Bool}:QC e pr r rd ⟨dst,.lookup t x i b,ty,pos,after,none⟩ a s k kp=qwv (QG (a.eval x)) (Qt e s t (a.eval x) (a.eval i) b) false a dst s k :=
 Ve (o:=⟨dst,.lookup t x i b,ty,pos,after,none⟩) rfl rfl
theorem qet {x:Operand} {t t':TypeId} {b:Bool}:QC e pr r rd ⟨dst,.typeAssert x t' t b,ty,pos,after,none⟩ a s k kp=qcc (Vi e (a.eval x) t b) false a dst s k :=
 zr (o:=⟨dst,.typeAssert x t' t b,ty,pos,after,none⟩) rfl rfl
theorem qks {f:FuncId} {cap:List Operand}:QC e pr r rd ⟨dst,.makeFunc (.func f) #[] cap.toArray,ty,pos,after,none⟩ a s k kp=zN a dst (.fn f (cap.map a.eval)) s k:=(rfl)
def qgb (e:Env) (t:TypeId) (v:AV):Option AV:=match e.info t with
 | some ti=>bif Wb ti.desc then none else some (.iface t v)
 | none=>none
theorem KR {t:TypeId} {x:Operand}:QC e pr r rd ⟨dst,.makeInterface t x,ty,pos,after,none⟩ a s k kp=qcc (qgb e t (a.eval x)) false a dst s k:=by
 refine zr (o:=⟨dst,.makeInterface t x,ty,pos,after,none⟩) ?_ rfl
 simp only[zp,qgb]
 cases e.info t with
 | none=>rfl
 | some ti=>cases h:Wb ti.desc <;> simp only[h,cond_true,cond_false,zx]
def VI (x:Option (AV × List Nat)):Option AV:=match x with|some (v,_)=>some v|none=>none
theorem Vo {o:Oper} {x:AV × List Nat} (h:qt e a o=some x):x.2=[]:=by
 unfold qt at h
 cases hc:(o.op.operands.toList.all (fun x=>(zu (a.eval x)).isSome)) with
 | false=>rw[hc] at h;cases h
 | true =>
  rw[hc] at h
  simp only[cond_true] at h
  split at h
  ·cases h;rfl
  ·cases h
theorem V5 {o:Oper} (h:zp e a s o=qt e a o) (h':qbq e a s o=none):zA e o a s k=qcc (VI (qt e a o)) false a o.dst s k:=by
 cases hx:qt e a o with
 | none=>rw[hx] at h;rw[Zf h,h'];rfl
 | some x =>
  obtain⟨v,ids⟩:=x
  have:=Vo hx
  simp only at this
  subst this
  rw[hx] at h
  rw[Qz h];rfl
theorem q2e {u:UnOp} {t:TypeId} {x:Operand}:QC e pr r rd ⟨dst,.unOp u t x,ty,pos,after,none⟩ a s k kp=qcc (VI (qt e a ⟨dst,.unOp u t x,ty,pos,after,none⟩)) false a dst s k :=
 V5 (o:=⟨dst,.unOp u t x,ty,pos,after,none⟩) rfl rfl
def exK (e:Env) (v:AV) (i:Nat) (o:Oper) (a:Ac) (dst:Option Tmp) (s:St) (k:Ac→St→Bool):Bool:=match v with
 | .tuple vs=>qcc vs[i]? false a dst s k
 | _=>zA e o a s k
theorem qmx {vs:List AV} {i:Nat} {o:Oper}:exK e (.tuple vs) i o a dst s k=qcc vs[i]? false a dst s k:=(rfl)
theorem ql9 {x:Operand} {i:Nat}:QC e pr r rd ⟨dst,.extract x i,ty,pos,after,none⟩ a s k kp=exK e (a.eval x) i ⟨dst,.extract x i,ty,pos,after,none⟩ a dst s k:=by
 cases h:a.eval x with
 | tuple vs =>
  refine zr (o:=⟨dst,.extract x i,ty,pos,after,none⟩) ?_ rfl
  simp only[zp,h]
 | _=>rfl
def eqS (e:Env) (s:St) (op:BinOp) (t:TypeId) (x y:AV) (d:Option (AV × List Nat)):Option (AV × List Nat):=match op with
   | .eql=>match e.info t with
    | some ti=>match eqA ti.desc x y with
     | some b=>some (q8 b,[])
     | none=>match eqP e s ti.desc x y with
      | some (b,ids)=>some (q8 b,ids)
      | none=>match eqG e t ti.desc x y with
       | some b=>some (q8 b,[])
       | none=>d
    | none=>none
   | .neq=>match e.info t with
    | some ti=>match eqA ti.desc x y with
     | some b=>some (q8 !b,[])
     | none=>match eqP e s ti.desc x y with
      | some (b,ids)=>some (q8 !b,ids)
      | none=>match eqG e t ti.desc x y with
       | some b=>some (q8 !b,[])
       | none=>d
    | none=>none
   | _=>d
def q4q (x:Option AV) (y:Option (AV × List Nat)) (a:Ac) (dst:Option Tmp) (s:St) (k:Ac→St→Bool):Bool:=match x with
 | some v=>zN a dst v s k
 | none=>match y with
  | some (v,ids)=>bif QB s ids then zN a dst v s k else false
  | none=>false
theorem qpr {v:AV} {y:Option (AV × List Nat)}:q4q (some v) y a dst s k=zN a dst v s k:=(rfl)
theorem qmr {v:AV} {ids:List Nat} (h:QB s ids=true):q4q none (some (v,ids)) a dst s k=zN a dst v s k:=by simp[q4q,h]
theorem q5k {op:BinOp} {t t':TypeId} {x y:Operand}:QC e pr r rd ⟨dst,.binOp op t x y t',ty,pos,after,none⟩ a s k kp =
  q4q (qE op (a.eval x) (a.eval y)) (eqS e s op t (a.eval x) (a.eval y) (qt e a ⟨dst,.binOp op t x y t',ty,pos,after,none⟩)) a dst s k:=by
 have hA:qbq e a s ⟨dst,.binOp op t x y t',ty,pos,after,none⟩=none:=(rfl)
 show zA e ⟨dst,.binOp op t x y t',ty,pos,after,none⟩ a s k=_
 cases h:qE op (a.eval x) (a.eval y) with
 | some v =>
  have:zp e a s ⟨dst,.binOp op t x y t',ty,pos,after,none⟩=some (v,[]):=by simp only[zp,h]
  rw[Qz this];rfl
 | none =>
  have:zp e a s ⟨dst,.binOp op t x y t',ty,pos,after,none⟩=eqS e s op t (a.eval x) (a.eval y) (qt e a ⟨dst,.binOp op t x y t',ty,pos,after,none⟩):=by
   simp only[zp,h,eqS]
   cases op <;> rfl
  cases hx:eqS e s op t (a.eval x) (a.eval y) (qt e a ⟨dst,.binOp op t x y t',ty,pos,after,none⟩) with
  | none=>rw[hx] at this;rw[Zf this,hA];rfl
  | some z=>obtain⟨v,ids⟩:=z;rw[hx] at this;rw[Qz this];rfl
theorem Q0 {o:Oper} (h:zp e a s o=none):zA e o a s k=qlj (qbq e a s o) a o.dst k:=Zf h
def Z5 (e:Env) (s:St) (t:TypeId):Option (AV × St):=match zt e t with
  | some z=>some (.ptr s.nx 0,s.alloc (.cells z.cells t 0))
  | none=>none
theorem qui {t:TypeId}:QC e pr r rd ⟨dst,.alloc t,ty,pos,after,none⟩ a s k kp=qlj (Z5 e s t) a dst k:=Q0 (o:=⟨dst,.alloc t,ty,pos,after,none⟩) rfl
theorem q5e {t:TypeId} {x:Operand}:QC e pr r rd ⟨dst,.box t x,ty,pos,after,none⟩ a s k kp=zN a dst (.ptr s.nx 0) (s.alloc (.cells (a.eval x).cells t 0)) k:=Q0 (e:=e) (o:=⟨dst,.box t x,ty,pos,after,none⟩) rfl
theorem qdv {t:TypeId} {len:Nat} {parts:List (Nat × Operand)}:QC e pr r rd ⟨dst,.buildSlice t len parts.toArray,ty,pos,after,none⟩ a s k kp=qlj (zq e s t len (parts.map fun q=>(q.1,a.eval q.2))) a dst k :=
 Q0 (o:=⟨dst,.buildSlice t len parts.toArray,ty,pos,after,none⟩) rfl
def qyz (o:Option St) (a:Ac) (dst:Option Tmp) (k:Ac→St→Bool):Bool:=match o with
 | some s'=>zN a dst zY s' k
 | none=>false
theorem qo6 {s':St}:qyz (some s') a dst k=zN a dst zY s' k:=(rfl)
theorem Jt {o:Option St}:qlj (Kg o) a dst k=qyz o a dst k:=by cases o <;> rfl
theorem qyx {t:TypeId} {x v:Operand}:QC e pr r rd ⟨dst,.store t x v,ty,pos,after,none⟩ a s k kp=qyz (Qu e s t (a.eval x) (a.eval v)) a dst k :=
 (Q0 (o:=⟨dst,.store t x v,ty,pos,after,none⟩) rfl).trans Jt
theorem qmn {t:TypeId}:QC e pr r rd ⟨dst,.makeMap t none,ty,pos,after,none⟩ a s k kp=zN a dst (.map s.nx) (s.alloc (.map [])) k:=Q0 (e:=e) (o:=⟨dst,.makeMap t none,ty,pos,after,none⟩) rfl
theorem qgv {t:TypeId} {l c:Operand}:QC e pr r rd ⟨dst,.makeSlice t l c,ty,pos,after,none⟩ a s k kp=qlj (Js e s t (a.eval l) (a.eval c)) a dst k :=
 Q0 (o:=⟨dst,.makeSlice t l c,ty,pos,after,none⟩) rfl
theorem qhe {t:TypeId} {m x v:Operand}:QC e pr r rd ⟨dst,.mapUpdate t m x v,ty,pos,after,none⟩ a s k kp=qyz (za e s t (a.eval m) (a.eval x) (a.eval v)) a dst k :=
 (Q0 (o:=⟨dst,.mapUpdate t m x v,ty,pos,after,none⟩) rfl).trans Jt
theorem qp2 {t:TypeId} {m x v:Operand}:QC e pr r rd ⟨dst,.insert t m x v,ty,pos,after,none⟩ a s k kp=qyz (za e s t (a.eval m) (a.eval x) (a.eval v)) a dst k :=
 (Q0 (o:=⟨dst,.insert t m x v,ty,pos,after,none⟩) rfl).trans Jt
theorem qss {args:List Operand} {tys:List TypeId}:QC e pr r rd ⟨dst,.call { callee:=.builtin .append,args:=args.toArray,argTypes:=tys.toArray },ty,pos,after,none⟩ a s k kp=qlj (zO e s tys (args.map a.eval)) a dst k :=
 Q0 (o:=⟨dst,.call { callee:=.builtin .append,args:=args.toArray,argTypes:=tys.toArray },ty,pos,after,none⟩) rfl
theorem q4c {args:List Operand} {tys:List TypeId}:QC e pr r rd ⟨dst,.call { callee:=.builtin .copy,args:=args.toArray,argTypes:=tys.toArray },ty,pos,after,none⟩ a s k kp=qlj (qr7 e s tys (args.map a.eval)) a dst k :=
 Q0 (o:=⟨dst,.call { callee:=.builtin .copy,args:=args.toArray,argTypes:=tys.toArray },ty,pos,after,none⟩) rfl
theorem qre {args:List Operand} {tys:List TypeId}:QC e pr r rd ⟨dst,.call { callee:=.builtin .delete,args:=args.toArray,argTypes:=tys.toArray },ty,pos,after,none⟩ a s k kp=qyz (QU e s tys (args.map a.eval)) a dst k :=
 (Q0 (o:=⟨dst,.call { callee:=.builtin .delete,args:=args.toArray,argTypes:=tys.toArray },ty,pos,after,none⟩) rfl).trans Jt
theorem q6z {x:Operand} {t:TypeId}:QC e pr r rd ⟨dst,.call { callee:=.builtin .len,args:=#[x],argTypes:=#[t] },ty,pos,after,none⟩ a s k kp=qwv (QG (a.eval x)) (Q5 e s [t] [a.eval x]) false a dst s k :=
 Ve (o:=⟨dst,.call { callee:=.builtin .len,args:=#[x],argTypes:=#[t] },ty,pos,after,none⟩) rfl rfl
theorem q54 {args:List Operand} {tys:List TypeId}:QC e pr r rd ⟨dst,.call { callee:=.builtin .cap,args:=args.toArray,argTypes:=tys.toArray },ty,pos,after,none⟩ a s k kp=qcc (qfl e tys (args.map a.eval)) false a dst s k :=
 zr (o:=⟨dst,.call { callee:=.builtin .cap,args:=args.toArray,argTypes:=tys.toArray },ty,pos,after,none⟩) rfl rfl
theorem q6k {args:Array Operand} {tys:Array TypeId}:QC e pr r rd ⟨dst,.call { callee:=.builtin .min,args:=args,argTypes:=tys },ty,pos,after,none⟩ a s k kp=qcc (VI (qt e a ⟨dst,.call { callee:=.builtin .min,args:=args,argTypes:=tys },ty,pos,after,none⟩)) false a dst s k :=
 V5 (o:=⟨dst,.call { callee:=.builtin .min,args:=args,argTypes:=tys },ty,pos,after,none⟩) rfl rfl
theorem q8a {args:Array Operand} {tys:Array TypeId}:QC e pr r rd ⟨dst,.call { callee:=.builtin .max,args:=args,argTypes:=tys },ty,pos,after,none⟩ a s k kp=qcc (VI (qt e a ⟨dst,.call { callee:=.builtin .max,args:=args,argTypes:=tys },ty,pos,after,none⟩)) false a dst s k :=
 V5 (o:=⟨dst,.call { callee:=.builtin .max,args:=args,argTypes:=tys },ty,pos,after,none⟩) rfl rfl
def YN (pr:Prims) (r:Tasks) (f:AV) (args:List AV) (a:Ac) (dst:Option Tmp) (s:St) (k:Ac→St→Bool) (kp:AV→St→Bool):Bool:=match f with
 | .fn g cap =>
    match pr.ext g (args++cap) s with
    | some (v,s')=>zN a dst v s' k
    | none =>
     match pr.fn g (args++cap) s with
     | some (v,s')=>zN a dst v s' k
     | none=>r.call g (args++cap) s (qzd a dst k) kp
 | .yld id=>ZO r id args s (qzd a dst k)
 | _=>false
theorem q2q {f:Operand} {args:List Operand} {tys:Array TypeId}:QC e pr r rd ⟨dst,.call { callee:=.value f,args:=args.toArray,argTypes:=tys },ty,pos,after,none⟩ a s k kp =
  YN pr r (a.eval f) (args.map a.eval) a dst s k kp:=by
 simp only[QC,YN]
 cases a.eval f <;> rfl
theorem c_fn {g:FuncId} {cap args:List AV} (h1:pr.ext g (args++cap) s=none) (h2:pr.fn g (args++cap) s=none):YN pr r (.fn g cap) args a dst s k kp=r.call g (args++cap) s (qzd a dst k) kp:=by
 simp only[YN,h1,h2]
theorem Xm {g:FuncId} {cap args:List AV} {v:AV} {s':St} (h1:pr.ext g (args++cap) s=none) (h2:pr.fn g (args++cap) s=some (v,s')):YN pr r (.fn g cap) args a dst s k kp=zN a dst v s' k:=by
 simp only[YN,h1,h2]
theorem qzf {id:Nat} {args:List AV}:YN pr r (.yld id) args a dst s k kp=ZO r id args s (qzd a dst k):=(rfl)
def q6d (v:AV) (s:St) (kp:AV→St→Bool):Bool:=match v with
 | .iface t v=>kp (.iface t v) s
 | _=>false
theorem qjm {x:Operand}:QC e pr r rd ⟨dst,.panic x,ty,pos,after,none⟩ a s k kp=q6d (a.eval x) s kp:=by
 simp only[QC,q6d]
 cases a.eval x <;> rfl
theorem q1b {t:TypeId} {v:AV}:q6d (.iface t v) s kp=kp (.iface t v) s:=(rfl)
end
end Go.AX
namespace Go.AX
open Go.RowKit
variable {P:Program} {e:Env} {pr:Prims} {r:Tasks} {rd:Option Nat} {a:Ac} {s:St}
inductive Pl where
 | done
 | no
 | yes
 | take (i:Nat) (p:Pl)
 | alt (i:Nat) (deps:List Nat) (p q:Pl)
 deriving Inhabited
def JH (ops:Array Oper) (i:Nat):List Nat:=(List.range ops.size).filter (qcv ops 8 i)
def qvi (ops:Array Oper) (f:Nat→Pl):List Nat→Pl
 | []=>.yes
 | i::l=>.alt i (JH ops i) (f i) (qvi ops f l)
def qtw (e:Env) (ops:Array Oper):Nat→Array Bool→Pl
 | 0,listed=>match Region.ready .any ops listed with
  | []=>.done
  | _=>.no
 | f+1,listed=>match Region.ready .any ops listed with
  | []=>.done
  | i0::rs=>match Za e ops listed (i0::rs) with
   | some (i,_)=>.take i (qtw e ops f (listed.setIfInBounds i true))
   | none=>qvi ops (fun i=>qtw e ops f (listed.setIfInBounds i true)) (i0::rs)
def Y6 (deps:List Nat) (s s':St):List (Nat × List Nat)→Bool
 | []=>true
 | (i,ids)::l=>bif deps.contains i||ZH s s' ids then Y6 deps s s' l else false
def qli (deps:List Nat):List (Nat × List Nat)→List (Nat × List Nat)
 | []=>[]
 | (i,ids)::l=>bif deps.contains i then qli deps l else (i,ids)::qli deps l
def qyo (i:Nat) (ids:List Nat) (held:List (Nat × List Nat)):List (Nat × List Nat):=match ids with | []=>held|_::_=>(i,ids)::held
def qj3:List Oper→Nat→Option Oper
 | [],_=>none
 | o::_,0=>some o
 | _::l,i+1=>qj3 l i
theorem qcp:∀ (l:List Oper) (i:Nat),qj3 l i=l[i]?
 | [],_=>(rfl)
 | _::_,0=>(rfl)
 | o::l,i+1=>by simpa [qj3] using qcp l i
def qdm (e:Env) (pr:Prims) (r:Tasks) (rd:Option Nat) (all:List Oper):Pl→List (Nat × List Nat)→Ac→St→(Ac→St→Bool)→(AV→Ac→St→Bool)→Bool
 | .done,_,a,s,k,_=>k a s
 | .no,_,_,_,_,_=>false
 | .yes,_,_,_,_,_=>true
 | .take i p,held,a,s,k,kp=>match qj3 all i with
  | some o=>match Qd all a o with
   | some true=>match zp e a s o with
    | some (v,ids)=>bif QB s ids then zN a o.dst v s (fun a' s'=>qdm e pr r rd all p (qyo i ids held) a' s' k kp) else false
    | none=>false
   | some false=>zN a o.dst zY s (fun a' s'=>qdm e pr r rd all p held a' s' k kp)
   | none=>false
  | none=>false
 | .alt i deps p q,held,a,s,k,kp=>(match qj3 all i with
  | some o=>match Qd all a o with
   | some true=>QC e pr r rd o a s (fun a' s'=>bif Y6 deps s s' held then qdm e pr r rd all p (qli deps held) a' s' k kp else false) (fun v s'=>kp v a s')
   | some false=>zN a o.dst zY s (fun a' s'=>qdm e pr r rd all p held a' s' k kp)
   | none=>false
  | none=>false)&&qdm e pr r rd all q held a s k kp
theorem X0 {ops:Array Oper} {listed:Array Bool}:∀ {l:List Nat} {i:Nat} {o:Oper},Za e ops listed l=some (i,o)→ops[i]?=some o
 | [],_,_,h=>by simp[Za] at h
 | j::l,i,o,h=>by
  simp only[Za] at h
  split at h
  ·rename_i oj hj
   cases hc:(Jj e oj.op&&Region.free .any ops listed j) with
   | true=>rw[hc] at h;simp only[cond_true,Option.some.injEq,Prod.mk.injEq] at h;obtain⟨rfl,rfl⟩:=h;exact hj
   | false=>rw[hc] at h;exact X0 h
  ·exact X0 h
theorem zd {dst:Option Tmp} {v:AV} {k k':Ac→St→Bool} (h:zN a dst v s k=true) (hk:∀ a' s',k a' s'=true→k' a' s'=true):zN a dst v s k'=true:=by
 unfold zN at h ⊢
 split at h
 ·exact hk _ _ h
 ·cases h
theorem qio {ops:Array Oper} {i j:Nat} (h:(JH ops i).contains j=true):qcv ops 8 i j=true:=by
 unfold JH at h
 rw[List.contains_iff_mem] at h
 exact (List.mem_filter.1 h).2
theorem qkd {ops:Array Oper} {i:Nat} {s s':St}:∀ {h1 h2:List (Nat × List Nat)},(∀ x∈h2,x∈h1)→Y6 (JH ops i) s s' h1=true→YU ops i s s' h2=true:=by
 intro h1 h2
 have key:∀ {h1:List (Nat × List Nat)},Y6 (JH ops i) s s' h1=true→∀ x∈h1,(qcv ops 8 i x.1||ZH s s' x.2)=true:=by
  intro h1
  induction h1 with
  | nil=>intro _ x hx;cases hx
  | cons y l ih =>
   obtain⟨j,ids⟩:=y
   intro h x hx
   simp only[Y6] at h
   cases hc:((JH ops i).contains j||ZH s s' ids) with
   | false=>rw[hc] at h;cases h
   | true =>
    rw[hc] at h
    simp only[cond_true] at h
    rcases List.mem_cons.1 hx with rfl|hx
    ·rw[Bool.or_eq_true] at hc ⊢
     exact hc.imp qio id
    ·exact ih h x hx
 intro hsub h
 have hall:=key h
 clear h key
 induction h2 with
 | nil=>rfl
 | cons y l ih =>
  obtain⟨j,ids⟩:=y
  simp only[YU]
  rw[hall (j,ids) (hsub _ (by simp))]
  exact ih (fun x hx=>hsub x (by simp[hx]))
theorem qsm {ops:Array Oper} {i:Nat}:∀ {h1 h2:List (Nat × List Nat)},(∀ x∈h2,x∈h1)→∀ x∈VL ops i h2,x∈qli (JH ops i) h1:=by
 have k1:∀ (h1:List (Nat × List Nat)) x,x∈h1→qcv ops 8 i x.1=false→x∈qli (JH ops i) h1:=by
  intro h1
  induction h1 with
  | nil=>intro x hx;cases hx
  | cons y l ih =>
   obtain⟨j,ids⟩:=y
   intro x hx hd
   simp only[qli]
   cases hc:(JH ops i).contains j with
   | true =>
    simp only[cond_true]
    rcases List.mem_cons.1 hx with rfl|hx
    ·rw[qio hc] at hd;cases hd
    ·exact ih x hx hd
   | false =>
    simp only[cond_false]
    rcases List.mem_cons.1 hx with rfl|hx
    ·simp
    ·exact List.mem_cons_of_mem _ (ih x hx hd)
 have k2:∀ (h2:List (Nat × List Nat)) x,x∈VL ops i h2→x∈h2∧qcv ops 8 i x.1=false:=by
  intro h2
  induction h2 with
  | nil=>intro x hx;cases hx
  | cons y l ih =>
   obtain⟨j,ids⟩:=y
   intro x hx
   simp only[VL] at hx
   cases hc:qcv ops 8 i j with
   | true=>rw[hc] at hx;have:=ih x hx;exact⟨List.mem_cons_of_mem _ this.1,this.2⟩
   | false =>
    rw[hc] at hx
    simp only[cond_false] at hx
    rcases List.mem_cons.1 hx with rfl|hx
    ·exact⟨by simp,hc⟩
    ·have:=ih x hx;exact⟨List.mem_cons_of_mem _ this.1,this.2⟩
 intro h1 h2 hs x hx
 have:=k2 h2 x hx
 exact k1 h1 x (hs x this.1) this.2
theorem X8 {c:Code} {k k':AE→Ac→St→Bool} (h:(sem P).code rd c a s k=true) (hk:∀ ex a' s',k ex a' s'=true→k' ex a' s'=true):(sem P).code rd c a s k'=true :=
 sem_code.2 fun RD w0 w E A Q h1 h2 h3 h4=>sem_code.1 h RD w0 w E A Q h1 h2 h3 (fun E' ex a' s' X A' w' g1 g2 g3 g4 g5=>h4 E' ex a' s' X A' w' g1 g2 g3 g4 (hk _ _ _ g5))
theorem Kz {f:FuncId} {args:List AV} {kr kr' kp kp':AV→St→Bool} (h:(sem P).call f args s kr kp=true) (hk:∀ v s',kr v s'=true→kr' v s'=true) (hp:∀ v s',kp v s'=true→kp' v s'=true):(sem P).call f args s kr' kp'=true :=
 sem_call.2 fun w0 w E Args R Rp h1 h2 h3 h4=>sem_call.1 h w0 w E Args R Rp h1 h2 (fun E' v s' V w' g1 g2 g3 g4=>h3 E' v s' V w' g1 g2 g3 (hk _ _ g4)) (fun E' v s' V w' g1 g2 g3 g4=>h4 E' v s' V w' g1 g2 g3 (hp _ _ g4))
theorem Z3 {id:Nat} {j:Option Code} {b:Bool} {k k':AV→St→Bool} (h:qb2 s id j b k=true) (hk:∀ v s',k v s'=true→k' v s'=true):qb2 s id j b k'=true:=by
 unfold qb2 at h ⊢
 split at h
 ·exact hk _ _ h
 ·cases h
theorem qjw {id:Nat} {args:List AV} {k k':AV→St→Bool} (h:ZO (sem P) id args s k=true) (hk:∀ v s',k v s'=true→k' v s'=true):ZO (sem P) id args s k'=true:=by
 unfold ZO at h ⊢
 split at h
 ·split at h
  ·refine X8 h fun ex a1 s1 h1=>?_
   split at h1
   ·split at h1
    ·refine X8 h1 fun ex a2 s2 h2=>?_
     split at h2
     ·exact Z3 h2 hk
     ·exact Z3 h2 hk
     ·exact Z3 h2 hk
     ·exact Z3 h2 hk
     ·cases h2
    ·cases h1
   ·cases h1
  ·cases h
 ·cases h
theorem Jo {o:Oper} {k k':Ac→St→Bool} (h:zA e o a s k=true) (hk:∀ a' s',k a' s'=true→k' a' s'=true):zA e o a s k'=true:=by
 unfold zA at h ⊢
 split at h
 ·rename_i v ids _
  cases hi:QB s ids with
  | false=>rw[hi] at h;cases h
  | true=>rw[hi] at h;exact zd h hk
 ·split at h
  ·exact zd h hk
  ·cases h
theorem WN {s:St} {x:AV} {k k':AV→St→Bool} (h:Kk s x k=true) (hk:∀ v s',k v s'=true→k' v s'=true):Kk s x k'=true:=by
 unfold Kk at h ⊢
 split at h
 ·split at h
  ·split at h
   ·rename_i es it ix _
    cases hb:Nat.beq it _ with
    | false=>rw[hb] at h;cases h
    | true =>
     rw[hb] at h
     simp only[cond_true] at h ⊢
     split at h
     ·exact hk _ _ h
     ·exact List.all_eq_true.2 fun q hq=>hk _ _ (List.all_eq_true.1 h q hq)
   ·cases h
  ·cases h
 ·cases h
theorem qmu {o:Oper} {k k':Ac→St→Bool} {kp kp':AV→St→Bool} (h:QC e pr (sem P) rd o a s k kp=true) (hk:∀ a' s',k a' s'=true→k' a' s'=true) (hp:∀ v s',kp v s'=true→kp' v s'=true) :
  QC e pr (sem P) rd o a s k' kp'=true:=by
 unfold QC at h ⊢
 split at h
 ·split at h
  ·exact hp _ _ h
  ·cases h
 ·split at h
  ·split at h
   ·exact zd h hk
   ·cases h
  ·cases h
 ·split at h
  ·split at h
   ·split at h
    ·exact zd h hk
    ·split at h
     ·exact zd h hk
     ·exact Kz h (fun v s' hv=>zd hv hk) hp
   ·exact qjw h (fun v s' hv=>zd hv hk)
   ·cases h
  ·exact Jo h hk
 ·exact WN h (fun v s' hv=>zd hv hk)
 ·exact Jo h hk
theorem qk2 {ops:Array Oper} {k k':Ac→St→Bool} {kp kp':AV→Ac→St→Bool} (hk:∀ a' s',k a' s'=true→k' a' s'=true) (hp:∀ v a' s',kp v a' s'=true→kp' v a' s'=true) :
  ∀ (f:Nat) (listed:Array Bool) (h1 h2:List (Nat × List Nat)) (a:Ac) (s:St),(∀ x∈h2,x∈h1)→qdm e pr (sem P) rd ops.toList (qtw e ops f listed) h1 a s k kp=true→Vm e pr (sem P) rd ops f listed h2 a s k' kp'=true:=by
 intro f
 induction f with
 | zero =>
  intro listed h1 h2 a s hs h
  unfold qtw at h
  unfold Vm
  split
  ·rename_i hr;rw[hr] at h;exact hk _ _ h
  ·rename_i hr
   split at h
   ·rename_i hr';exact absurd hr' hr
   ·cases h
 | succ f ih =>
  intro listed h1 h2 a s hs h
  unfold qtw at h
  unfold Vm
  split
  ·rename_i hr;rw[hr] at h;exact hk _ _ h
  ·rename_i i0 rs hr
   rw[hr] at h
   simp only at h
   split
   ·rename_i i o hpk
    rw[hpk] at h
    have hat:qj3 ops.toList i=some o:=by rw[qcp];simpa using X0 hpk
    simp only[qdm,hat] at h
    split
    ·rename_i hw
     rw[hw] at h
     simp only at h
     split
     ·rename_i v ids hst
      rw[hst] at h
      simp only at h
      cases hi:QB s ids with
      | false=>rw[hi] at h;cases h
      | true =>
       rw[hi] at h
       simp only[cond_true] at h ⊢
       refine zd h fun a' s' h'=>ih _ _ _ _ _ ?_ h'
       intro x hx
       cases ids with
       | nil=>exact hs x hx
       | cons y l =>
        rcases List.mem_cons.1 hx with rfl|hx
        ·simp[qyo]
        ·simp only[qyo];exact List.mem_cons_of_mem _ (hs x hx)
     ·rename_i hst;rw[hst] at h;cases h
    ·rename_i hw
     rw[hw] at h
     exact zd h fun a' s' h'=>ih _ _ _ _ _ hs h'
    ·rename_i hw;rw[hw] at h;cases h
   ·rename_i hpk
    rw[hpk] at h
    simp only at h
    generalize i0::rs=L at h
    rw[List.all_eq_true]
    intro i hi
    induction L with
    | nil=>cases hi
    | cons j L ihL =>
     simp only[qvi,qdm,qcp,Array.getElem?_toList,Bool.and_eq_true] at h
     cases ho:ops[j]? with
     | none=>rw[ho] at h;cases h.1
     | some o =>
      rw[ho] at h
      simp only at h
      rcases List.mem_cons.1 hi with rfl|hi
      ·rw[ho]
       simp only
       have h:=h.1
       split
       ·rename_i hw
        rw[hw] at h
        simp only at h
        refine qmu h (fun a' s' h'=>?_) (fun v s' h'=>hp _ _ _ h')
        cases hst:Y6 (JH ops i) s s' h1 with
        | false=>rw[hst] at h';cases h'
        | true =>
         rw[hst] at h'
         simp only[cond_true] at h'
         rw[qkd hs hst]
         exact ih _ _ _ _ _ (qsm hs) h'
       ·rename_i hw
        rw[hw] at h
        exact zd h fun a' s' h'=>ih _ _ _ _ _ hs h'
       ·rename_i hw;rw[hw] at h;cases h
      ·exact ihL h.2 hi
def plK (e:Env) (pr:Prims) (r:Tasks) (rd:Option Nat) (all:List Oper) (p:Pl) (held:List (Nat × List Nat)) (k:AE→Ac→St→Bool):Ac→St→Bool:=fun a' s'=>qdm e pr r rd all p held a' s' (fun a' s'=>k .normal a' s') (fun v a' s'=>k (.panic v) { a' with t:=Yl a'.t all } s')
def q0r (e:Env) (pr:Prims) (r:Tasks) (rd:Option Nat) (all:List Oper) (deps:List Nat) (p:Pl) (s:St) (held:List (Nat × List Nat)) (k:AE→Ac→St→Bool):Ac→St→Bool:=fun a' s'=>bif Y6 deps s s' held then plK e pr r rd all p (qli deps held) k a' s' else false
def qsu (a:Ac) (all:List Oper) (k:AE→Ac→St→Bool):AV→St→Bool:=fun v s'=>k (.panic v) { a with t:=Yl a.t all } s'
theorem qy (H:Ok e P pr) {i:Nat} {ops:List Oper} {k:AE→Ac→St→Bool} (p:Pl) (hs:VM ops=true) (hp:qtw e ops.toArray ops.length (Array.replicate ops.length false)=p)
  (h:plK e pr (sem P) rd ops p [] k a s=true):(sem P).code rd (.region i ops.toArray true) a s k=true:=by
 refine q8i H hs ?_
 subst hp
 exact qk2 (fun _ _ h=>h) (fun _ _ _ h=>h) _ _ _ _ _ _ (fun _ hx=>hx) h
section
variable {all:List Oper} {held:List (Nat × List Nat)} {k:AE→Ac→St→Bool} {dst:Option Tmp} {op:Op} {ty:TypeId} {pos:String} {after:Array Edge} {i:Nat} {p q:Pl}
theorem q3v:plK e pr r rd all .done held k a s=k .normal a s:=(rfl)
theorem q79:plK e pr r rd all .yes held k a s=true:=(rfl)
def qg0 (e:Env) (pr:Prims) (r:Tasks) (rd:Option Nat) (all:List Oper) (x:Option (AV × List Nat)) (i:Nat) (held:List (Nat × List Nat)) (a:Ac) (dst:Option Tmp) (s:St) (p:Pl) (k:AE→Ac→St→Bool):Bool:=match x with
 | some (v,ids)=>bif QB s ids then zN a dst v s (plK e pr r rd all p (qyo i ids held) k) else false
 | none=>false
def qro (e:Env) (pr:Prims) (r:Tasks) (rd:Option Nat) (all:List Oper) (x:Option Oper) (i:Nat) (held:List (Nat × List Nat)) (a:Ac) (s:St) (p:Pl) (k:AE→Ac→St→Bool):Bool:=match x with
 | some o=>match Qd all a o with
  | some true=>qg0 e pr r rd all (zp e a s o) i held a o.dst s p k
  | some false=>zN a o.dst zY s (plK e pr r rd all p held k)
  | none=>false
 | none=>false
def q42 (e:Env) (pr:Prims) (r:Tasks) (rd:Option Nat) (all:List Oper) (x:Option Oper) (deps:List Nat) (held:List (Nat × List Nat)) (a:Ac) (s:St) (p:Pl) (k:AE→Ac→St→Bool):Bool:=match x with
 | some o=>match Qd all a o with
  | some true=>QC e pr r rd o a s (q0r e pr r rd all deps p s held k) (qsu a all k)
  | some false=>zN a o.dst zY s (plK e pr r rd all p held k)
  | none=>false
 | none=>false
theorem q3e:plK e pr r rd all (.take i p) held k a s=qro e pr r rd all (qj3 all i) i held a s p k:=by
 simp only[plK,qdm,qro]
 cases qj3 all i with
 | none=>(rfl)
 | some o =>
  simp only
  cases Qd all a o with
  | none=>(rfl)
  | some b=>cases b <;> (rfl)
theorem q6j {deps:List Nat}:plK e pr r rd all (.alt i deps p q) held k a s=(q42 e pr r rd all (qj3 all i) deps held a s p k&&plK e pr r rd all q held k a s):=by
 simp only[plK,qdm,q42]
 cases qj3 all i with
 | none=>(rfl)
 | some o =>
  simp only
  cases Qd all a o with
  | none=>(rfl)
  | some b=>cases b <;> (rfl)
theorem qw9 {o:Oper} {l:List Oper}:qj3 (o::l) 0=some o:=(rfl)
theorem qw2 {o:Oper} {l:List Oper} {j:Nat}:qj3 (o::l) (j+1)=qj3 l j:=(rfl)
theorem quz:qro e pr r rd all (some ⟨dst,op,ty,pos,after,none⟩) i held a s p k=qg0 e pr r rd all (zp e a s ⟨dst,op,ty,pos,after,none⟩) i held a dst s p k:=(rfl)
theorem qvt {g:Nat × Bool}:qro e pr r rd all (some ⟨dst,op,ty,pos,after,some g⟩) i held a s p k=match Qd all a ⟨dst,op,ty,pos,after,some g⟩ with
  | some true=>qg0 e pr r rd all (zp e a s ⟨dst,op,ty,pos,after,none⟩) i held a dst s p k
  | some false=>zN a dst zY s (plK e pr r rd all p held k)
  | none=>false:=(rfl)
theorem qzi {deps:List Nat}:q42 e pr r rd all (some ⟨dst,op,ty,pos,after,none⟩) deps held a s p k=QC e pr r rd ⟨dst,op,ty,pos,after,none⟩ a s (q0r e pr r rd all deps p s held k) (qsu a all k):=(rfl)
theorem q23 {deps:List Nat} {g:Nat × Bool}:q42 e pr r rd all (some ⟨dst,op,ty,pos,after,some g⟩) deps held a s p k=match Qd all a ⟨dst,op,ty,pos,after,some g⟩ with
  | some true=>QC e pr r rd ⟨dst,op,ty,pos,after,none⟩ a s (q0r e pr r rd all deps p s held k) (qsu a all k)
  | some false=>zN a dst zY s (plK e pr r rd all p held k)
  | none=>false:=(rfl)
theorem q53 {deps:List Nat} {s0:St} (h:Y6 deps s0 s held=true):q0r e pr r rd all deps p s0 held k a s=plK e pr r rd all p (qli deps held) k a s:=by simp[q0r,h]
theorem q15 {v:AV}:qsu a all k v s=k (.panic v) { a with t:=Yl a.t all } s:=(rfl)
theorem qxw {v:AV}:qg0 e pr r rd all (zx (some v)) i held a dst s p k=zN a dst v s (plK e pr r rd all p held k):=(rfl)
theorem q4o {ids:List Nat} {v:AV} (h:QB s ids=true):qg0 e pr r rd all (Ko ids (some v)) i held a dst s p k=zN a dst v s (plK e pr r rd all p (qyo i ids held) k):=by simp[qg0,Ko,h]
theorem qqd:qyo i [] held=held:=(rfl)
theorem qn3 {x:Nat} {l:List Nat}:qyo i (x::l) held=(i,x::l)::held:=(rfl)
theorem qwc {x:Operand}:zp e a s ⟨dst,.move x,ty,pos,after,none⟩=zx (some (a.eval x)):=(rfl)
theorem qnh {x:Operand}:zp e a s ⟨dst,.assign x,ty,pos,after,none⟩=zx (some (a.eval x)):=(rfl)
theorem qxd {t:TypeId} {x:Operand}:zp e a s ⟨dst,.load t x,ty,pos,after,none⟩=Ko (QG (a.eval x)) (Q3 e s t (a.eval x)):=(rfl)
theorem qhs {x:Operand}:zp e a s ⟨dst,.nilCheck x,ty,pos,after,none⟩=zx (q3x (a.eval x)):=by
 simp only[zp]
 cases a.eval x <;> rfl
theorem quy {c x y:Operand}:zp e a s ⟨dst,.pick c x y,ty,pos,after,none⟩=zx (qmc (a.eval c) (a.eval x) (a.eval y)):=by
 simp only[zp,qmc]
 cases h:a.eval c with
 | raw v=>cases v <;> rfl
 | _=>rfl
theorem qqg {t:TypeId} {parts:List (Nat × Operand)}:zp e a s ⟨dst,.build t parts.toArray,ty,pos,after,none⟩=zx (Qb e t (parts.map fun q=>(q.1,a.eval q.2))):=(rfl)
theorem qrl {t:TypeId} {x:Operand} {lo hi mx:Option Operand}:zp e a s ⟨dst,.slice t x lo hi mx,ty,pos,after,none⟩=zx (qF e t (a.eval x) (lo.map a.eval) (hi.map a.eval) (mx.map a.eval)):=(rfl)
theorem qem {t:TypeId} {x:Operand} {f:Nat}:zp e a s ⟨dst,.fieldAddr t x f,ty,pos,after,none⟩=zx (qk e t (a.eval x) f):=(rfl)
theorem qqw {t:TypeId} {x:Operand} {f:Nat}:zp e a s ⟨dst,.field t x f,ty,pos,after,none⟩=zx (qam e t (a.eval x) f):=(rfl)
theorem qfi {t:TypeId} {x j:Operand}:zp e a s ⟨dst,.indexAddr t x j,ty,pos,after,none⟩=zx (qL e t (a.eval x) (a.eval j)):=(rfl)
theorem qr5 {t:TypeId} {x j:Operand}:zp e a s ⟨dst,.index t x j,ty,pos,after,none⟩=zx (Xg e t (a.eval x) (a.eval j)):=(rfl)
theorem qn5 {t:TypeId} {x j:Operand} {b:Bool}:zp e a s ⟨dst,.lookup t x j b,ty,pos,after,none⟩=Ko (QG (a.eval x)) (Qt e s t (a.eval x) (a.eval j) b):=(rfl)
theorem qbn {x:Operand} {t t':TypeId} {b:Bool}:zp e a s ⟨dst,.typeAssert x t' t b,ty,pos,after,none⟩=zx (Vi e (a.eval x) t b):=(rfl)
theorem qga {f:FuncId} {cap:List Operand}:zp e a s ⟨dst,.makeFunc (.func f) #[] cap.toArray,ty,pos,after,none⟩=zx (some (.fn f (cap.map a.eval))):=(rfl)
theorem q2m {x:Operand} {t:TypeId}:zp e a s ⟨dst,.call { callee:=.builtin .len,args:=#[x],argTypes:=#[t] },ty,pos,after,none⟩=Ko (QG (a.eval x)) (Q5 e s [t] [a.eval x]):=(rfl)
def q75 (x:Option AV) (y:Option (AV × List Nat)):Option (AV × List Nat):=match x with
 | some v=>some (v,[])
 | none=>y
theorem q8n {v:AV} {y:Option (AV × List Nat)}:qg0 e pr r rd all (q75 (some v) y) i held a dst s p k=zN a dst v s (plK e pr r rd all p held k):=(rfl)
theorem qz3 {op:BinOp} {t t':TypeId} {x y:Operand}:zp e a s ⟨dst,.binOp op t x y t',ty,pos,after,none⟩ =
  q75 (qE op (a.eval x) (a.eval y)) (eqS e s op t (a.eval x) (a.eval y) (qt e a ⟨dst,.binOp op t x y t',ty,pos,after,none⟩)):=by
 simp only[zp,eqS,q75]
 cases qE op (a.eval x) (a.eval y) with
 | some v=>rfl
 | none=>cases op <;> rfl
theorem qbu {o:Oper}:qt e a o=zx (VI (qt e a o)):=by
 cases hx:qt e a o with
 | none=>rfl
 | some x=>obtain⟨v,ids⟩:=x;have:=Vo hx;simp only at this;subst this;rfl
theorem q3c {args:Array Operand} {tys:Array TypeId}:zp e a s ⟨dst,.call { callee:=.builtin .min,args:=args,argTypes:=tys },ty,pos,after,none⟩=zx (VI (qt e a ⟨dst,.call { callee:=.builtin .min,args:=args,argTypes:=tys },ty,pos,after,none⟩)):=qbu (o:=⟨dst,.call { callee:=.builtin .min,args:=args,argTypes:=tys },ty,pos,after,none⟩)
theorem qz1 {args:Array Operand} {tys:Array TypeId}:zp e a s ⟨dst,.call { callee:=.builtin .max,args:=args,argTypes:=tys },ty,pos,after,none⟩=zx (VI (qt e a ⟨dst,.call { callee:=.builtin .max,args:=args,argTypes:=tys },ty,pos,after,none⟩)):=qbu (o:=⟨dst,.call { callee:=.builtin .max,args:=args,argTypes:=tys },ty,pos,after,none⟩)
theorem qv2 {u:UnOp} {t:TypeId} {x:Operand}:zp e a s ⟨dst,.unOp u t x,ty,pos,after,none⟩=zx (VI (qt e a ⟨dst,.unOp u t x,ty,pos,after,none⟩)):=qbu (o:=⟨dst,.unOp u t x,ty,pos,after,none⟩)
def exP (v:AV) (i:Nat) (d:Option (AV × List Nat)):Option (AV × List Nat):=match v with
 | .tuple vs=>zx vs[i]?
 | _=>d
theorem qmj {vs:List AV} {j:Nat} {d:Option (AV × List Nat)}:exP (.tuple vs) j d=zx vs[j]?:=(rfl)
theorem qla {x:Operand} {j:Nat}:zp e a s ⟨dst,.extract x j,ty,pos,after,none⟩=exP (a.eval x) j (qt e a ⟨dst,.extract x j,ty,pos,after,none⟩):=by
 simp only[zp,exP]
 cases a.eval x <;> rfl
end
def ldC (s:St) (x o:Nat):Option AV:=match qY s x with
 | some (cs,_,_)=>cs[o]?
 | none=>match qp9 s x with
  | some cs=>cs[o]?
  | none=>none
def stC (s:St) (x o:Nat) (v:AV):Option St:=match qY s x with
 | some (cs,el,fz)=>match JW cs o [v] with
  | some cs'=>some { s with h:=s.h.set x (.cells cs' el fz) }
  | none=>none
 | none=>none
def q84 (e:Env) (t:TypeId):Bool:=match e.info t with|some ti=>Qv ti.desc|none=>true
def qez (e:Env) (t:TypeId):Nat:=match e.info t with|some ti=>ti.size|none=>0
theorem ZP {t x o:Nat} (h:q84 e t=false):Q3 e s t (.ptr x o)=ldC s x o:=by
 unfold q84 at h
 cases ht:e.info t with
 | none=>rw[ht] at h;cases h
 | some ti =>
  rw[ht] at h
  simp only at h
  simp only[Q3,ldC,ht]
  cases qY s x with
  | none =>
   cases qp9 s x with
   | none=>rfl
   | some cs=>simp[h]
  | some y=>obtain⟨cs,el,fz⟩:=y;simp[h]
theorem VC {t x o:Nat} {v:AV} (h:qez e t=1) (h1:v.cells=[v]) (h2:v.one=true):Qu e s t (.ptr x o) v=stC s x o v:=by
 unfold qez at h
 cases ht:e.info t with
 | none=>rw[ht] at h;cases h
 | some ti =>
  rw[ht] at h
  simp only at h
  simp only[Qu,stC,ht,h,h1,zj,List.length_cons,List.length_nil,List.all_cons,List.all_nil,h2]
  cases qY s x with
  | none=>rfl
  | some y=>obtain⟨cs,el,fz⟩:=y;rfl
theorem Zv {x el fz:Nat} {cs:List AV} (h:s.h.get x=some (.cells cs el fz)):qY s x=some (cs,el,fz):=by simp[qY,h]
theorem qa7 {k:IntKind} {z:Int}:(AV.raw (.int k z)).cells=[.raw (.int k z)]:=(rfl)
theorem Wl {b:Bool}:(AV.raw (.bool b)).cells=[.raw (.bool b)]:=(rfl)
theorem Wp:(AV.raw (.pointer none)).cells=[.raw (.pointer none)]:=(rfl)
theorem Wv {a b:Nat}:(AV.raw (.slice none a b)).cells=[.raw (.slice none a b)]:=(rfl)
theorem qdh {l:List Nat}:(AV.str l).cells=[.str l]:=(rfl)
theorem qmv {i j:Nat}:(AV.ptr i j).cells=[.ptr i j]:=(rfl)
theorem qg4 {i o l c k:Nat} {x:Bool}:(AV.slice i o l c k x).cells=[.slice i o l c k x]:=(rfl)
theorem qn7 {i:Nat}:(AV.map i).cells=[.map i]:=(rfl)
theorem qf {l:List AV}:(AV.agg l).cells=l:=(rfl)
theorem Kp {k:IntKind} {z:Int}:(AV.raw (.int k z)).one=true:=(rfl)
theorem qc0 {b:Bool}:(AV.raw (.bool b)).one=true:=(rfl)
theorem qcx:(AV.raw (.pointer none)).one=true:=(rfl)
theorem qc9 {a b:Nat}:(AV.raw (.slice none a b)).one=true:=(rfl)
theorem qb1 {l:List Nat}:(AV.str l).one=true:=(rfl)
theorem qvj {i j:Nat}:(AV.ptr i j).one=true:=(rfl)
theorem qnv {i o l c k:Nat} {x:Bool}:(AV.slice i o l c k x).one=true:=(rfl)
theorem qu6 {i:Nat}:(AV.map i).one=true:=(rfl)
theorem qvw {i j:Nat}:QG (.ptr i j)=[i]:=(rfl)
theorem qxt {i:Nat}:QG (.map i)=[i]:=(rfl)
theorem qvu {v:Value}:QG (.raw v)=[]:=(rfl)
theorem quw {l:List Nat}:QG (.str l)=[]:=(rfl)
theorem qma {i o l c k:Nat} {x:Bool}:QG (.slice i o l c k x)=[]:=(rfl)
theorem q13:QB s []=true:=(rfl)
theorem q72 {o:AO}:(s.alloc o).nx=s.nx+1:=(rfl)
theorem qu {o:AO}:(s.alloc o).h.get s.nx=some o:=by simp[St.alloc,Tr.get_set]
theorem zg {o:AO} {i:Nat} (h:i≠s.nx):(s.alloc o).h.get i=s.h.get i:=by simp[St.alloc,Tr.get_set,h]
theorem hs_same {h:Tr AO} {o:AO} {i:Nat}:(h.set i o).get i=some o:=by simp[Tr.get_set]
theorem qe {h:Tr AO} {o:AO} {i j:Nat} (hn:i≠j):(h.set j o).get i=h.get i:=by simp[Tr.get_set,hn]
theorem qsq {v:AV} {d:Bool} {dst:Option Tmp} {k:Ac→St→Bool}:qwv [] (some v) d a dst s k=zN a dst v s k:=(rfl)
theorem qB (H:Ok e P pr) {c:Code} {k:AE→Ac→St→Bool} {N:Nat} {ds:List AD} (J:Nat→Tr AV→St→Prop) {n:Nat} {t:Tr AV} (h0:J n t s)
  (hstep:∀ n t s,(∀ m t' s',m < n→J m t' s'→(sem P).code rd (.loop c) ⟨t',N,ds⟩ s' k=true)→J n t s→(sem P).code rd c ⟨t,N,ds⟩ s (qkp (sem P) rd c k)=true) :
  (sem P).code rd (.loop c) ⟨t,N,ds⟩ s k=true:=by
 have key:∀ n t s,J n t s→(sem P).code rd (.loop c) ⟨t,N,ds⟩ s k=true:=by
  intro n
  induction n using Nat.strongRecOn with
  | ind n ih=>exact fun t s hJ=>qfp H (hstep n t s (fun m t' s' hm hJ'=>ih m hm t' s' hJ') hJ)
 exact key n t s h0
def qc5 (r:Tasks) (a:Ac) (nx:Nat) (k:AE→Ac→St→Bool):AV→St→Bool:=fun _ s2 =>
 match s2.h.get (nx+1) with
 | some (.loop st pd fn t n ps as b dd) =>
  match st with
  | .busy=>false
  | _=>match pd with
   | none=>k .normal { a with d:=.mark nx::a.d } { s2 with h:=s2.h.set (nx+1) (.loop .exhausted pd fn t n ps as b dd) }
   | some j=>r.code none j { a with d:=.mark nx::a.d } { s2 with h:=s2.h.set (nx+1) (.loop .exhausted pd fn t n ps as b dd) } k
 | _=>false
def q7k:AV→St→Bool:=fun _ _=>false
theorem qut (H:Ok e P pr) {f:Operand} {ps:List Tmp} {as body:Code} {k:AE→Ac→St→Bool} (g:FuncId) (cap:List AV) (hf:a.eval f=.fn g cap)
  (h:(sem P).call g (.yld (s.nx+1)::cap) { h:=(s.h.set s.nx (.dfr false)).set (s.nx+1) (.loop .ready none 0 a.t a.n ps as body s.nx),nx:=s.nx+2 } (qc5 (sem P) a s.nx k) q7k=true) :
  (sem P).code none (.rangeFunc f ps.toArray as body) a s k=true:=by
 refine H.code ?_
 simp only[step,hf]
 exact h
theorem qci {nx:Nat} {k:AE→Ac→St→Bool} {v:AV} {fn:FuncId} {t:Tr AV} {n:Nat} {ps:List Tmp} {as b:Code} {dd:Nat} (h:s.h.get (nx+1)=some (.loop .ready none fn t n ps as b dd)) :
  qc5 r a nx k v s=k .normal { a with d:=.mark nx::a.d } { s with h:=s.h.set (nx+1) (.loop .exhausted none fn t n ps as b dd) }:=by
 simp only[qc5,h]
theorem qhm {nx:Nat} {k:AE→Ac→St→Bool} {v:AV} {fn:FuncId} {t:Tr AV} {n:Nat} {ps:List Tmp} {as b j:Code} {dd:Nat} (h:s.h.get (nx+1)=some (.loop .done (some j) fn t n ps as b dd)) :
  qc5 r a nx k v s=r.code none j { a with d:=.mark nx::a.d } { s with h:=s.h.set (nx+1) (.loop .exhausted (some j) fn t n ps as b dd) } k:=by
 simp only[qc5,h]
def asK (r:Tasks) (id:Nat) (body:Code) (k:AV→St→Bool):AE→Ac→St→Bool:=fun ex a1 s1 =>
 match ex with
 | .normal =>
  match s1.h.get id with
  | some (.loop .ready pd fn t n ps as b d) =>
   r.code (some id) body a1 { s1 with h:=s1.h.set id (.loop .busy pd fn t n ps as b d) } fun ex _ s2 =>
    match ex with
    | .normal=>qb2 s2 id none true k
    | .ret=>qb2 s2 id (some .ret) false k
    | .exit j=>qb2 s2 id (some (.exit j)) false k
    | .goto j=>qb2 s2 id (some (.goto j)) false k
    | .panic _=>false
  | _=>false
 | _=>false
def qmi (id:Nat) (k:AV→St→Bool):AE→Ac→St→Bool:=fun ex _ s2 =>
 match ex with
 | .normal=>qb2 s2 id none true k
 | .ret=>qb2 s2 id (some .ret) false k
 | .exit j=>qb2 s2 id (some (.exit j)) false k
 | .goto j=>qb2 s2 id (some (.goto j)) false k
 | .panic _=>false
theorem qwj {id:Nat} {args:List AV} {k:AV→St→Bool} {st:LoopState} {pd:Option Code} {fn:FuncId} {t t':Tr AV} {n:Nat} {ps:List Tmp} {as body:Code} {d:Nat} (hs:s.h.get id=some (.loop st pd fn t n ps as body d)) (ht:Z6 t n ps args=some t')
  (h:(sem P).code (some id) as ⟨t',n,[]⟩ s (asK (sem P) id body k)=true):ZO (sem P) id args s k=true:=by
 simp only[ZO,hs,ht]
 exact h
theorem Zg {id:Nat} {k:AV→St→Bool} {pd:Option Code} {fn:FuncId} {t:Tr AV} {n:Nat} {ps:List Tmp} {as b body:Code} {d:Nat} (hs:s.h.get id=some (.loop .ready pd fn t n ps as b d)) :
  asK r id body k .normal a s=r.code (some id) body a { s with h:=s.h.set id (.loop .busy pd fn t n ps as b d) } (qmi id k):=by
 simp only[asK,hs]
 rfl
theorem qZ {id:Nat} {k:AV→St→Bool} {st:LoopState} {pd:Option Code} {fn:FuncId} {t:Tr AV} {n:Nat} {ps:List Tmp} {as b:Code} {d:Nat} (hs:s.h.get id=some (.loop st pd fn t n ps as b d)) :
  qmi id k .normal a s=k (q8 true) { s with h:=s.h.set id (.loop .ready none fn t n ps as b d) }:=by
 simp only[qmi,qb2,Xr,hs]
theorem XA {id:Nat} {k:AV→St→Bool} {st:LoopState} {pd:Option Code} {fn:FuncId} {t:Tr AV} {n:Nat} {ps:List Tmp} {as b:Code} {d:Nat} (hs:s.h.get id=some (.loop st pd fn t n ps as b d)) :
  qmi id k .ret a s=k (q8 false) { s with h:=s.h.set id (.loop .done (some .ret) fn t n ps as b d) }:=by
 simp only[qmi,qb2,Xr,hs]
theorem qP {fn:Func} {kr kp:AV→St→Bool} {id:Nat} {ds:List AD} {pn:Option AV} (h:s.h.get id=some (.dfr false)):zw e r fn a kr kp (.mark id::ds) pn s=zw e r fn a kr kp ds pn { s with h:=s.h.set id (.dfr true) }:=by
 simp only[zw,h]
def ldO (o:Option AO) (i:Nat):Option AV:=match o with
 | some (.cells cs _ _)=>cs[i]?
 | some (.old cs)=>cs[i]?
 | _=>none
theorem qdt {x o:Nat}:ldC s x o=ldO (s.h.get x) o:=by
 unfold ldC qY qp9 ldO
 cases s.h.get x with
 | none=>rfl
 | some y=>cases y <;> rfl
theorem qyb {cs:List AV} {i:Nat}:ldO (some (.old cs)) i=cs[i]?:=(rfl)
theorem qrv {cs:List AV} {el fz i:Nat}:ldO (some (.cells cs el fz)) i=cs[i]?:=(rfl)
def stO (s:St) (x:Nat) (c:Option AO) (i:Nat) (v:AV):Option St:=match c with
 | some (.cells cs el fz)=>match JW cs i [v] with
  | some cs'=>some { s with h:=s.h.set x (.cells cs' el fz) }
  | none=>none
 | _=>none
theorem q6v {x o:Nat} {v:AV}:stC s x o v=stO s x (s.h.get x) o v:=by
 unfold stC qY stO
 cases s.h.get x with
 | none=>rfl
 | some y=>cases y <;> rfl
theorem qsg {x i el fz:Nat} {cs:List AV} {v:AV}:stO s x (some (.cells cs el fz)) i v=match JW cs i [v] with
  | some cs'=>some { s with h:=s.h.set x (.cells cs' el fz) }
  | none=>none:=(rfl)
theorem qyi {c v:AV} {cs:List AV}:JW (c::cs) 0 [v]=some (v::cs):=by cases cs <;> rfl
theorem qv6 {c v:AV} {cs:List AV} {n:Nat}:JW (c::cs) (n+1) [v]=match JW cs n [v] with|some r=>some (c::r)|none=>none:=(rfl)
def inO (o:Option AO) (b:Bool):Bool:=match o with
 | some _=>b
 | none=>false
theorem in_o {i:Nat} {l:List Nat}:QB s (i::l)=inO (s.h.get i) (QB s l):=by
 show (match s.h.get i with|some _=>QB s l|none=>false)=_
 unfold inO
 cases s.h.get i <;> rfl
theorem qry {o:AO} {b:Bool}:inO (some o) b=b:=(rfl)
theorem q1p {o:AO} {i:Nat}:(s.alloc o).h.get i=if i=s.nx then some o else s.h.get i:=by simp[St.alloc,Tr.get_set]
theorem qzj {h:Tr AO} {o:AO} {i j:Nat}:(h.set i o).get j=if j=i then some o else h.get j:=by rw[Tr.get_set]
theorem qpb {i:Nat}:Nat.beq i i=true:=by simp
theorem qir:∀ {l:List Nat},eqB l l=true
 | []=>(rfl)
 | x::l=>by simp only[eqB,qpb,cond_true,qir (l:=l)]
theorem q1i {deps:List Nat} {s':St}:Y6 deps s s' []=true:=(rfl)
theorem qyt {deps:List Nat} {s':St} {i:Nat} {ids:List Nat} {l:List (Nat × List Nat)}:Y6 deps s s' ((i,ids)::l)=((deps.contains i||ZH s s' ids)&&Y6 deps s s' l):=by
 simp only[Y6]
 cases (deps.contains i||ZH s s' ids) <;> rfl
theorem q4n {s':St}:ZH s s' []=true:=(rfl)
def q49 (o o':Option AO) (b:Bool):Bool:=match o,o' with
 | some o,some o'=>WA o o'&&b
 | _,_=>false
theorem qw4 {s':St} {i:Nat} {l:List Nat}:ZH s s' (i::l)=q49 (s.h.get i) (s'.h.get i) (ZH s s' l):=by
 simp only[ZH,q49]
 cases s.h.get i with
 | none=>rfl
 | some o=>cases s'.h.get i with
  | none=>rfl
  | some o'=>cases h:WA o o' <;> simp[h]
theorem qoe {o o':AO} {b:Bool}:q49 (some o) (some o') b=(WA o o'&&b):=(rfl)
theorem q0g {c:List AV}:WA (.old c) (.old c)=Zr c c:=by simp[WA]
theorem qqr {c:List AV} {e f:Nat}:WA (.cells c e f) (.cells c e f)=Zr c c:=by simp[WA]
theorem qtv:Zr [] []=true:=by simp[Zr]
theorem qod {v:AV} {l:List AV}:Zr (v::l) (v::l)=(beqA v v&&Zr l l):=by simp[Zr]
theorem qpi {k:IntKind} {z:Int}:beqA (.raw (.int k z)) (.raw (.int k z))=true:=by simp[beqA,qub]
theorem qx2 {b:Bool}:beqA (.raw (.bool b)) (.raw (.bool b))=true:=by simp[beqA,qub]
theorem qox:beqA (.raw (.pointer none)) (.raw (.pointer none))=true:=by simp[beqA,qub]
theorem qxr {a b:Nat}:beqA (.raw (.slice none a b)) (.raw (.slice none a b))=true:=by simp[beqA,qub]
theorem qi0 {l:List Nat}:beqA (.str l) (.str l)=true:=by simp[beqA,qir]
theorem qtf {i j:Nat}:beqA (.ptr i j) (.ptr i j)=true:=by simp[beqA]
theorem q3m {i:Nat}:beqA (.map i) (.map i)=true:=by simp[beqA]
theorem qqt {i o l c k:Nat} {x:Bool}:beqA (.slice i o l c k x) (.slice i o l c k x)=true:=by simp[beqA]
theorem q3a {deps:List Nat}:qli deps []=[]:=(rfl)
theorem qvd {deps:List Nat} {i:Nat} {ids:List Nat} {l:List (Nat × List Nat)}:qli deps ((i,ids)::l)=bif deps.contains i then qli deps l else (i,ids)::qli deps l:=(rfl)
theorem q0k {i:Nat}:List.contains ([]:List Nat) i=false:=(rfl)
theorem qyd {i:Nat} {l:List Nat}:List.contains (i::l) i=true:=by simp
theorem q8x {i j:Nat} {l:List Nat} (h:i≠j):List.contains (j::l) i=List.contains l i:=by
 simp[h]
end Go.AX
namespace Go.AX
open Go.RowKit
variable {P:Program} {w0:World} {E:Em} {s:St} {w:World}
def st0:St:={ h:=.e,nx:=0 }
theorem nx0:st0.nx=0:=(rfl)
theorem Sim.addP (h:Sim w0 E s w) {w':World} (hb:Below w.heap.size w w') {P0:Nat × Nat × Nat} (hg:w.heap.size≤P0.1) {o:AO} {O:Obj} (hO:w'.heap[P0.1]?=some O) (ho:ORel (E.put s.nx P0) P0 o O) :
  Sim w0 (E.put s.nx P0) (s.alloc o) w':=by
 have hle:=Em.le_put E s.nx P0 h.free
 have h':=h.grown hb
 have lt:∀ {id o' p},s.h.get id=some o'→E id=some p→p.1 < w.heap.size:=fun {id o' p} hi hp=>by
  obtain⟨q,O',hq,hO',_,_⟩:=h.obj id o' hi
  rw[hp] at hq;cases hq
  exact (Array.getElem?_eq_some_iff.1 hO').1
 have old:∀ {id o'},(s.alloc o).h.get id=some o'→id≠s.nx→s.h.get id=some o':=fun {id o'} hi hne=>by
  simp only[St.alloc,Tr.get_set] at hi
  rw[if_neg hne] at hi
  exact hi
 have olds:∀ {id p},(E.put s.nx P0) id=some p→id≠s.nx→E id=some p:=fun {id p} hp hne=>by
  unfold Em.put at hp
  rw[if_neg hne] at hp
  exact hp
 refine⟨fun id o' ho'=>?_,fun id id' o1 o2 p p' h1 h2 e1 e2 hp=>?_,fun id p hp=>?_,h'.below⟩
 ·by_cases hid:id=s.nx
  ·subst hid
   simp only[St.alloc,Tr.get_set,if_true,Option.some.injEq] at ho'
   subst ho'
   exact⟨_,O,Em.put_same _ _ _,hO,ho,Or.inl (Nat.le_trans h.below.size hg)⟩
  ·obtain⟨q,O',hq,hO',hr,hB⟩:=h'.obj id o' (old ho' hid)
   exact⟨q,O',hle _ _ hq,hO',hr.mono hle,hB⟩
 ·by_cases hid:id=s.nx
  ·by_cases hid':id'=s.nx
   ·exact Or.inl (by rw[hid,hid'])
   ·subst hid
    rw[Em.put_same] at e1
    cases e1
    have:=lt (old h2 hid') (olds e2 hid')
    omega
  ·by_cases hid':id'=s.nx
   ·subst hid'
    rw[Em.put_same] at e2
    cases e2
    have:=lt (old h1 hid) (olds e1 hid)
    omega
   ·exact h.inj _ _ _ _ _ _ (old h1 hid) (old h2 hid') (olds e1 hid) (olds e2 hid') hp
 ·by_cases hid:id=s.nx
  ·subst hid;simp[St.alloc]
  ·have:=h.fresh id p (olds hp hid);simp only[St.alloc];omega
def WC:AV→Bool
 | .raw _=>true
 | .str _=>true
 | _=>false
def qxe:AV→Bool
 | .tuple vs=>vs.all WC
 | v=>WC v
theorem KF {E E':Em} {v:AV} {V:Value} (hf:WC v=true) (h:VRel E v V):VRel E' v V:=by
 cases v <;> first|(simp[WC] at hf;done)|(simpa [VRel] using h)
theorem KT {E E':Em}:∀ {vs:List AV} {L:List Value},vs.all WC=true→VRels E vs L→VRels E' vs L
 | [],_,_,h=>by simpa [VRels] using h
 | v::vs,L,hf,h=>by
  simp only[VRels] at h ⊢
  simp only[List.all_cons,Bool.and_eq_true] at hf
  obtain⟨V,Vs,h1,h2,h3⟩:=h
  exact⟨V,Vs,KF hf.1 h1,KT hf.2 h2,h3⟩
theorem qn8 {E E':Em} {v:AV} {V:Value} (hf:qxe v=true) (h:VRel E v V):VRel E' v V:=by
 cases v with
 | tuple vs =>
  simp only[VRel] at h ⊢
  obtain⟨C,h1,h2⟩:=h
  exact⟨C,KT hf h1,h2⟩
 | _=>exact KF hf h
theorem qeq {f:FuncId} {args:List AV} {Q:AV→St→Prop} (ha:args.all WC=true) (h:∀ kr kp:AV→St→Bool,(∀ v s',Q v s'→kr v s'=true)→(sem P).call f args st0 kr kp=true)
  {Args:List Value} (hv:VRels E args Args):Qy P f∧CallsIn (FW none) 0 P f Args.toArray w fun en w'=>∃ V v s' E',en=.returned V∧Q v s'∧VRel E' v V∧Sim w E' s' w':=by
 have key:=sem_call.1 (h (fun v s'=>@decide (Q v s') (Classical.propDecidable _)) (fun _ _=>false) (fun v s' hq=>@decide_eq_true _ (Classical.propDecidable _) hq))
  w w (fun _=>none) Args (fun V w'=>∃ v s' E',Q v s'∧VRel E' v V∧Sim w E' s' w') (fun _ _=>False) (KT ha hv) (q9b w)
  (fun E' v s' V w' _ g2 g3 g4=>⟨v,s',E',@of_decide_eq_true _ (Classical.propDecidable _) g4,g2,g3⟩) (fun _ _ _ _ _ _ _ _ g=>by cases g)
 refine⟨key.1,CallsIn.mono key.2 fun en w' he=>?_⟩
 cases en with
 | returned V=>obtain⟨v,s',E',h1,h2,h3⟩:=he;exact⟨V,v,s',E',rfl,h1,h2,h3⟩
 | panicked ch=>obtain⟨_,_,hh⟩:=he;exact hh.elim
 | outgrown=>exact he.elim
theorem Yo {f:FuncId} {args:List AV} {v:AV} (ha:args.all WC=true) (hf:qxe v=true) (h:∀ kr kp:AV→St→Bool,(∀ s',kr v s'=true)→(sem P).call f args st0 kr kp=true)
  {Args:List Value} (hv:VRels E args Args) (hs:Sim w0 E s w):Qy P f∧CallsIn (FW none) 0 P f Args.toArray w fun en w'=>∃ V E',en=.returned V∧E.le E'∧VRel E' v V∧Sim w0 E' s w':=by
 obtain⟨h1,h2⟩:=qeq (w:=w) (Q:=fun v' _=>v'=v) ha (fun kr kp hk=>h kr kp (fun s'=>hk v s' rfl)) hv
 refine⟨h1,CallsIn.mono h2 ?_⟩
 rintro en w' ⟨V,v',s',E',rfl,rfl,hV,hS⟩
 exact⟨V,E,rfl,Em.le_refl E,qn8 hf hV,hs.grown hS.below⟩
def SlR (ty:Nat) (F:Nat→Prop) (s:St) (V:AV) (names:List (List Nat)):Prop:=(V=.raw (.slice none 0 0)∧names=[]) ∨
 ∃ id cap cs,V=.slice id 0 names.length 0 cap false∧F id∧id < s.nx∧s.h.get id=some (.cells cs ty 2)∧cs.length=cap∧names.length≤cap∧cs.take names.length=names.map .str
def JA (ty:Nat) (names:List (List Nat)) (s:St):AV × St:=match names with
 | []=>(.raw (.slice none 0 0),s)
 | _::_=>(.slice s.nx 0 names.length 0 names.length false,s.alloc (.cells (names.map .str) ty 2))
theorem qat {f ty:Nat} {args:List AV} {names:List (List Nat)} (hn:names≠[]) (ha:args.all WC=true) (h:∀ kr kp:AV→St→Bool,(∀ V s',SlR ty (fun _=>True) s' V names→kr V s'=true)→(sem P).call f args st0 kr kp=true)
  {Args:List Value} (hv:VRels E args Args) (hs:Sim w0 E s w):Qy P f∧CallsIn (FW none) 0 P f Args.toArray w fun en w'=>∃ V E',en=.returned V∧E.le E'∧VRel E' (JA ty names s).1 V∧Sim w0 E' (JA ty names s).2 w':=by
 obtain⟨h1,h2⟩:=qeq (w:=w) (Q:=fun V s'=>SlR ty (fun _=>True) s' V names) ha h hv
 refine⟨h1,CallsIn.mono h2 ?_⟩
 rintro en w' ⟨V,v,s',E',rfl,hq,hV,hS⟩
 rcases hq with⟨_,hq⟩|⟨id,cap,cs,rfl,_,_,g1,g2,g3,g4⟩
 ·exact absurd hq hn
 ·have hmk:JA ty names s=(.slice s.nx 0 names.length 0 names.length false,s.alloc (.cells (names.map .str) ty 2)):=by
   cases names with
   | nil=>exact absurd rfl hn
   | cons _ _=>rfl
  rw[hmk]
  simp only[VRel] at hV
  obtain⟨p,hp,rfl,hl,hcap⟩:=hV
  have hcap:cap≤p.2.2 - 0:=by simpa using hcap
  obtain⟨p',O,hp',hO,hr,hge⟩:=hS.obj id _ g1
  rw[hp] at hp'
  cases hp'
  refine⟨_,E.put s.nx p,rfl,Em.le_put E s.nx p hs.free,?_,hs.addP hS.below (hge.resolve_right (fun ⟨_,h⟩=>by cases h)) hO ?_⟩
  ·simp only[VRel]
   exact⟨p,Em.put_same _ _ _,rfl,Nat.le_refl _,fun _=>by omega⟩
  ·simp only[ORel] at hr ⊢
   obtain⟨C,fz,rfl,hc,hfr⟩:=hr
   refine⟨C,fz,rfl,fun i v hi=>?_,hfr⟩
   have hi':cs[i]?=some v:=by
    have hlt:i < names.length:=by
     have:=(List.getElem?_eq_some_iff.1 hi).1
     simpa using this
    rw[← g4,List.getElem?_take] at hi
    rw[if_pos hlt] at hi
    exact hi
   obtain⟨V,k1,k2⟩:=hc i v hi'
   refine⟨V,k1,KF ?_ k2⟩
   rw[List.getElem?_map,Option.map_eq_some_iff] at hi
   obtain⟨x,_,rfl⟩:=hi
   rfl
def Prims.add (pr:Prims) (g:FuncId) (f:List AV→St→Option (AV × St)):Prims:={ ext:=pr.ext,fn:=fun h args s=>bif Nat.beq h g then f args s else pr.fn h args s }
theorem J0 {pr:Prims} {g:FuncId} {f:List AV→St→Option (AV × St)} (h:PrimsOk P pr)
  (hg:∀ {args:List AV} {s s':St} {v:AV} {w0 w:World} {E:Em} {Args:List Value},f args s=some (v,s')→VRels E args Args→Sim w0 E s w →
   Qy P g∧CallsIn (FW none) 0 P g Args.toArray w fun en w'=>∃ V E',en=.returned V∧E.le E'∧VRel E' v V∧Sim w0 E' s' w'):PrimsOk P (pr.add g f):=by
 refine⟨fun h1 h2 h3=>h.ext h1 h2 h3,fun {g' args s s' v w0 w E Args} h1 h2 h3=>?_⟩
 simp only[Prims.add] at h1
 cases hb:Nat.beq g' g with
 | true =>
  rw[hb] at h1
  have:=Nat.eq_of_beq_eq_true hb
  subst this
  exact hg h1 h2 h3
 | false =>
  rw[hb] at h1
  exact h.fn h1 h2 h3
theorem Qx {pr:Prims} {g h:FuncId} {f:List AV→St→Option (AV × St)} {args:List AV} (hn:h≠g):(pr.add g f).fn h args s=pr.fn h args s:=by
 have:Nat.beq h g=false:=by
  cases hb:Nat.beq h g with
  | false=>rfl
  | true=>exact absurd (Nat.eq_of_beq_eq_true hb) hn
 simp only[Prims.add,this,cond_false]
theorem Jk {pr:Prims} {g:FuncId} {f:List AV→St→Option (AV × St)} {args:List AV}:(pr.add g f).fn g args s=f args s:=by simp[Prims.add]
end Go.AX
namespace Go.AX
open Go.RowKit
variable {P:Program} {e:Env} {pr:Prims} {r:Tasks} {rd:Option Nat} {a:Ac} {s:St}
theorem qp3 (hr:Sound P r) {id:Nat} {args:List AV} {k k':AV→St→Bool} (h:ZO r id args s k=true) (hk:∀ v s',k v s'=true→k' v s'=true):ZO (sem P) id args s k'=true:=by
 unfold ZO at h ⊢
 split at h
 ·split at h
  ·refine X8 (ZL hr h) fun ex a1 s1 h1=>?_
   split at h1
   ·split at h1
    ·refine X8 (ZL hr h1) fun ex a2 s2 h2=>?_
     split at h2
     ·exact Z3 h2 hk
     ·exact Z3 h2 hk
     ·exact Z3 h2 hk
     ·exact Z3 h2 hk
     ·cases h2
    ·cases h1
   ·cases h1
  ·cases h
 ·cases h
theorem qyu (hr:Sound P r) {o:Oper} {k k':Ac→St→Bool} {kp kp':AV→St→Bool} (h:QC e pr r rd o a s k kp=true) (hk:∀ a' s',k a' s'=true→k' a' s'=true) (hp:∀ v s',kp v s'=true→kp' v s'=true) :
  QC e pr (sem P) rd o a s k' kp'=true:=by
 unfold QC at h ⊢
 split at h
 ·split at h
  ·exact hp _ _ h
  ·cases h
 ·split at h
  ·split at h
   ·exact zd h hk
   ·cases h
  ·cases h
 ·split at h
  ·split at h
   ·split at h
    ·exact zd h hk
    ·split at h
     ·exact zd h hk
     ·exact Kz (ZS hr h) (fun v s' hv=>zd hv hk) hp
   ·exact qp3 hr h (fun v s' hv=>zd hv hk)
   ·cases h
  ·exact Jo h hk
 ·exact WN h (fun v s' hv=>zd hv hk)
 ·exact Jo h hk
theorem XK (hr:Sound P r) {all:List Oper} {k:Ac→St→Bool} {kp:AV→Ac→St→Bool}:∀ (p:Pl) (held:List (Nat × List Nat)) (a:Ac) (s:St),qdm e pr r rd all p held a s k kp=true→qdm e pr (sem P) rd all p held a s k kp=true
 | .done,_,_,_,h=>h
 | .no,_,_,_,h=>h
 | .yes,_,_,_,h=>h
 | .take i p,held,a,s,h=>by
  simp only[qdm] at h ⊢
  split at h
  ·split at h
   ·split at h
    ·rename_i v ids _
     cases hi:QB s ids with
     | false=>rw[hi] at h;cases h
     | true=>rw[hi] at h;simp only[cond_true] at h ⊢;exact zd h fun a' s' h'=>XK hr p _ _ _ h'
    ·cases h
   ·exact zd h fun a' s' h'=>XK hr p _ _ _ h'
   ·cases h
  ·cases h
 | .alt i deps p q,held,a,s,h=>by
  simp only[qdm,Bool.and_eq_true] at h ⊢
  refine⟨?_,XK hr q _ _ _ h.2⟩
  have h:=h.1
  split at h
  ·split at h
   ·refine qyu hr h (fun a' s' h'=>?_) (fun _ _ h'=>h')
    cases hst:Y6 deps s s' held with
    | false=>rw[hst] at h';cases h'
    | true=>rw[hst] at h';exact XK hr p _ _ _ h'
   ·exact zd h fun a' s' h'=>XK hr p _ _ _ h'
   ·cases h
  ·cases h
def qjy (e:Env) (pr:Prims) (r:Tasks):Tasks:={
 code:=fun rd c a s k=>match c with
  | .region _ ops true=>bif VM ops.toList then qdm e pr r rd ops.toList (qtw e ops ops.size (Array.replicate ops.size false)) [] a s (fun a' s'=>k .normal a' s') (fun v a' s'=>k (.panic v) { a' with t:=Yl a'.t ops.toList } s') else false
  | c=>(step e pr r).code rd c a s k
 call:=(step e pr r).call }
def evX (e:Env) (pr:Prims):Nat→Tasks
 | 0=>qbp
 | n+1=>qjy e pr (evX e pr n)
theorem WU (H:Ok e P pr) (hr:Sound P r) {c:Code} {k:AE→Ac→St→Bool} (h:(qjy e pr r).code rd c a s k=true):(sem P).code rd c a s k=true:=by
 have other:(step e pr r).code rd c a s k=true→(sem P).code rd c a s k=true:=fun h=>ZL (Y9 H.prog H.prims hr) h
 simp only[qjy] at h
 split at h
 ·rename_i i ops
  cases hs:VM ops.toList with
  | false=>rw[hs] at h;cases h
  | true =>
   rw[hs] at h
   obtain⟨l⟩:=ops
   exact qy H _ hs rfl (XK hr _ _ _ _ h)
 ·exact other h
theorem qgg (H:Ok e P pr) (hr:Sound P r):Sound P (qjy e pr r):={
 code:=fun h h1 h2 h3 h4=>sem_sound.code (WU H hr h) h1 h2 h3 h4
 loop:=fun h h1 h2 h3 h4=>sem_sound.loop (WU H hr h) h1 h2 h3 h4
 call:=fun h h1 h2 h3 h4=>(Y9 H.prog H.prims hr).call h h1 h2 h3 h4 }
theorem qdy (H:Ok e P pr):∀ n,Sound P (evX e pr n)
 | 0=>Xw
 | n+1=>qgg H (qdy H n)
theorem qln {v:AV} (h:Kh v=true):v=.raw (.bool true):=by
 unfold Kh at h
 split at h
 ·rw[h]
 ·cases h
theorem qnc {f:FuncId} {args:List AV} {kr kp:AV→St→Bool} (h:(sem P).call f args s (fun v _=>Kh v) (fun _ _=>false)=true) (hk:∀ s',kr (.raw (.bool true)) s'=true):(sem P).call f args s kr kp=true :=
 Kz h (fun v s' hv=>by rw[qln hv];exact hk s') (fun _ _ hv=>by cases hv)
theorem qqq {f:FuncId} {args:List AV} {Args:List Value} {E:Em} {s:St} {w:World} (hs:Sim w E s w) (hv:VRels E args Args) (h:(sem P).call f args s (fun v _=>Kh v) (fun _ _=>false)=true) :
  Calls P f Args.toArray w fun e w'=>e=.returned (.bool true)∧Below w.heap.size w w':=by
 have key:=sem_sound.call (R:=fun V w'=>V=.bool true∧Below w.heap.size w w') (Rp:=fun _ _=>False) h hv hs (fun E' v s V w' _ hv hs hk=>?_) (fun _ _ _ _ _ _ _ _ h=>by cases h)
 ·refine (callsIn_wide (n:=0)).1 (CallsIn.mono key.2 fun en w' he=>?_)
  cases en with
  | returned V=>exact⟨by rw[he.1],he.2⟩
  | panicked ch=>obtain⟨_,_,hh⟩:=he;exact hh.elim
  | outgrown=>exact he.elim
 ·refine⟨?_,hs.below⟩
  unfold Kh at hk
  split at hk
  ·rename_i b
   simp only[VRel] at hv
   subst hk hv
   rfl
  ·cases hk
def q02 (x m:Int):Int:=IntKind.i64.wrap (((BitVec.ofInt 64 x &&& BitVec.ofInt 64 m).toNat:Nat):Int)
def qku:AV→Bool
 | .raw (.int .i64 _)=>true
 | _=>false
def q9a:AV→AV→Option (AV × List Nat)
 | .raw (.int .i64 x),.raw (.int .i64 y)=>some (.raw (.int .i64 (q02 x y)),[])
 | _,_=>none
theorem qna {z:Int}:qku (.raw (.int .i64 z))=true:=(rfl)
theorem qcl {x y:Int}:q9a (.raw (.int .i64 x)) (.raw (.int .i64 y))=some (.raw (.int .i64 (q02 x y)),[]):=(rfl)
theorem qbl {v:AV} (h:qku v=true):∃ z,v=.raw (.int .i64 z):=by
 unfold qku at h
 split at h
 ·exact⟨_,rfl⟩
 ·cases h
theorem q61 {v w:AV}:qE .and v w=none:=by
 unfold qE
 split
 ·split <;> rfl
 ·rfl
 ·rfl
theorem qw8 {t:TypeId} {x y:AV} {d:Option (AV × List Nat)}:eqS e s .and t x y d=d:=(rfl)
theorem q44 {dst:Option Tmp} {x y:Operand} {t t' ty:TypeId} {pos:String} {after:Array Edge} (hx:qku (a.eval x)=true) (hy:qku (a.eval y)=true) :
  qt e a ⟨dst,.binOp .and t x y t',ty,pos,after,none⟩=q9a (a.eval x) (a.eval y):=by
 obtain⟨u,hx⟩:=qbl hx
 obtain⟨v,hy⟩:=qbl hy
 have h1:zh a x=.int .i64 u:=by simp[zh,hx,zu]
 have h2:zh a y=.int .i64 v:=by simp[zh,hy,zu]
 have hall:(Op.operands (.binOp .and t x y t')).toList.all (fun x=>(zu (a.eval x)).isSome)=true:=by
  show (List.all [x,y] (fun x=>(zu (a.eval x)).isSome))=true
  simp[hx,hy,zu]
 simp only[qt,hall,cond_true]
 have hr:qX e.P (execOp (zh a) ⟨dst,.binOp .and t x y t',ty,pos,after,none⟩)=some (.value (.int .i64 (q02 u v))):=by
  have:execOp (zh a) ⟨dst,.binOp .and t x y t',ty,pos,after,none⟩=.pure (.value (.int .i64 (q02 u v))):=by
   simp only[execOp,h1,h2]
   rfl
  rw[this];rfl
 rw[hr,hx,hy]
 rfl
end Go.AX
namespace Go.AX
open Go.RowKit
def fN (n:Nat) (k:Nat→Bool):Bool:=match n with
 | 0=>k 0
 | m+1=>k (m+1)
theorem VJ {n:Nat} {k:Nat→Bool}:fN n k=k n:=by cases n <;> rfl
def fI (n:Int) (k:Int→Bool):Bool:=match n with
 | .ofNat m=>fN m fun m=>k (.ofNat m)
 | .negSucc m=>fN m fun m=>k (.negSucc m)
theorem q59 {n:Int} {k:Int→Bool}:fI n k=k n:=by cases n <;> simp only[fI,VJ]
def fLn (l:List Nat) (k:List Nat→Bool):Bool:=match l with
 | []=>k []
 | n::l=>fN n fun n=>fLn l fun l=>k (n::l)
theorem qnj:∀ {l:List Nat} {k:List Nat→Bool},fLn l k=k l
 | [],_=>rfl
 | n::l,k=>by simp only[fLn,VJ,qnj (l:=l)]
def fV (v:Value) (k:Value→Bool):Bool:=match v with
 | .int t n=>fI n fun n=>k (.int t n)
 | .bool true=>k (.bool true)
 | .bool false=>k (.bool false)
 | v=>k v
theorem q65 {v:Value} {k:Value→Bool}:fV v k=k v:=by
 unfold fV
 split
 ·simp only[q59]
 ·rfl
 ·rfl
 ·rfl
mutual
def fA:AV→(AV→Bool)→Bool
 | .raw v,k=>fV v fun v=>k (.raw v)
 | .str s,k=>fLn s fun s=>k (.str s)
 | .ptr i o,k=>fN i fun i=>fN o fun o=>k (.ptr i o)
 | .slice i o l c q x,k=>fN i fun i=>fN o fun o=>fN l fun l=>fN c fun c=>fN q fun q=>(match x with|true=>k (.slice i o l c q true)|false=>k (.slice i o l c q false))
 | .esl i o c l z,k=>fN i fun i=>fN o fun o=>fN c fun c=>fN l fun l=>fN z fun z=>k (.esl i o c l z)
 | .map i,k=>fN i fun i=>k (.map i)
 | .fn f c,k=>fAs c fun c=>k (.fn f c)
 | .yld i,k=>fN i fun i=>k (.yld i)
 | .iface t v,k=>fA v fun v=>k (.iface t v)
 | .agg c,k=>fAs c fun c=>k (.agg c)
 | .tuple c,k=>fAs c fun c=>k (.tuple c)
def fAs:List AV→(List AV→Bool)→Bool
 | [],k=>k []
 | v::l,k=>fA v fun v=>fAs l fun l=>k (v::l)
end

mutual
theorem qq2:∀ (v:AV) (k:AV→Bool),fA v k=k v:=fun v k=>by
 cases v with
 | raw v=>simp only[fA,q65]
 | str s=>simp only[fA,qnj]
 | ptr i o=>simp only[fA,VJ]
 | slice i o l c q x=>cases x <;> simp only[fA,VJ]
 | esl i o c l z=>simp only[fA,VJ]
 | map i=>simp only[fA,VJ]
 | fn f c=>simp only[fA,WL c]
 | yld i=>simp only[fA,VJ]
 | iface t v=>simp only[fA,qq2 v]
 | agg c=>simp only[fA,WL c]
 | tuple c=>simp only[fA,WL c]
theorem WL:∀ (l:List AV) (k:List AV→Bool),fAs l k=k l:=fun l k=>by
 cases l with
 | nil=>simp only[fAs]
 | cons v l=>simp only[fAs,qq2 v,WL l]
end

def fM:List (AV × AV)→(List (AV × AV)→Bool)→Bool
 | [],k=>k []
 | (x,y)::l,k=>fA x fun x=>fA y fun y=>fM l fun l=>k ((x,y)::l)
theorem q1f:∀ {l:List (AV × AV)} {k:List (AV × AV)→Bool},fM l k=k l
 | [],_=>rfl
 | (x,y)::l,k=>by simp only[fM,qq2,q1f (l:=l)]
def fO (o:AO) (k:AO→Bool):Bool:=match o with
 | .cells c e f=>fAs c fun c=>fN e fun e=>fN f fun f=>k (.cells c e f)
 | .map es=>fM es fun es=>k (.map es)
 | .rmap es i ix=>fM es fun es=>fN i fun i=>fLn ix fun ix=>k (.rmap es i ix)
 | .miter m l=>fN m fun m=>fLn l fun l=>k (.miter m l)
 | .siter l n r=>fLn l fun l=>fN n fun n=>fLn r fun r=>k (.siter l n r)
 | o=>k o
theorem q7j {o:AO} {k:AO→Bool}:fO o k=k o:=by
 unfold fO
 split <;> simp only[WL,q1f,VJ,qnj]
def fT {α:Type} (f:α→(α→Bool)→Bool):Tr α→(Tr α→Bool)→Bool
 | .e,k=>k .e
 | .n l v r,k=>fT f l fun l=>match v with
  | none=>fT f r fun r=>k (.n l none r)
  | some x=>f x fun x=>fT f r fun r=>k (.n l (some x) r)
theorem qqi {α:Type} {f:α→(α→Bool)→Bool} (hf:∀ x k,f x k=k x):∀ {t:Tr α} {k:Tr α→Bool},fT f t k=k t
 | .e,_=>rfl
 | .n l v r,k=>by
  cases v <;> simp only[fT,hf,qqi hf (t:=l),qqi hf (t:=r)]
def fS (s:St) (k:St→Bool):Bool:=fT fO s.h fun h=>fN s.nx fun n=>k { h:=h,nx:=n }
theorem q67 {s:St} {k:St→Bool}:fS s k=k s:=by simp only[fS,qqi (fun _ _=>q7j),VJ]
def fD:List AD→(List AD→Bool)→Bool
 | [],k=>k []
 | .call f c::l,k=>fN f fun f=>fAs c fun c=>fD l fun l=>k (.call f c::l)
 | .mark i::l,k=>fN i fun i=>fD l fun l=>k (.mark i::l)
theorem qwh:∀ {l:List AD} {k:List AD→Bool},fD l k=k l
 | [],_=>rfl
 | .call f c::l,k=>by simp only[fD,VJ,WL,qwh (l:=l)]
 | .mark i::l,k=>by simp only[fD,VJ,qwh (l:=l)]
def fAc (a:Ac) (k:Ac→Bool):Bool:=fT fA a.t fun t=>fN a.n fun n=>fD a.d fun d=>k { t:=t,n:=n,d:=d }
theorem q2g {a:Ac} {k:Ac→Bool}:fAc a k=k a:=by simp only[fAc,qqi qq2,VJ,qwh]
def qww (e:Env) (pr:Prims) (r:Tasks):Tasks:={
 code:=fun rd c a s k=>match c with
  | .region _ ops true=>bif VM ops.toList then qdm e pr r rd ops.toList (qtw e ops ops.size (Array.replicate ops.size false)) [] a s (fun a' s'=>fAc a' fun a'=>fS s' fun s'=>k .normal a' s') (fun v a' s'=>k (.panic v) { a' with t:=Yl a'.t ops.toList } s') else false
  | c=>(step e pr r).code rd c a s k
 call:=(step e pr r).call }
theorem qp0 {e:Env} {pr:Prims} {r:Tasks}:qww e pr r=qjy e pr r:=by
 unfold qww qjy
 congr 1
 funext rd c a s k
 split <;> simp only[q2g,q67]
def evY (e:Env) (pr:Prims):Nat→Tasks
 | 0=>qbp
 | n+1=>qww e pr (evY e pr n)
theorem qto {e:Env} {pr:Prims}:∀ n,evY e pr n=evX e pr n
 | 0=>rfl
 | n+1=>by simp only[evY,evX,qto n,qp0]
theorem qog {P:Program} {e:Env} {pr:Prims} (H:Ok e P pr) (n:Nat):Sound P (evY e pr n):=by
 rw[qto]
 exact qdy H n
variable {P:Program} {e:Env} {pr:Prims}
def qyg (r:Tasks) (rd:Option Nat) (v:AV) (x y:Code) (a:Ac) (s:St) (k:AE→Ac→St→Bool):Bool:=match v with
 | .raw (.bool b)=>r.code rd (bif b then x else y) a s k
 | _=>false
theorem qxc {r:Tasks} {rd:Option Nat} {b:Bool} {x y:Code} {a:Ac} {s:St} {k:AE→Ac→St→Bool}:qyg r rd (.raw (.bool b)) x y a s k=r.code rd (bif b then x else y) a s k:=(rfl)
inductive One (e:Env) (pr:Prims) (P:Program) (rd:Option Nat):Code→Ac→St→(AE→Ac→St→Bool)→Prop
 | seq {x y:Code} {a:Ac} {s:St} {k:AE→Ac→St→Bool} (h:(sem P).code rd x a s (qy5 (sem P) rd y k)=true):One e pr P rd (.seq x y) a s k
 | region {i:Nat} {ops:List Oper} {a:Ac} {s:St} {k:AE→Ac→St→Bool} (h:V7 e pr (sem P) rd ops ops a s k=true):One e pr P rd (.region i ops.toArray false) a s k
 | cond {c:Operand} {x y:Code} {a:Ac} {s:St} {k:AE→Ac→St→Bool} (h:qyg (sem P) rd (a.eval c) x y a s k=true):One e pr P rd (.cond c x y) a s k
 | block {i:Nat} {c:Code} {a:Ac} {s:St} {k:AE→Ac→St→Bool} (h:(sem P).code rd c a s (Xh i k)=true):One e pr P rd (.block i c) a s k
 | skip {a:Ac} {s:St} {k:AE→Ac→St→Bool} (h:k .normal a s=true):One e pr P rd .skip a s k
 | ret {a:Ac} {s:St} {k:AE→Ac→St→Bool} (h:k .ret a s=true):One e pr P rd .ret a s k
 | exit {i:Nat} {a:Ac} {s:St} {k:AE→Ac→St→Bool} (h:k (.exit i) a s=true):One e pr P rd (.exit i) a s k
 | label {i:Nat} {a:Ac} {s:St} {k:AE→Ac→St→Bool} (h:k .normal a s=true):One e pr P rd (.label i) a s k
 | scope {c:Code} {a:Ac} {s:St} {k:AE→Ac→St→Bool} (h:(sem P).code rd c a s (qay k)=true):One e pr P rd (.scope c) a s k
theorem q9 (H:Ok e P pr) {rd:Option Nat} {c:Code} {a:Ac} {s:St} {k:AE→Ac→St→Bool} (h:One e pr P rd c a s k):(sem P).code rd c a s k=true:=by
 cases h with
 | seq h=>exact q62 H h
 | region h=>exact qs2 H h
 | cond h =>
  unfold qyg at h
  split at h
  ·rename_i b hb
   exact q2w H b hb h
  ·cases h
 | block h=>exact qxm H h
 | skip h=>exact qz0 H h
 | ret h=>exact q5s H h
 | exit h=>exact q1q H h
 | label h=>exact qyh H h
 | scope h=>exact qv5 H h
end Go.AX
namespace Go.AX
open Go.RowKit
variable {P:Program} {e:Env} {pr:Prims} {r:Tasks} {rd:Option Nat} {a:Ac} {s:St}
abbrev DK:=AE→Ac→Option (AV × Bool)→St→Bool
def doK (pn:Option (AV × Bool)) (k:DK):AE→Ac→St→Bool:=fun ex a' s'=>k ex a' pn s'
def qvh (e:Env) (r:Tasks) (n:Nat) (y:Code) (k:DK):DK:=fun ex a' pn' s'=>match ex with
 | .normal=>Zp e r n y a' pn' s' k
 | ex=>k ex a' pn' s'
def q4e (e:Env) (all l:List Oper) (pn:Option (AV × Bool)) (k:DK):Ac→St→Bool:=fun a' s'=>YT e all l a' s' (fun a'' s''=>k .normal a'' pn s'')
section
variable {k:DK} {pn:Option (AV × Bool)} {n:Nat}
theorem q9c {ex:AE}:doK pn k ex a s=k ex a pn s:=(rfl)
theorem qua {y:Code}:qvh e r n y k .normal a pn s=Zp e r n y a pn s k:=(rfl)
theorem qtr {y:Code}:qvh e r n y k .ret a pn s=k .ret a pn s:=(rfl)
theorem qud {x y:Code}:Zp e r (n+1) (.seq x y) a pn s k=Zp e r n x a pn s (qvh e r n y k):=(rfl)
def qxv (e:Env) (r:Tasks) (n:Nat) (v:AV) (x y:Code) (a:Ac) (pn:Option (AV × Bool)) (s:St) (k:DK):Bool:=match v with
 | .raw (.bool b)=>Zp e r n (bif b then x else y) a pn s k
 | _=>false
theorem qo1 {c:Operand} {x y:Code}:Zp e r (n+1) (.cond c x y) a pn s k=qxv e r n (a.eval c) x y a pn s k:=by
 simp only[Zp,qxv]
 rfl
theorem WW {b:Bool} {x y:Code}:qxv e r n (.raw (.bool b)) x y a pn s k=Zp e r n (bif b then x else y) a pn s k:=(rfl)
theorem quf:Zp e r (n+1) .ret a pn s k=r.code none .ret a s (doK pn k):=(rfl)
theorem qls:Zp e r (n+1) .skip a pn s k=r.code none .skip a s (doK pn k):=(rfl)
theorem qnb {i:Nat} {o:Oper} {l:List Oper} (h:YX o.op=false):Zp e r (n+1) (.region i (o::l).toArray false) a pn s k=r.code none (.region i (o::l).toArray false) a s (doK pn k):=by
 simp only[Zp,h,cond_false]
 rfl
theorem q2l {i:Nat} {dst:Option Tmp} {x:Operand} {ty:TypeId} {pos:String} {after:Array Edge} {g:Option (Nat × Bool)} {l:List Oper}:Zp e r (n+1) (.region i (⟨dst,.move x,ty,pos,after,g⟩::l).toArray false) a pn s k=r.code none (.region i (⟨dst,.move x,ty,pos,after,g⟩::l).toArray false) a s (doK pn k):=qnb rfl
theorem q3q {i:Nat} {dst:Option Tmp} {ty:TypeId} {pos:String} {after:Array Edge} {l:List Oper} {args:Array Operand} {tys:Array TypeId} {v:AV}:Zp e r (n+1) (.region i (⟨dst,.call { callee:=.builtin .recover,args:=args,argTypes:=tys },ty,pos,after,none⟩::l).toArray false) a (some (v,false)) s k =
  zN a dst v s (q4e e (⟨dst,.call { callee:=.builtin .recover,args:=args,argTypes:=tys },ty,pos,after,none⟩::l) l (some (v,true)) k):=(rfl)
theorem qxj {i:Nat} {dst:Option Tmp} {ty:TypeId} {pos:String} {after:Array Edge} {l:List Oper} {args:Array Operand} {tys:Array TypeId}:Zp e r (n+1) (.region i (⟨dst,.call { callee:=.builtin .recover,args:=args,argTypes:=tys },ty,pos,after,none⟩::l).toArray false) a none s k =
  zN a dst (.raw .nilIface) s (q4e e (⟨dst,.call { callee:=.builtin .recover,args:=args,argTypes:=tys },ty,pos,after,none⟩::l) l none k):=(rfl)
theorem qfm {all:List Oper}:q4e e all [] pn k a s=k .normal a pn s:=(rfl)
theorem Vr {all l:List Oper} {dst:Option Tmp} {x:Operand} {ty:TypeId} {pos:String} {after:Array Edge}:q4e e all (⟨dst,.assign x,ty,pos,after,none⟩::l) pn k a s=zN a dst (a.eval x) s (q4e e all l pn k):=(rfl)
end
def KY (e:Env) (r:Tasks) (fn gf:Func) (a:Ac) (kr kp:AV→St→Bool) (ds:List AD):DK:=fun ex a' pn' s' =>
 match a'.d,q7 e gf a' s' with
 | [],some _ =>
  match ex with
  | .normal=>zw e r fn a kr kp ds (Zb pn') s'
  | .ret=>zw e r fn a kr kp ds (Zb pn') s'
  | _=>false
 | _,_=>false
theorem VG {fn gf:Func} {kr kp:AV→St→Bool} {g:FuncId} {args:List AV} {ds:List AD} {pn:Option AV} {c:Code} (m:Nat) (h:e.fn.get g=some gf) (hb:gf.body=some c) (hm:Nat.max gf.ntmps args.length=m) :
  zw e r fn a kr kp (.call g args::ds) pn s=Zp e r 100 c ⟨Qn .e 0 args,m,[]⟩ (pn.map (·,false)) s (KY e r fn gf a kr kp ds):=by
 subst hm
 simp only[zw,h,hb]
 rfl
theorem qd1 {fn gf:Func} {kr kp:AV→St→Bool} {ds:List AD} {pn:Option (AV × Bool)} {t:Tr AV} {m:Nat} {v:AV} (h:q7 e gf ⟨t,m,[]⟩ s=some v):KY e r fn gf a kr kp ds .normal ⟨t,m,[]⟩ pn s=zw e r fn a kr kp ds (Zb pn) s:=by
 simp only[KY,h]
theorem qt3 {fn gf:Func} {kr kp:AV→St→Bool} {ds:List AD} {pn:Option (AV × Bool)} {t:Tr AV} {m:Nat} {v:AV} (h:q7 e gf ⟨t,m,[]⟩ s=some v):KY e r fn gf a kr kp ds .ret ⟨t,m,[]⟩ pn s=zw e r fn a kr kp ds (Zb pn) s:=by
 simp only[KY,h]
def qnq (v:AV) (args:List AV) (t:Tr AV) (m:Nat) (ds:List AD) (dst:Option Tmp) (s:St) (k:Ac→St→Bool):Bool:=match v with
 | .fn g cap=>zN ⟨t,m,.call g (args++cap)::ds⟩ dst zY s k
 | _=>false
theorem qpg {f:Operand} {args:List Operand} {tys:Array TypeId} {t:Tr AV} {m:Nat} {ds:List AD} {dst:Option Tmp} {ty:TypeId} {pos:String} {after:Array Edge} {k:Ac→St→Bool} {kp:AV→St→Bool} :
  QC e pr r none ⟨dst,.defer { callee:=.value f,args:=args.toArray,argTypes:=tys },ty,pos,after,none⟩ ⟨t,m,ds⟩ s k kp=qnq (Ac.eval ⟨t,m,ds⟩ f) (args.map (Ac.eval ⟨t,m,ds⟩)) t m ds dst s k:=by
 simp only[QC,qnq]
 cases Ac.eval ⟨t,m,ds⟩ f <;> rfl
theorem qfa {g:FuncId} {cap args:List AV} {t:Tr AV} {m:Nat} {ds:List AD} {dst:Option Tmp} {k:Ac→St→Bool}:qnq (.fn g cap) args t m ds dst s k=zN ⟨t,m,.call g (args++cap)::ds⟩ dst zY s k:=(rfl)
end Go.AX
namespace Go.AX
open Go.RowKit
def rB:=(And.intro (And.intro (And.intro (And.intro (And.intro (And.intro (And.intro @in1 @in0) (And.intro @qzg (And.intro @q0b @qw3))) (And.intro (And.intro @q0i @qyv) (And.intro @qu8 (And.intro @qxs @qxo)))) (And.intro (And.intro (And.intro @qvg @qd2) (And.intro @qmg (And.intro @qj7 @qhy))) (And.intro (And.intro @qg7 @qrk) (And.intro @qnf (And.intro @qkr @Wn))))) (And.intro (And.intro (And.intro (And.intro @qgp @qbi) (And.intro @qfu (And.intro @qa9 @qk1))) (And.intro (And.intro @qgt @qd7) (And.intro @qba (And.intro @qjv @qel)))) (And.intro (And.intro (And.intro @quu @qb6) (And.intro @q8c (And.intro @q8w @q48))) (And.intro (And.intro @q8v @qwn) (And.intro @qxu (And.intro @q0a @qvl)))))) (And.intro (And.intro (And.intro (And.intro (And.intro @qvz @qno) (And.intro @q5f (And.intro @q8s @q5w))) (And.intro (And.intro @q5d @qrc) (And.intro @qu3 (And.intro @qzq @q10)))) (And.intro (And.intro (And.intro @qsf @qo3) (And.intro @qph (And.intro @qo6 @qpr))) (And.intro (And.intro @qk5 @q4i) (And.intro @quj (And.intro @qy8 @qV))))) (And.intro (And.intro (And.intro (And.intro @qup @qsr) (And.intro @qkh (And.intro @qyp @qhv))) (And.intro (And.intro @qx4 @qhp) (And.intro @qva (And.intro @qqc @qet)))) (And.intro (And.intro (And.intro @qks @KR) (And.intro @q2e (And.intro @q5k @qui))) (And.intro (And.intro @q5e (And.intro @qdv @qyx)) (And.intro @qmn (And.intro @qgv @qhe))))))) (And.intro (And.intro (And.intro (And.intro (And.intro (And.intro @qp2 @qss) (And.intro @q4c (And.intro @qre @q6z))) (And.intro (And.intro @q54 @q6k) (And.intro @q8a (And.intro @q2q @qjm)))) (And.intro (And.intro (And.intro @q1b @qxc) (And.intro @qdt (And.intro @qrv @qyb))) (And.intro (And.intro @q6v @qsg) (And.intro @qyi (And.intro @qv6 @in_o))))) (And.intro (And.intro (And.intro (And.intro @qry @q1p) (And.intro @qzj (And.intro @q72 @nx0))) (And.intro (And.intro @qa7 @Wl) (And.intro @Wp (And.intro @Wv @qdh)))) (And.intro (And.intro (And.intro @qmv @qg4) (And.intro @qn7 (And.intro @Kp @qc0))) (And.intro (And.intro @qcx (And.intro @qc9 @qb1)) (And.intro @qvj (And.intro @qnv @qu6)))))) (And.intro (And.intro (And.intro (And.intro (And.intro @q7r @q7v) (And.intro @qkb (And.intro @q6r @c_fn))) (And.intro (And.intro @ql9 @qmx) (And.intro @qmj (And.intro @qla @qvw)))) (And.intro (And.intro (And.intro @qxt @qvu) (And.intro @quw (And.intro @qma @q13))) (And.intro (And.intro @qsq @qlr) (And.intro @q4o (And.intro @q61 @qw8))))) (And.intro (And.intro (And.intro (And.intro @q44 @qna) (And.intro @qcl (And.intro @qmr @ne_eq.{1}))) (And.intro (And.intro @not_false_eq_true @List.map_nil.{0,0}) (And.intro @List.map_cons.{0,0} (And.intro @Option.map_none.{0,0} @Option.map_some.{0,0})))) (And.intro (And.intro (And.intro @cond_true.{1} @cond_false.{1}) (And.intro @List.append_nil.{0} (And.intro @List.nil_append.{0} @List.cons_append.{0}))) (And.intro (And.intro @Nat.lt_add_one (And.intro @List.getElem?_cons_zero.{0} @List.getElem?_cons_succ.{0})) (And.intro @Bool.not_true (And.intro @Bool.not_false @Bool.and_true))))))))
def rP:=(And.intro (And.intro (And.intro (And.intro (And.intro @q3v (And.intro @q79 @q3e)) (And.intro (And.intro @q6j @qw9) (And.intro @qw2 @quz))) (And.intro (And.intro (And.intro @qvt @qzi) (And.intro @q23 @q15)) (And.intro (And.intro @qxw @qqd) (And.intro @qn3 @qwc)))) (And.intro (And.intro (And.intro (And.intro @qnh @qxd) (And.intro @qhs @quy)) (And.intro (And.intro @qqg @qrl) (And.intro @qem @qqw))) (And.intro (And.intro (And.intro @qfi @qr5) (And.intro @qn5 @qbn)) (And.intro (And.intro @qga @q2m) (And.intro @q8n @qz3))))) (And.intro (And.intro (And.intro (And.intro (And.intro @qv2 @q3c) (And.intro @qz1 @q0g)) (And.intro (And.intro @q53 @q1i) (And.intro @qyt @q4n))) (And.intro (And.intro (And.intro @qw4 @qoe) (And.intro @qqr @qtv)) (And.intro (And.intro @qod @qpi) (And.intro @qx2 @qox)))) (And.intro (And.intro (And.intro (And.intro @qxr @qi0) (And.intro @qtf @q3m)) (And.intro (And.intro @qqt @q3a) (And.intro @qvd @q0k))) (And.intro (And.intro (And.intro @qyd @q8x) (And.intro @Bool.or_true @Bool.true_or)) (And.intro (And.intro @Bool.or_false @Bool.false_or) (And.intro @Bool.true_and @Bool.and_self))))))
end Go.AX
