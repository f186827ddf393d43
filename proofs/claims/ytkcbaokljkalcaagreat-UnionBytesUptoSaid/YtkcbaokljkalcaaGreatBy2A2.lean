import Derived.Test.YtkcbaokljkalcaaGreatBy2A1
import Derived.RangeFuncIn
import Derived.RangeFuncRecord
import Derived.RangeFuncLeaves
import Derived.RecoverIn
import Derived.Laws.Externs
import Derived.Laws.StandIn
import Derived.Lib.Join
import Derived.Lib.Repeat
import Derived.Sort.KeysCollected
import Derived.StringKeys
import Derived.Sort.EncStr
import Derived.Laws.AppendOwn
import Derived.Lib.IndexAny
import Derived.RowKit3
import Derived.Below
import Derived.ChangeSame
set_option linter.unusedVariables false
set_option linter.unusedSimpArgs false
set_option linter.defProp false
namespace Go.AX
open Go.RowKit
variable {e:Env} {P:Program} {w0:World} {E:Em} {s:St} {w:World} {a:Ac} {A:Act}
def FW (rd:Option Nat):Fence:={ fn:=fun _=>True,depth:=none,alive:=false,round:=rd }
inductive Dep (ops:Array Oper):Nat→Nat→Prop
 | edge {j i:Nat} {o:Oper} {ed:Edge} (ho:ops[j]?=some o) (he:ed∈o.after) (hb:Region.binds .any ed=true) (hi:ed.on=i):Dep ops j i
 | step {j i:Nat} {o:Oper} {ed:Edge} (ho:ops[j]?=some o) (he:ed∈o.after) (hb:Region.binds .any ed=true) (hd:Dep ops ed.on i):Dep ops j i
theorem qiq {ops:Array Oper}:∀ {n j i:Nat},qcv ops n j i=true→Dep ops j i
 | 0,_,_,h=>by simp[qcv] at h
 | n+1,j,i,h=>by
  simp only[qcv] at h
  split at h
  ·rename_i o ho
   rw[List.any_eq_true] at h
   obtain⟨ed,hed,h⟩:=h
   simp only[Bool.and_eq_true,Bool.or_eq_true] at h
   obtain⟨hb,h|h⟩:=h
   ·exact .edge ho (by simpa using hed) hb (beq_eq h)
   ·exact .step ho (by simpa using hed) hb (qiq h)
  ·cases h
section any
variable {F:Fence} {ops:Array Oper} {Q:Exit→Act→World→Prop}
def drop (ops:Array Oper) (j:Nat) (H:Nat→World→Prop):Nat→World→Prop:=fun i w=>¬ Dep ops j i→H i w
def upd (H:Nat→World→Prop) (i:Nat) (S:World→Prop):Nat→World→Prop:=fun j w=>H j w∧(j=i→S w)
def AnyG (F:Fence) (P:Program) (ops:Array Oper) (Q:Exit→Act→World→Prop):(Nat→World→Prop)→Nat→Array Bool→Act→World→Prop
 | _,0,listed,a,w=>Region.ready .any ops listed=[]∧Q .normal a w
 | H,f+1,listed,a,w=>(Region.ready .any ops listed=[]→Q .normal a w) ∧
  ∀ j∈Region.ready .any ops listed,wpOpIn F 0 P ops Q j (fun a' w'=>(∀ i,drop ops j H i w')∧AnyG F P ops Q (drop ops j H) f (listed.setIfInBounds j true) a' w') a w
theorem AnyG.mono:∀ {f:Nat} {H H':Nat→World→Prop} {listed:Array Bool} {a:Act} {w:World},(∀ i w,H i w→H' i w)→AnyG F P ops Q H f listed a w→AnyG F P ops Q H' f listed a w
 | 0,_,_,_,_,_,_,h=>h
 | _+1,_,_,_,_,_,hH,h=>⟨h.1,fun j hj=>wpOpIn_mono (fun _ _ h'=>⟨fun i hd=>hH _ _ (h'.1 i hd),AnyG.mono (fun _ _ hi hd=>hH _ _ (hi hd)) h'.2⟩) (h.2 j hj)⟩
theorem AnyG.any:∀ {f:Nat} {H:Nat→World→Prop} {listed:Array Bool} {a:Act} {w:World},AnyG F P ops Q H f listed a w→wpAnyIn F 0 P .any ops Q f listed a w
 | 0,_,_,_,_,h=>h
 | _+1,_,_,_,_,h=>⟨h.1,fun j hj=>wpOpIn_mono (fun _ _ h'=>h'.2.any) (h.2 j hj)⟩
def Yld (P:Program) (ops:Array Oper) (S:World→Prop) (o:Oper) (V:Value) (a:Act):Prop :=
 (Region.wanted o (yielded ops a.tmps)=true∧∀ w,S w→(execOp a.eval o).run P w=.ok (.value V) w)∨(Region.wanted o (yielded ops a.tmps)=false∧V=undef)
theorem Yld.wpOp {S:World→Prop} {i:Nat} {o:Oper} {V:Value} {a:Act} (hF:∀ f,F.fn f) (hi:ops[i]?=some o) (hnd:∀ c,o.op≠.defer c) (hy:Yld P ops S o V a) {K:Act→World→Prop} (hS:S w) (h:K (a.put o.dst V) w) :
  wpOpIn F 0 P ops Q i K a w:=by
 unfold wpOpIn
 simp only[hi]
 rcases hy with⟨hw,hv⟩|⟨hw,rfl⟩
 ·simp only[hw,if_true,Oper.wpIn]
  refine⟨fun f _=>hF f,?_⟩
  rw[Oper.semAt_eq _ _ _ hnd,hv w hS]
  exact h
 ·simp only[hw,Bool.false_eq_true,if_false]
  exact⟨fun f _=>hF f,h⟩
theorem qov (ro:Option Nat) (o:Oper) (hs:∀ cs b,o.op≠.select cs b) (a:Act) (dst:Option Tmp) (v:Value) (h:∀ d,dst=some d→d∉o.looksAt ops) :
  o.semAt ro (a.put dst v).eval=o.semAt ro a.eval:=by
 have he:=execOp_put (ops:=ops) o hs a dst v h
 unfold Oper.semAt
 split
 ·rename_i l c hc
  have:resolve (a.put dst v).eval c o.type=resolve a.eval c o.type:=resolve_congr c o.type fun x hx=>Act.eval_put fun d hd hxd=>h d hd (by
   subst hxd
   refine List.mem_append_left _ (List.mem_filterMap.2 ⟨.tmp d,?_,rfl⟩)
   rw[hc]
   simpa [Op.operands] using hx)
  rw[this]
 ·exact he
theorem q0u {S:World→Prop} {j:Nat} {oi oj:Oper} {V:Value} (hF:∀ f,F.fn f) (hj:ops[j]?=some oj) (hap:oi.apart ops oj=true) (hsi:∀ cs b,oi.op≠.select cs b) (hsj:∀ cs b,oj.op≠.select cs b)
  (hQ:∀ c a w,Q (.panic c) (a.put oi.dst V) w→Q (.panic c) a w) {K:Act→World→Prop} {a:Act} (hy:Yld P ops S oi V a) (h:wpOpIn F 0 P ops Q j K (a.put oi.dst V) w) :
  wpOpIn F 0 P ops Q j (fun a' w'=>Yld P ops S oi V a'∧K (a'.put oi.dst V) w') a w:=by
 obtain⟨h1,h2,h3⟩:=Oper.apart_spec hap
 have keep:∀ (a:Act),Yld P ops S oi V a→∀ u,Yld P ops S oi V (a.put oj.dst u):=fun a hy u=>by
  unfold Yld at *
  rw[execOp_put oi hsi a oj.dst u h3,wanted_put oi a oj.dst u h3]
  exact hy
 have keepD:∀ d,Yld P ops S oi V { a with defers:=d::a.defers }:=fun d=>hy
 unfold wpOpIn at *
 simp only[hj] at *
 rw[wanted_put oj a oi.dst V h1] at h
 split
 ·rename_i hw
  simp only[hw,if_true] at h
  unfold Oper.wpIn at *
  refine⟨fun f _=>hF f,?_⟩
  have h:=h.2
  rw[qov F.round oj hsj a oi.dst V h1] at h
  generalize (oj.semAt F.round a.eval).run P w=r at *
  cases r with
  | ok n w' =>
   cases n <;> simp only[Oper.uponIn] at h ⊢
   case value u=>exact⟨keep a hy u,by rw[← Act.put_comm a V u h2];exact h⟩
   case skip=>exact⟨keep a hy _,by rw[← Act.put_comm a V undef h2];exact h⟩
   case defer d =>
    refine⟨keep _ (keepD d) _,?_⟩
    rw[← Act.put_comm _ V undef h2,← Act.put_defers]
    exact h
   case enter f args =>
    refine⟨h.1,CallsIn.mono h.2 fun en w'' he=>?_⟩
    cases en with
    | returned u=>exact⟨keep a hy u,by rw[← Act.put_comm a V u h2];exact he⟩
    | panicked c=>exact hQ _ _ _ he
    | outgrown=>exact he
   case row row args=>exact⟨h.1,RowsIn.mono h.2 fun u w'' he=>⟨keep a hy u,by rw[← Act.put_comm a V u h2];exact he⟩⟩
   case round l f tmps as body =>
    refine⟨h.1,RoundIn.mono h.2 fun en w'' he=>?_⟩
    cases en with
    | returned u=>exact⟨keep a hy u,by rw[← Act.put_comm a V u h2];exact he⟩
    | panicked c=>exact hQ _ _ _ he
    | outgrown=>exact he
  | halt x w' =>
   cases x <;> simp only[Oper.uponIn] at h ⊢
   case panic u=>exact hQ _ _ _ h
 ·rename_i hw
  simp only[hw] at h
  exact⟨fun f _=>hF f,keep a hy _,by rw[← Act.put_comm a V undef h2];exact h.2⟩
def Down (ops:Array Oper) (listed:Array Bool):Prop:=∀ j o,ops[j]?=some o→listed.getD j false=true→∀ ed∈o.after,Region.binds .any ed=true→listed.getD ed.on false=true
theorem Down.dep {listed:Array Bool} (h:Down ops listed) {j i:Nat} (hd:Dep ops j i):(∀ o,ops[j]?=some o→∀ ed∈o.after,Region.binds .any ed=true→listed.getD ed.on false=true)→listed.getD i false=true:=by
 induction hd with
 | edge ho he hb hi=>intro hj;rw[← hi];exact hj _ ho _ he hb
 | step ho he hb hd ih =>
  intro hj
  have hm:=hj _ ho _ he hb
  exact ih fun o' ho' ed' he' hb'=>h _ o' ho' hm ed' he' hb'
theorem qcm {listed:Array Bool} {i:Nat} (hi:i < listed.size) (d:Bool):(listed.setIfInBounds i true).getD i d=true:=by
 simp[Array.getD,hi]
theorem Down.set {listed:Array Bool} (h:Down ops listed) {j:Nat} {o:Oper} (ho:ops[j]?=some o) (hr:∀ ed∈o.after,Region.binds .any ed=true→listed.getD ed.on false=true):Down ops (listed.setIfInBounds j true):=by
 intro m om hom hm ed hed hb
 have up:∀ k,listed.getD k false=true→(listed.setIfInBounds j true).getD k false=true:=fun k hk=>getD_set_true hk
 by_cases hmj:m=j
 ·subst hmj;rw[ho] at hom;cases hom;exact up _ (hr ed hed hb)
 ·rw[getD_set_ne false (Ne.symm hmj)] at hm
  exact up _ (h m om hom hm ed hed hb)
theorem qi2 {i:Nat} {oi:Oper} {V:Value} {S:World→Prop} (hF:∀ f,F.fn f) (hi:ops[i]?=some oi) (hnd:∀ c,oi.op≠.defer c) (hsel:∀ (j:Nat) (o:Oper) cs b,ops[j]?=some o→o.op≠.select cs b)
  (hQ:∀ c a w,Q (.panic c) (a.put oi.dst V) w→Q (.panic c) a w) :
  ∀ (f:Nat) (H:Nat→World→Prop) (listed:Array Bool) (a:Act) (w:World),Down ops listed→listed.size=ops.size →
   (∀ j oj,ops[j]?=some oj→j≠i→listed.getD j true=false→(∀ ed∈oj.after,Region.binds .any ed=true→ed.on≠i)→oi.apart ops oj=true) →
   i∈Region.ready .any ops listed→Yld P ops S oi V a→S w→(∀ j,H j w) →
   AnyG F P ops Q (upd H i S) f (listed.setIfInBounds i true) (a.put oi.dst V) w→AnyG F P ops Q H (f+1) listed a w:=by
 intro f
 induction f with
 | zero =>
  intro H listed a w _ _ _ hr hy hS hH G
  refine⟨fun h=>(by rw[h] at hr;cases hr),fun j hj=>?_⟩
  by_cases hji:j=i
  ·subst hji
   exact hy.wpOp hF hi hnd hS ⟨fun i' _=>hH i',G⟩
  ·have:=ready_mono hj hji
   rw[G.1] at this
   cases this
 | succ f ih =>
  intro H listed a w hdn hsz hfree hr hy hS hH G
  refine⟨fun h=>(by rw[h] at hr;cases hr),fun j hj=>?_⟩
  by_cases hji:j=i
  ·subst hji
   exact hy.wpOp hF hi hnd hS ⟨fun i' _=>hH i',AnyG.mono (fun _ _ h _=>h.1) G⟩
  ·have h1:=G.2 j (ready_mono hj hji)
   obtain⟨hjun,oj,hoj,hall⟩:=mem_ready.1 hj
   obtain⟨hiun,oi',hoi',_⟩:=mem_ready.1 hr
   have hilt:i < listed.size:=by
    rw[hsz];exact (Array.getElem?_eq_some_iff.1 hi).1
   have hifalse:listed.getD i false=false:=by
    simp[Array.getD,hilt] at hiun ⊢;exact hiun
   have hnot:∀ ed∈oj.after,Region.binds .any ed=true→ed.on≠i:=fun ed hed hb heq=>by
    have:=hall ed hed hb
    rw[heq,hifalse] at this
    cases this
   have hnd':¬ Dep ops j i:=fun hd=>by
    have:=hdn.dep hd (fun o ho=>by rw[hoj] at ho;cases ho;exact hall)
    rw[hifalse] at this
    cases this
   have h2:=q0u hF hoj (hfree j oj hoj hji hjun hnot) (hsel i oi · · hi) (hsel j oj · · hoj) hQ hy h1
   refine wpOpIn_mono (fun a' w' h3=>?_) h2
   obtain⟨hy',hH',G'⟩:=h3
   refine⟨fun i' hd=>(hH' i' hd).1,ih (drop ops j H) (listed.setIfInBounds j true) a' w' (hdn.set hoj hall) (by simpa using hsz) ?_ (ready_mono hr (Ne.symm hji)) hy' ((hH' i hnd').2 rfl) (fun i' hd=>(hH' i' hd).1) ?_⟩
   ·intro m om hom hmi hmun hmno
    have:m≠j:=by
     rintro rfl
     have hjlt:m < listed.size:=by rw[hsz];exact (Array.getElem?_eq_some_iff.1 hom).1
     rw[qcm hjlt] at hmun
     cases hmun
    rw[getD_set_ne true (Ne.symm this)] at hmun
    exact hfree m om hom hmi hmun hmno
   ·rw[Array.setIfInBounds_comm _ _ hji]
    refine AnyG.mono (fun i' w'' h4=>⟨fun hd=>(h4 hd).1,fun he=>?_⟩) G'
    subst he
    exact (h4 hnd').2 rfl
end any
end Go.AX
namespace Go.AX
open Go.RowKit
variable {e:Env} {P:Program} {w0:World} {E:Em} {s:St} {w:World} {a:Ac} {A:Act}
def DRel (E:Em):List AD→List Deferred→Prop
 | [],L=>L=[]
 | .call f args::ds,L=>∃ B C D,VRels E args (B++C)∧DRel E ds D∧L={ target:=.fn (.func f) C.toArray,args:=B.toArray }::D
 | .mark id::ds,L=>∃ p D,E id=some p∧DRel E ds D∧L={ target:=.collected p.1,args:=#[] }::D
theorem DRel.mono {E E':Em} (hE:E.le E'):∀ {ds:List AD} {L:List Deferred},DRel E ds L→DRel E' ds L
 | [],_,h=>h
 | .call _ _::_,_,⟨B,C,D,h1,h2,h3⟩=>⟨B,C,D,h1.mono hE,h2.mono hE,h3⟩
 | .mark _::_,_,⟨p,D,h1,h2,h3⟩=>⟨p,D,hE _ _ h1,h2.mono hE,h3⟩
structure FRel (E:Em) (a:Ac) (A:Act):Prop extends ARel E a A where
 defs:DRel E a.d A.defers
structure WRel (E:Em) (a:Ac) (A:Act):Prop where
 size:A.tmps.size=a.n
 tmps:∀ i v,a.t.get i=some v→∃ V,A.tmps[i]?=some V∧VRel E v V
 defs:DRel E a.d A.defers
theorem FRel.weak (h:FRel E a A):WRel E a A :=
 ⟨h.tmps.1,fun i v hv=>by have:=h.tmps.2 i;rw[hv] at this;exact this,h.defs⟩
theorem FRel.mono {E E':Em} (h:FRel E a A) (hE:E.le E'):FRel E' a A:=⟨⟨h.tmps.mono hE⟩,h.defs.mono hE⟩
theorem TRel.set {t:Tr AV} {n:Nat} {T:Array Value} (h:TRel E t n T) {d:Nat} (hd:d < n) {v:AV} {V:Value} (hv:VRel E v V):TRel E (t.set d v) n (T.setIfInBounds d V):=by
 refine⟨by simpa using h.1,fun i=>?_⟩
 rw[Tr.get_set]
 by_cases hi:i=d
 ·subst hi
  simp only[if_true]
  exact⟨V,by simp[h.1,hd],hv⟩
 ·simp only[hi,if_false]
  have:=h.2 i
  cases hg:t.get i with
  | none =>
   simp only[hg] at this ⊢
   rw[Array.getD_eq_getD_getElem?,Array.getElem?_setIfInBounds_ne (Ne.symm hi),← Array.getD_eq_getD_getElem?]
   exact this
  | some u =>
   simp only[hg] at this ⊢
   obtain⟨U,h1,h2⟩:=this
   exact⟨U,by rw[Array.getElem?_setIfInBounds_ne (Ne.symm hi)];exact h1,h2⟩
theorem FRel.put (h:FRel E a A) {dst:Option Tmp} {v:AV} {V:Value} {a':Ac} (hv:VRel E v V) (hp:a.put dst v=some a'):FRel E a' (A.put dst V):=by
 unfold Ac.put at hp
 unfold Act.put
 cases dst with
 | none=>simp only[Option.some.injEq] at hp;subst hp;exact h
 | some d =>
  simp only at hp ⊢
  cases hb:Nat.blt d a.n with
  | false=>rw[hb] at hp;cases hp
  | true =>
   rw[hb] at hp
   simp only[cond_true,Option.some.injEq] at hp
   subst hp
   exact⟨⟨h.tmps.set (Nat.blt_eq.mp hb) hv⟩,h.defs⟩
def X5 (E:Em):AE→Exit→Prop
 | .normal,X=>X=.normal
 | .exit i,X=>X=.exit i
 | .goto l,X=>X=.goto l
 | .ret,X=>X=.ret
 | .panic v,X=>∃ V,VRel E v V∧X=.panic [{ v:=V,recovered:=false }]
def q89 (E:Em):AE→Ac→Act→Prop
 | .panic _,a,A=>WRel E a A
 | _,a,A=>FRel E a A
def RdRel (E:Em):Option Nat→Option Nat→Prop
 | none,RD=>RD=none
 | some id,RD=>∃ p,E id=some p∧RD=some p.1
theorem RdRel.mono {E E':Em} (hE:E.le E'):∀ {rd RD:Option Nat},RdRel E rd RD→RdRel E' rd RD
 | none,_,h=>h
 | some _,_,⟨p,h1,h2⟩=>⟨p,hE _ _ h1,h2⟩
def KOk (w0:World) (E:Em) (k:AE→Ac→St→Bool) (Q:Exit→Act→World→Prop):Prop :=
 ∀ E' ex a s X A w,E.le E'→X5 E' ex X→q89 E' ex a A→Sim w0 E' s w→k ex a s=true→Q X A w
def NOk (w0:World) (E:Em) (k:Ac→St→Bool) (N:Act→World→Prop):Prop :=
 ∀ E' a s A w,E.le E'→FRel E' a A→Sim w0 E' s w→k a s=true→N A w
def POk (w0:World) (E:Em) (k:AV→St→Bool) (N:Value→World→Prop):Prop :=
 ∀ E' v s V w,E.le E'→VRel E' v V→Sim w0 E' s w→k v s=true→N V w
theorem KOk.mono {E E':Em} {k:AE→Ac→St→Bool} {Q:Exit→Act→World→Prop} (h:KOk w0 E k Q) (hE:E.le E'):KOk w0 E' k Q:=fun E'' _ _ _ _ _ _ hle=>h E'' _ _ _ _ _ _ (Em.le_trans hE hle)
theorem NOk.mono {E E':Em} {k:Ac→St→Bool} {Q:Act→World→Prop} (h:NOk w0 E k Q) (hE:E.le E'):NOk w0 E' k Q:=fun E'' _ _ _ _ hle=>h E'' _ _ _ _ (Em.le_trans hE hle)
theorem POk.mono {E E':Em} {k:AV→St→Bool} {Q:Value→World→Prop} (h:POk w0 E k Q) (hE:E.le E'):POk w0 E' k Q:=fun E'' _ _ _ _ hle=>h E'' _ _ _ _ (Em.le_trans hE hle)
def Qy (P:Program) (f:FuncId):Prop:=∀ args w,(callFunc f args).run P w=.ok (.enter f args) w
def QF (R:Value→World→Prop) (Rp:Value→World→Prop):Ending→World→Prop
 | .returned v,w=>R v w
 | .panicked ch,w=>∃ v,ch=[{ v,recovered:=false }]∧Rp v w
 | .outgrown,_=>False
def LoopOk (F:Fence) (P:Program) (c:Code) (Q:Exit→Act→World→Prop) (a:Act) (w:World):Prop :=
 ∀ (b:Frame) (k:List Item) (cs:List Frame),b.roundOf=F.round→F.fn b.fn→F.room (cs.length+1+0) →
  ∃ e a' w',Q e a' w'∧ArrivesIn (Machine.fenced P F) P (lone (b.atR a (.code c::.inLoop c::k)) cs w) b k cs e a' w'
theorem LoopOk.round {F:Fence} {c:Code} {Q:Exit→Act→World→Prop} {a:Act} (h:c.wpIn F 0 P (Exit.then (LoopOk F P c Q) Q) a w):LoopOk F P c Q a w:=by
 intro b k cs hro hb hr
 obtain⟨e,a₁,w₁,hq,harr⟩:=h b (.inLoop c::k) cs hro hb hr
 cases e with
 | normal =>
  obtain⟨e₂,a₂,w₂,hq₂,harr₂⟩:=hq b k cs hro hb hr
  exact⟨e₂,a₂,w₂,hq₂,.of_steps (StepsIn.trans harr (.one (fenced_calm hb hr rfl) stepR_inLoop)) harr₂⟩
 | exit id=>exact⟨_,a₁,w₁,hq,.pass (x:=.inLoop c) rfl (fun _ _=>.inl (by simp)) harr⟩
 | goto l=>exact⟨_,a₁,w₁,hq,.pass (x:=.inLoop c) rfl (fun _ _=>.inl (by simp)) harr⟩
 | ret=>exact⟨_,a₁,w₁,hq,.pass (x:=.inLoop c) rfl (fun _ _=>.inl (by simp)) harr⟩
 | panic ch=>exact⟨_,a₁,w₁,hq,.pass (x:=.inLoop c) rfl (fun _ _=>.inl (by simp)) harr⟩
 | outgrown=>exact⟨_,a₁,w₁,hq,.pass (x:=.inLoop c) rfl (fun _ _=>.inl (by simp)) harr⟩
theorem LoopOk.wpIn {F:Fence} {c:Code} {Q:Exit→Act→World→Prop} {a:Act} (h:LoopOk F P c Q a w):(Code.loop c).wpIn F 0 P Q a w:=by
 intro b k cs hro hb hr
 obtain⟨e,a',w',hq,harr⟩:=h b k cs hro hb hr
 exact⟨e,a',w',hq,.of_steps (.one (fenced_calm hb hr rfl) stepR_loop) harr⟩
structure Sound (P:Program) (r:Tasks):Prop where
 code:∀ {rd RD:Option Nat} {c:Code} {a:Ac} {s:St} {k:AE→Ac→St→Bool} {w0 w:World} {E:Em} {A:Act} {Q:Exit→Act→World→Prop},
  r.code rd c a s k=true→RdRel E rd RD→FRel E a A→Sim w0 E s w→KOk w0 E k Q→c.wpIn (FW RD) 0 P Q A w
 loop:∀ {rd RD:Option Nat} {c:Code} {a:Ac} {s:St} {k:AE→Ac→St→Bool} {w0 w:World} {E:Em} {A:Act} {Q:Exit→Act→World→Prop},
  r.code rd (.loop c) a s k=true→RdRel E rd RD→FRel E a A→Sim w0 E s w→KOk w0 E k Q→LoopOk (FW RD) P c Q A w
 call:∀ {f:FuncId} {args:List AV} {s:St} {kr kp:AV→St→Bool} {w0 w:World} {E:Em} {Args:List Value} {R Rp:Value→World→Prop},
  r.call f args s kr kp=true→VRels E args Args→Sim w0 E s w→POk w0 E kr R→POk w0 E kp Rp→Qy P f∧CallsIn (FW none) 0 P f Args.toArray w (QF R Rp)
structure PrimsOk (P:Program) (pr:Prims):Prop where
 ext:∀ {g:FuncId} {args:List AV} {s s':St} {v:AV} {w0 w:World} {E:Em} {Args:List Value},pr.ext g args s=some (v,s')→VRels E args Args→Sim w0 E s w →
  ∃ V w' E',(callFunc g Args.toArray).run P w=.ok (.value V) w'∧E.le E'∧VRel E' v V∧Sim w0 E' s' w'
 fn:∀ {g:FuncId} {args:List AV} {s s':St} {v:AV} {w0 w:World} {E:Em} {Args:List Value},pr.fn g args s=some (v,s')→VRels E args Args→Sim w0 E s w →
  Qy P g∧CallsIn (FW none) 0 P g Args.toArray w fun en w'=>∃ V E',en=.returned V∧E.le E'∧VRel E' v V∧Sim w0 E' s' w'
theorem QR {k:Ac→St→Bool} {N:Act→World→Prop} {dst:Option Tmp} {v:AV} {V:Value} (h:zN a dst v s k=true) (hf:FRel E a A) (hv:VRel E v V) (hs:Sim w0 E s w) (hn:NOk w0 E k N):N (A.put dst V) w:=by
 unfold zN at h
 split at h
 ·rename_i a' ha'
  exact hn E a' s _ w (Em.le_refl E) (hf.put hv ha') hs h
 ·cases h
theorem q4g (RD:Option Nat):∀ f,(FW RD).fn f:=fun _=>trivial
theorem VZ (RD:Option Nat) {n:Nat}:(FW RD).depth.isSome=true→1≤n:=fun h=>by simp[FW] at h
theorem qs6 {RD:Option Nat} {n:Nat} {f:FuncId} {args:Array Value} {R:Ending→World→Prop} (h:CallsIn (FW none) n P f args w R):CallsIn (FW RD) n P f args w R:=h
theorem qau {RD:Option Nat} {o:Oper} {next:Act→World→Prop} {Q:Exit→Act→World→Prop} {f:FuncId} {args:Array Value} {R Rp:Value→World→Prop}
  (h:CallsIn (FW none) 0 P f args w (QF R Rp)) (hn:∀ v w',R v w'→next (A.put o.dst v) w') (hp:∀ v w',Rp v w'→Q (.panic [{ v,recovered:=false }]) A w') :
  o.uponIn (FW RD) 0 P A next Q (.ok (.enter f args) w):=by
 refine⟨VZ RD,CallsIn.mono (qs6 h) fun en w' he=>?_⟩
 cases en with
 | returned v=>exact hn _ _ he
 | panicked ch =>
  obtain⟨v,rfl,he⟩:=he
  exact hp _ _ he
 | outgrown=>exact he.elim
end Go.AX
namespace Go.AX
open Go.RowKit
variable {e:Env} {P:Program} {pr:Prims} {r:Tasks} {w0:World} {E:Em} {s:St} {w:World} {a:Ac} {A:Act}
theorem Xt:∀ {l:List Nat},QB s l=true→Sim w0 E s w→∀ id∈l,Has E s w id
 | [],_,_,_,h=>by cases h
 | id::l,h,hs,i,hi=>by
  unfold QB at h
  split at h
  ·rename_i o ho
   rcases List.mem_cons.1 hi with rfl|hi
   ·exact hs.has ho
   ·exact Xt h hs i hi
  ·cases h
section op
variable {RD:Option Nat} {o:Oper} {next:Act→World→Prop} {Q:Exit→Act→World→Prop}
theorem XS {v:AV} {s':St} {k:Ac→St→Bool} (h:qcz P w0 E w (execOp A.eval o) v s') (hnd:∀ c,o.op≠.defer c) (hf:FRel E a A) (hk:zN a o.dst v s' k=true) (hn:NOk w0 E k next) :
  o.wpIn (FW RD) 0 P A w next Q:=by
 obtain⟨nx,V,w',E',hrun,hnx,hle,hv,hs⟩:=h
 refine⟨fun f _=>trivial,?_⟩
 rw[Oper.semAt_eq _ _ _ hnd,hrun]
 rcases hnx with rfl|⟨rfl,rfl⟩
 ·exact QR hk (hf.mono hle) hv hs (hn.mono hle)
 ·exact QR hk (hf.mono hle) hv hs (hn.mono hle)
theorem Xy (he:EnvOk e P) (hnd:∀ c,o.op≠.defer c) {k:Ac→St→Bool} (h:zA e o a s k=true) (hf:FRel E a A) (hs:Sim w0 E s w) (hn:NOk w0 E k next) :
  o.wpIn (FW RD) 0 P A w next Q:=by
 unfold zA at h
 split at h
 ·rename_i v ids hp
  cases hi:QB s ids with
  | false=>rw[hi] at h;cases h
  | true =>
   rw[hi] at h
   obtain⟨V,hv,hrun⟩:=YH he ⟨w0,w,hs⟩ hf.toARel hp (Xt hi hs)
   exact XS ⟨.value V,V,w,E,hrun,.inl rfl,Em.le_refl E,hv,hs⟩ hnd hf h hn
 ·split at h
  ·rename_i v s' ha
   exact XS (Wc he hs hf.toARel ha) hnd hf h hn
  ·cases h
theorem KS:∀ {ps:List Tmp} {vs:List AV} {t t':Tr AV} {n:Nat} {T:Array Value} {Vs:List Value},Z6 t n ps vs=some t'→TRel E t n T→VRels E vs Vs →
  ps.length=Vs.length∧TRel E t' n ((ps.zip Vs).foldl (fun tmps q=>tmps.setIfInBounds q.1 q.2) T)
 | [],[],_,_,_,_,_,h,ht,hv=>by
  simp only[Z6,Option.some.injEq] at h
  simp only[VRels] at hv
  subst h hv
  exact⟨rfl,ht⟩
 | p::ps,v::vs,t,t',n,T,Vs,h,ht,hv=>by
  simp only[Z6] at h
  simp only[VRels] at hv
  obtain⟨V,Vs',hv,hvs,rfl⟩:=hv
  cases hb:Nat.blt p n with
  | false=>rw[hb] at h;cases h
  | true =>
   rw[hb] at h
   obtain⟨h1,h2⟩:=KS h (ht.set (Nat.blt_eq.mp hb) hv) hvs
   exact⟨by simp[h1],h2⟩
 | [],_::_,_,_,_,_,_,h,_,_=>by simp[Z6] at h
 | _::_,[],_,_,_,_,_,h,_,_=>by simp[Z6] at h
theorem Zx {b:Nat} {O O':Obj} (h:w.heap[b]?=some O):Puts w (w.putObj b O') b O':=by
 have hlt:b < w.heap.size:=(Array.getElem?_eq_some_iff.1 h).1
 exact⟨fun k hk=>World.putObj_heap_other hk,World.putObj_heap_same hlt,by simp[World.putObj],rfl,rfl,rfl⟩
theorem Sim.loop (hs:Sim w0 E s w) {id n:Nat} {st:LoopState} {pd:Option Code} {fn:FuncId} {t:Tr AV} {ps:List Tmp} {as b:Code} {d:Nat} (hg:s.h.get id=some (.loop st pd fn t n ps as b d)) :
  ∃ p L,E id=some p∧w.heap[p.1]?=some (.loop L)∧L.state=st∧L.pending=pd∧TRel E t n L.tmps∧L.params.toList=ps∧L.assign=as∧L.body=b∧ORel E p (.loop st pd fn t n ps as b d) (.loop L):=by
 obtain⟨p,O,hp,hO,hr,_⟩:=hs.obj _ _ hg
 have hr':=hr
 simp only[ORel] at hr
 obtain⟨L,pd',rfl,h1,h2,h3,h4,h5,h6,h7,h8⟩:=hr
 exact⟨p,L,hp,hO,h1,h2,h3,h4,h5,h6,hr'⟩
theorem Jm {p:Nat × Nat × Nat} {st st':LoopState} {pd pd':Option Code} {fn:FuncId} {t:Tr AV} {n:Nat} {ps:List Tmp} {as b:Code} {d:Nat} {L:Loop}
  (h:ORel E p (.loop st pd fn t n ps as b d) (.loop L)):ORel E p (.loop st' pd' fn t n ps as b d) (.loop { L with state:=st',pending:=pd' }):=by
 simp only[ORel] at h ⊢
 obtain⟨L',pd'',h0,h1,h2,h3,h4,h5,h6,h7,h8⟩:=h
 cases h0
 exact⟨_,pd'',rfl,rfl,rfl,h3,h4,h5,h6,h7,h8⟩
theorem qh4 {id:Nat} {jump:Option Code} {k:AV→St→Bool} {N:Value→World→Prop} {p:Nat × Nat × Nat} (h:qb2 s id jump jump.isNone k=true) (hs:Sim w0 E s w) (hp:E id=some p) (hk:POk w0 E k N) :
  ∃ v w',(Instr.endRound p.1 jump).run P w=.ok v w'∧N v w':=by
 unfold qb2 at h
 split at h
 ·rename_i s' hs'
  unfold Xr at hs'
  split at hs'
  ·rename_i st pd fn t n ps as b d hg
   simp only[Option.some.injEq] at hs'
   obtain⟨p',L,hp',hO,_,_,_,_,_,_,hr⟩:=hs.loop hg
   rw[hp] at hp';cases hp'
   refine⟨_,_,run_endRound jump hO,hk E _ _ _ _ (Em.le_refl E) zW ?_ h⟩
   rw[← hs']
   cases jump with
   | none=>exact hs.puts hg hp (Zx hO) (Jm hr)
   | some j=>exact hs.puts hg hp (Zx hO) (Jm hr)
  ·cases hs'
 ·cases h
theorem Sim.same {id:Nat} {p p':Nat × Nat × Nat} (h:E id=some p) {E':Em} (hE:E.le E') (h':E' id=some p'):p'=p:=by
 rw[hE _ _ h] at h';cases h';rfl
theorem qgr (hr:Sound P r) {id:Nat} {args:List AV} {Args:List Value} {k:AV→St→Bool} {N:Value→World→Prop} {p:Nat × Nat × Nat} (h:ZO r id args s k=true) (hp:E id=some p) (hv:VRels E args Args) (hs:Sim w0 E s w) (hk:POk w0 E k N) :
  ∃ f tmps as body,(Instr.yield p.1 Args.toArray).run P w=.ok (.round p.1 f tmps as body) w∧RoundIn (FW RD) 0 P p.1 f tmps as body w (QF N fun _ _=>False):=by
 unfold ZO at h
 split at h
 ·rename_i st pd fn t n ps as body d hg
  split at h
  ·rename_i t' ht'
   obtain⟨p',L,hp',hO,h1,h2,h3,h4,h5,h6,h7⟩:=hs.loop hg
   rw[hp] at hp';cases hp'
   obtain⟨hlen,hT⟩:=KS ht' h3 hv
   have hlen':Args.toArray.size=L.params.size:=by
    have:L.params.size=ps.length:=by rw[← h4];simp
    simp[this,hlen]
   refine⟨L.fn,_,L.assign,L.body,run_yield hO hlen',roundIn_of_wpIn trivial ?_⟩
   have hfold:((L.params.zip Args.toArray).foldl (fun tmps (t,a)=>tmps.setIfInBounds t a) L.tmps)=(ps.zip Args).foldl (fun tmps q=>tmps.setIfInBounds q.1 q.2) L.tmps:=by
    rw[← h4,← Array.foldl_toList]
    simp
   rw[hfold,h5]
   refine hr.code (E:=E) (RD:=some p.1) h ⟨p,hp,rfl⟩ (A:={ tmps:=_,defers:=[] }) ⟨⟨hT⟩,rfl⟩ hs ?_
   intro E1 ex a1 s1 X A1 w1 hE1 hX hG hs1 hk1
   cases ex with
   | normal =>
    simp only[X5] at hX;subst hX
    simp only at hk1
    split at hk1
    ·rename_i pd1 fn1 t1 n1 ps1 as1 b1 d1 hg1
     obtain⟨p1,L1,hp1,hO1,g1,g2,g3,g4,g5,g6,g7⟩:=hs1.loop hg1
     cases Sim.same hp hE1 hp1
     refine⟨_,run_beginRound hO1 g1,?_⟩
     rw[h6]
     have hs2:Sim w0 E1 { s1 with h:=s1.h.set id (.loop .busy pd1 fn1 t1 n1 ps1 as1 b1 d1) } (w1.putObj p.1 (.loop { L1 with state:=.busy })):=by
      refine hs1.puts hg1 hp1 (Zx hO1) ?_
      have:=Jm (st':=.busy) (pd':=pd1) g7
      rw[← g2] at this
      simpa [g2] using this
     refine hr.code hk1 ⟨p,hE1 _ _ hp,rfl⟩ hG hs2 ?_
     intro E2 ex a2 s2 X A2 w2 hE2 hX hG hs2 hk2
     have hp2:=hE2 _ _ hp1
     have hkk:=hk.mono (Em.le_trans hE1 hE2)
     cases ex with
     | normal=>simp only[X5] at hX;subst hX;exact qh4 (jump:=none) hk2 hs2 hp2 hkk
     | ret=>simp only[X5] at hX;subst hX;exact qh4 (jump:=some .ret) hk2 hs2 hp2 hkk
     | exit j=>simp only[X5] at hX;subst hX;exact qh4 (jump:=some (.exit j)) hk2 hs2 hp2 hkk
     | goto j=>simp only[X5] at hX;subst hX;exact qh4 (jump:=some (.goto j)) hk2 hs2 hp2 hkk
     | panic v=>cases hk2
    ·cases hk1
   | exit j=>cases hk1
   | goto j=>cases hk1
   | ret=>cases hk1
   | panic v=>cases hk1
  ·cases h
 ·cases h
theorem Yv {ρ:Operand→Value} {c:Call} {ty:TypeId} {f:Operand} {fn:Fn} {C:Array Value} (hcal:c.callee=.value f) (hV:ρ f=.func fn #[] C) :
  resolve ρ c ty=pure { target:=.fn fn C,args:=(c.args.toList.map ρ).toArray }:=by
 unfold resolve
 rw[hcal]
 show Deferred.ofValue (ρ f) _=_
 rw[hV]
 have:(c.args.toList.map ρ).toArray=c.args.map ρ:=by rw[← Array.toList_map]
 rw[this]
 simp[Deferred.ofValue]
theorem memN_iff {i:Nat}:∀ {l:List Nat},qbs i l=true↔i∈l
 | []=>by simp[qbs]
 | j::l=>by
  simp only[qbs,List.mem_cons]
  cases hb:Nat.beq i j with
  | true=>simp[Nat.eq_of_beq_eq_true hb]
  | false=>simp only[cond_false,memN_iff (l:=l),Nat.ne_of_beq_eq_false hb,false_or]
theorem W0 {seen:List Nat}:∀ {es:List (AV × AV)} {ix:List Nat} {j i:Nat} {q:AV × AV},es[j]?=some q→ix[j]?=some i→i∉seen→(i,q)∈zE seen es ix
 | [],_,_,_,_,h,_,_=>by simp at h
 | _::_,[],_,_,_,_,h,_=>by simp at h
 | r::es,k::ix,j,i,q,h1,h2,h3=>by
  simp only[zE]
  cases j with
  | zero =>
   simp at h1 h2
   subst h1 h2
   cases hb:qbs k seen with
   | true=>exact absurd (memN_iff.1 hb) h3
   | false=>simp
  | succ j =>
   have:=W0 (by simpa using h1) (by simpa using h2) h3
   cases hb:qbs k seen with
   | true=>simpa using this
   | false=>simp only[cond_false,List.mem_cons];exact Or.inr this
theorem Xn {seen:List Nat}:∀ {es:List (AV × AV)} {ix:List Nat} {x:Nat × (AV × AV)},x∈zE seen es ix→∃ j:Nat,es[j]?=some x.2∧ix[j]?=some x.1∧x.1∉seen
 | [],_,_,h=>by simp[zE] at h
 | _::_,[],_,h=>by simp[zE] at h
 | r::es,k::ix,x,h=>by
  simp only[zE] at h
  have up:x∈zE seen es ix→∃ j:Nat,(r::es)[j]?=some x.2∧(k::ix)[j]?=some x.1∧x.1∉seen:=fun h=>by
   obtain⟨j,h1,h2,h3⟩:=Xn h
   exact⟨j+1,by simpa using h1,by simpa using h2,h3⟩
  cases hb:qbs k seen with
  | true=>rw[hb] at h;exact up h
  | false =>
   rw[hb] at h
   simp only[cond_false,List.mem_cons] at h
   rcases h with rfl|h
   ·exact⟨0,rfl,rfl,fun hk=>by rw[memN_iff.2 hk] at hb;cases hb⟩
   ·exact up h
theorem qxz {K i j:Nat} (hn:(stN K).Nodup) (hi:i < (stN K).length) (hj:j < (stN K).length) (h:bth K i=bth K j):i=j:=by
 unfold bth at h
 rw[List.getD_eq_getElem?_getD,List.getD_eq_getElem?_getD,List.getElem?_eq_getElem hi,List.getElem?_eq_getElem hj] at h
 simp only[Option.getD_some] at h
 exact (List.getElem_inj hn).1 h
theorem qkl (hs:Sim w0 E s w) {x:AV} {X:Value} (hx:VRel E x X) {k:AV→St→Bool} (h:Kk s x k=true) (ty:TypeId) :
  ∃ v s',k v s'=true∧Acts P w0 E w (Instr.next X false ty) v s':=by
 unfold Kk at h
 split at h
 ·rename_i id
  split at h
  ·rename_i m seen hg
   split at h
   ·rename_i es it ix hgm
    cases hb:Nat.beq it id with
    | false=>rw[hb] at h;cases h
    | true =>
     rw[hb] at h
     simp only[cond_true] at h
     have hb:=Nat.eq_of_beq_eq_true hb
     subst hb
     obtain⟨p,O,hp,hO,hrel,_⟩:=hs.obj it _ hg
     obtain⟨pm,O2,hpm,hO2,hrel2,_⟩:=hs.obj m _ hgm
     simp only[ORel] at hrel hrel2
     obtain⟨pm',e1,rfl,hnd,hlt,h0⟩:=hrel
     rw[hpm] at e1;cases e1
     obtain⟨en,pi,e2,rfl,hM,hB,hst,hix⟩:=hrel2
     rw[hp] at e2;cases e2
     simp only[VRel] at hx
     obtain⟨p',hp',rfl⟩:=hx
     rw[hp] at hp';cases hp'
     have hX:(⟨p.1,p.2.1+0,none⟩:Addr)=⟨p.1,0,none⟩:=by rw[h0]
     rw[hX]
     have hlen:en.toList.length=ix.length:=by have:=congrArg List.length hst;simpa using this
     have hseen:∀ {j i:Nat} {e:MapEntry},en.toList[j]?=some e→ix[j]?=some i→(((seen.map (bth p.2.2)).reverse.toArray).contains e.born=true↔i∈seen):=fun {j i e} hj hi=>by
      have hborn:e.born=bth p.2.2 i:=by
       have:=congrArg (fun l=>l[j]?) hst
       simp only[List.getElem?_map,hj,hi,Option.map_some,Option.some.injEq] at this
       exact this
      simp only[Array.contains_iff_mem,List.mem_toArray,List.mem_reverse,List.mem_map]
      constructor
      ·rintro⟨a,ha,hab⟩
       rw[hborn] at hab
       rw[← qxz hnd (hlt a ha) (hix i (List.mem_of_getElem? hi)) hab]
       exact ha
      ·intro hm
       exact⟨i,hm,hborn.symm⟩
     rcases run_next_at (P:=P) w ty p.1 pm.1 (clN p.2.2) (clN p.2.2) ((seen.map (bth p.2.2)).reverse.toArray) en (clN p.2.2) hO hO2 hB.1 (Nat.le_refl _) with⟨hz,hrun⟩|⟨e,he,w1,hw1,hrun⟩
     ·have hnil:zE seen es ix=[]:=by
       cases hl:zE seen es ix with
       | nil=>rfl
       | cons y l =>
        exfalso
        obtain⟨j,j1,j2,j3⟩:=Xn (show y∈zE seen es ix from by rw[hl];simp)
        obtain⟨mm,m1,_,_⟩:=hM.get j1
        have hmem:mm∈(leftOf en ((seen.map (bth p.2.2)).reverse.toArray)):=by
         unfold leftOf
         rw[Array.mem_filter]
         refine⟨by have:=List.mem_of_getElem? m1;simpa using this,?_⟩
         have:=(hseen m1 j2)
         cases hc:((seen.map (bth p.2.2)).reverse.toArray).contains mm.born with
         | true=>exact absurd (this.1 hc) j3
         | false=>rfl
        rw[Array.eq_empty_of_size_eq_zero hz] at hmem
        simp at hmem
      rw[hnil] at h
      refine⟨_,_,h,.tuple #[.bool false],w,E,hrun,Em.le_refl E,?_,?_⟩
      ·simp only[VRel];exact⟨[.bool false],VRels.cons zW VRels.nil,rfl⟩
      ·refine hs.weak rfl fun i o' ho'=>?_
       simp only[Tr.get_set] at ho'
       by_cases him:i=m
       ·subst him
        rw[if_pos rfl] at ho'
        cases ho'
        refine⟨_,hgm,fun p' O' hr=>?_,fun cs hcs=>by cases hcs⟩
        simp only[ORel] at hr ⊢
        obtain⟨en',pi',_,r1,r2,r3,_⟩:=hr
        exact⟨en',_,r1,r2,r3⟩
       ·rw[if_neg him] at ho'
        exact⟨o',ho',fun _ _ h=>h,fun _ h=>h⟩
     ·unfold leftOf at he
      simp only[Array.toList_filter,List.mem_filter] at he
      obtain⟨he1,he2⟩:=he
      obtain⟨j,hj⟩:=List.mem_iff_getElem?.1 he1
      have hjl:j < en.toList.length:=(List.getElem?_eq_some_iff.1 hj).1
      obtain⟨i,hi⟩:∃ i,ix[j]?=some i:=⟨ix[j]'(by omega),List.getElem?_eq_getElem (by omega)⟩
      have hesl:es.length=en.toList.length:=hM.length.symm
      obtain⟨q,hq⟩:∃ q,es[j]?=some q:=⟨es[j]'(by omega),List.getElem?_eq_getElem (by omega)⟩
      obtain⟨mm,m1,m2,m3⟩:=hM.get hq
      rw[hj] at m1;cases m1
      have hni:i∉seen:=fun hmem=>by
       have:=(hseen hj hi).2 hmem
       rw[this] at he2
       cases he2
      have hmem:=W0 hq hi hni
      have hborn:e.born=bth p.2.2 i:=by
       have:=congrArg (fun l=>l[j]?) hst
       simp only[List.getElem?_map,hj,hi,Option.map_some,Option.some.injEq] at this
       exact this
      split at h
      ·rename_i hl;rw[hl] at hmem;cases hmem
      ·rename_i y l hl
       rw[hl] at hmem
       have hk:=List.all_eq_true.1 h _ hmem
       refine⟨_,_,hk,.tuple #[.bool true,e.key,e.val],_,E,hrun,Em.le_refl E,?_,?_⟩
       ·simp only[VRel];exact⟨[.bool true,e.key,e.val],VRels.cons zW (VRels.cons m2 (VRels.cons m3 VRels.nil)),rfl⟩
       ·have hs1:Sim w0 E s w1:=by rcases hw1 with rfl|rfl;exact hs;exact hs.drew
        have hO1:w1.heap[p.1]?=some (.mapIter (some pm.1) (clN p.2.2) ((seen.map (bth p.2.2)).reverse.toArray) (clN p.2.2)):=by rcases hw1 with rfl|rfl <;> exact hO
        refine hs1.puts (o':=.miter m (i::seen)) hg hp (ZT (O':=.mapIter (some pm.1) (clN p.2.2) (((seen.map (bth p.2.2)).reverse.toArray).push e.born) (clN p.2.2)) hO1) ?_
        simp only[ORel]
        refine⟨pm,hpm,by rw[hborn];simp,hnd,?_,h0⟩
        intro a ha
        rcases List.mem_cons.1 ha with rfl|ha
        ·exact hix _ (List.mem_of_getElem? hi)
        ·exact hlt a ha
   ·cases h
  ·cases h
 ·cases h
theorem qak (he:EnvOk e P) (hpr:PrimsOk P pr) (hr:Sound P r) {rd:Option Nat} {k:Ac→St→Bool} {kp:AV→St→Bool} (h:QC e pr r rd o a s k kp=true) (hrd:RdRel E rd RD) (hf:FRel E a A) (hs:Sim w0 E s w)
  (hn:NOk w0 E k next) (hq:POk w0 E kp fun V w'=>Q (.panic [{ v:=V,recovered:=false }]) A w'):o.wpIn (FW RD) 0 P A w next Q:=by
 unfold QC at h
 split at h
 ·-- panic
  rename_i x hx
  split at h
  ·rename_i t v hv
   have hv':=qw hf.toARel x
   rw[hv] at hv'
   have hv2:=hv'
   simp only[VRel] at hv'
   obtain⟨U,hU,hV⟩:=hv'
   refine⟨fun f _=>trivial,?_⟩
   rw[Oper.semAt_eq _ _ _ (by simp[hx])]
   have:(execOp A.eval o).run P w=.halt (.panic (A.eval x)) w:=by
    unfold execOp
    rw[hx]
    show ((do pure (Next.value (← Instr.panic (A.eval x)))):Sem Next).run P w=_
    rw[hV]
    simp[Instr.panic,goPanic,Result.andThen]
   rw[this]
   exact hq E _ s _ w (Em.le_refl E) hv2 hs h
  ·cases h
 ·-- defer
  rename_i c hc
  split at h
  ·rename_i f hcal
   split at h
   ·rename_i g cap hfv
    have hv':=qw hf.toARel f
    rw[hfv] at hv'
    simp only[VRel] at hv'
    obtain⟨C,hC,hV⟩:=hv'
    simp only[RdRel] at hrd
    subst hrd
    refine⟨fun f _=>trivial,?_⟩
    have hrun:(o.semAt (FW none).round A.eval).run P w=.ok (.defer { target:=.fn (.func g) C.toArray,args:=(c.args.toList.map A.eval).toArray }) w:=by
     show (execOp A.eval o).run P w=_
     unfold execOp
     rw[hc]
     show ((do pure (Next.defer (← resolve A.eval c o.type))):Sem Next).run P w=_
     rw[Yv hcal hV]
     simp
    rw[hrun]
    have hfd:FRel E { a with d:=.call g (c.args.toList.map a.eval++cap)::a.d } { A with defers:={ target:=.fn (.func g) C.toArray,args:=(c.args.toList.map A.eval).toArray }::A.defers } :=
     ⟨⟨hf.tmps⟩,⟨_,C,_,VRels.append (QI hf.toARel _) hC,hf.defs,rfl⟩⟩
    exact QR h hfd Z4 hs hn
   ·cases h
  ·cases h
 ·-- call
  rename_i c hc
  split at h
  ·rename_i f hcal
   have hv':=qw hf.toARel f
   split at h
   ·rename_i g cap hfv
    rw[hfv] at hv'
    simp only[VRel] at hv'
    obtain⟨C,hC,hV⟩:=hv'
    have hargs:VRels E (c.args.toList.map a.eval++cap) (c.args.toList.map A.eval++C):=VRels.append (QI hf.toARel _) hC
    have hrun:(o.semAt (FW RD).round A.eval).run P w=(callFunc g (c.args.toList.map A.eval++C).toArray).run P w:=by
     rw[Oper.semAt_eq _ _ _ (by simp[hc])]
     unfold execOp
     rw[hc]
     show ((do let d ← resolve A.eval c o.type;invoke d.target d.args):Sem Next).run P w=_
     rw[Yv hcal hV]
     simp[invoke]
    refine⟨fun f _=>trivial,?_⟩
    rw[hrun]
    split at h
    ·rename_i v s' hx
     obtain⟨V,w',E',hcr,hle,hv,hs'⟩:=hpr.ext hx hargs hs
     rw[hcr]
     exact QR h (hf.mono hle) hv hs' (hn.mono hle)
    ·split at h
     ·rename_i v s' hx
      obtain⟨hen,hcalls⟩:=hpr.fn hx hargs hs
      rw[hen]
      refine qau (R:=fun V w'=>next (A.put o.dst V) w') (Rp:=fun _ _=>False) (CallsIn.mono hcalls fun en w' hen=>?_) (fun _ _ h=>h) (fun _ _ h=>h.elim)
      obtain⟨V,E',rfl,hle,hv,hs'⟩:=hen
      exact QR h (hf.mono hle) hv hs' (hn.mono hle)
     ·obtain⟨hen,hcalls⟩:=hr.call (R:=fun V w'=>next (A.put o.dst V) w') (Rp:=fun V w'=>Q (.panic [{ v:=V,recovered:=false }]) A w') h hargs hs
       (fun E' v s' V w' hle hv hs' hk=>QR hk (hf.mono hle) hv hs' (hn.mono hle)) hq
      rw[hen]
      exact qau hcalls (fun _ _ h=>h) (fun _ _ h=>h)
   ·rename_i id hfv
    rw[hfv] at hv'
    simp only[VRel] at hv'
    obtain⟨p,hp,hV⟩:=hv'
    have hrun:(o.semAt (FW RD).round A.eval).run P w=(Instr.yield p.1 (c.args.toList.map A.eval).toArray).run P w:=by
     rw[Oper.semAt_eq _ _ _ (by simp[hc])]
     unfold execOp
     rw[hc]
     show ((do let d ← resolve A.eval c o.type;invoke d.target d.args):Sem Next).run P w=_
     rw[Yv hcal hV]
     simp[invoke]
    obtain⟨g,tmps,as,body,hy,hrn⟩:=qgr (RD:=RD) hr (N:=fun V w'=>next (A.put o.dst V) w') h hp (QI hf.toARel _) hs
     (fun E' v s' V w' hle hv hs' hk=>QR hk (hf.mono hle) hv hs' (hn.mono hle))
    refine⟨fun f _=>trivial,?_⟩
    rw[hrun,hy]
    refine⟨VZ RD,RoundIn.mono hrn fun en w' hen=>?_⟩
    cases en with
    | returned v=>exact hen
    | panicked ch=>obtain⟨_,_,hh⟩:=hen;exact hh.elim
    | outgrown=>exact hen.elim
   ·cases h
  ·exact Xy he (by simp[hc]) h hf hs hn
 ·-- the next of a map
  rename_i it hit
  obtain⟨v,s',hk,hA⟩:=qkl (P:=P) hs (qw hf.toARel it) h o.type
  refine XS (v:=v) (s':=s') ?_ (by simp[hit]) hf hk hn
  have:execOp A.eval o=(do pure (Next.value (← Instr.next (A.eval it) false o.type))):=by
   unfold execOp
   rw[hit]
  rw[this]
  exact hA.value
 ·rename_i _ h2 _ _
  exact Xy he (fun c hc=>h2 c hc) h hf hs hn
end op
end Go.AX
namespace Go.AX
open Go.RowKit
variable {e:Env} {P:Program} {pr:Prims} {r:Tasks} {w0:World} {E:Em} {s:St} {w:World} {a:Ac} {A:Act}
theorem Qw (hf:FRel E a A) {ops:Array Oper} {o:Oper} {b:Bool} (h:Qd ops.toList a o=some b):Region.wanted o (yielded ops A.tmps)=b:=by
 unfold Qd at h
 unfold Region.wanted
 split at h
 ·rename_i hg
  rw[hg]
  simpa using h
 ·rename_i j want hg
  rw[hg]
  simp only
  split at h
  ·rename_i oj hoj
   have hoj':ops[j]?=some oj:=by simpa using hoj
   split at h
   ·rename_i d hd
    have ht:=hf.tmps.2 d
    split at h
    ·rename_i b' hb
     rw[hb] at ht
     obtain⟨V,h1,h2⟩:=ht
     simp only[VRel] at h2
     subst h2
     have hy:yielded ops A.tmps j=some b':=by
      unfold yielded
      rw[hoj']
      simp only[Option.bind_some,hd,h1]
     rw[hy]
     simp only[Option.some.injEq] at h
     rw[← h]
     cases b' <;> cases want <;> rfl
    ·rename_i vs hb
     rw[hb] at ht
     obtain⟨V,h1,h2⟩:=ht
     simp only[VRel] at h2
     subst h2
     have hy:yielded ops A.tmps j=none:=by
      unfold yielded
      rw[hoj']
      simp only[Option.bind_some,hd,h1]
     rw[hy]
     simp only[Option.some.injEq] at h
     rw[← h]
     rfl
    ·cases h
   ·cases h
  ·cases h
section reg
variable {RD:Option Nat} {rd:Option Nat} {Q:Exit→Act→World→Prop} {ops:Array Oper}
theorem qf7 (he:EnvOk e P) (hpr:PrimsOk P pr) (hr:Sound P r):∀ (l:List Oper) (i:Nat) (a:Ac) (s:St) (k:AE→Ac→St→Bool) (E:Em) (A:Act) (w:World),ops.toList.drop i=l→V7 e pr r rd ops.toList l a s k=true→RdRel E rd RD→FRel E a A→Sim w0 E s w→KOk w0 E k Q →
  wpOpsIn (FW RD) 0 P ops Q (List.range' i l.length) A w:=by
 intro l
 induction l with
 | nil =>
  intro i a s k E A w _ h hrd hf hs hk
  exact hk E .normal a s .normal A w (Em.le_refl E) rfl hf hs h
 | cons o l ih =>
  intro i a s k E A w hl h hrd hf hs hk
  have hi:ops[i]?=some o:=by
   have:(ops.toList.drop i)[0]?=some o:=by rw[hl];rfl
   simpa using this
  have hl':ops.toList.drop (i+1)=l:=by
   have:(ops.toList.drop i).drop 1=l:=by rw[hl];rfl
   simpa using this
  rw[List.length_cons,List.range'_succ,wpOpsIn_cons]
  unfold wpOpIn
  simp only[hi]
  simp only[V7] at h
  have nx:NOk w0 E (fun a' s'=>V7 e pr r rd ops.toList l a' s' k) (wpOpsIn (FW RD) 0 P ops Q (List.range' (i+1) l.length)) :=
   fun E' a' s' A' w' hle hf' hs' hk'=>ih (i+1) a' s' k E' A' w' hl' hk' (hrd.mono hle) hf' hs' (hk.mono hle)
  split at h
  ·rename_i hw
   simp only[Qw hf hw,if_true]
   exact qak he hpr hr h hrd hf hs nx (fun E' v s' V w' hle hv hs' hk'=>hk E' (.panic v) a s' _ A w' hle ⟨V,hv,rfl⟩ (hf.mono hle).weak hs' hk')
  ·rename_i hw
   simp only[Qw hf hw,Bool.false_eq_true,if_false]
   exact⟨fun f _=>trivial,QR h hf Z4 hs nx⟩
  ·cases h
def Off (ops:Array Oper) (A A':Act):Prop:=A'.tmps.size=A.tmps.size∧A'.defers=A.defers∧∀ i,(∀ o∈ops.toList,o.dst≠some i)→A'.tmps[i]?=A.tmps[i]?
def q4p (ops:Array Oper) (Q:Exit→Act→World→Prop):Exit→Act→World→Prop
 | .panic c,A,w=>∀ A',Off ops A A'→Q (.panic c) A' w
 | X,A,w=>Q X A w
theorem qyq {X:Exit} (h:q4p ops Q X A w):Q X A w:=by
 cases X with
 | panic c=>exact h A ⟨rfl,rfl,fun _ _=>rfl⟩
 | _=>exact h
theorem qsh {i:Nat} {o:Oper} {V:Value} (hi:ops[i]?=some o) {c:List PanicEntry} (h:q4p ops Q (.panic c) (A.put o.dst V) w):q4p ops Q (.panic c) A w:=by
 intro A' hA'
 refine h A' ⟨?_,?_,fun j hj=>?_⟩
 ·rw[hA'.1];unfold Act.put;split <;> simp
 ·rw[hA'.2.1];unfold Act.put;split <;> rfl
 ·rw[hA'.2.2 j hj]
  unfold Act.put
  split
  ·rename_i d hd
   have:d≠j:=fun e=>hj o (by have:=Array.mem_of_getElem? hi;simpa using this) (by rw[hd,e])
   rw[Array.getElem?_setIfInBounds_ne this]
  ·rfl
theorem Vh:∀ {l:List Oper} {t:Tr AV} {i:Nat} {v:AV},(Yl t l).get i=some v→t.get i=some v∧∀ o∈l,o.dst≠some i
 | [],t,i,v,h=>⟨h,fun _ h=>by cases h⟩
 | o::l,t,i,v,h=>by
  unfold Yl at h
  split at h
  ·rename_i d hd
   obtain⟨h1,h2⟩:=Vh h
   rw[Tr.get_del] at h1
   by_cases hi:i=d
   ·rw[if_pos hi] at h1;cases h1
   ·rw[if_neg hi] at h1
    refine⟨h1,fun o' ho'=>?_⟩
    rcases List.mem_cons.1 ho' with rfl|ho'
    ·rw[hd];exact fun e=>hi (Option.some.inj e).symm
    ·exact h2 o' ho'
  ·rename_i hd
   obtain⟨h1,h2⟩:=Vh h
   refine⟨h1,fun o' ho'=>?_⟩
   rcases List.mem_cons.1 ho' with rfl|ho'
   ·rw[hd];exact fun e=>by cases e
   ·exact h2 o' ho'
theorem qr0 (hf:FRel E a A) {A':Act} (h:Off ops A A'):WRel E { a with t:=Yl a.t ops.toList } A':=by
 refine⟨h.1.trans hf.tmps.1,fun i v hv=>?_,by rw[h.2.1];exact hf.defs⟩
 obtain⟨h1,h2⟩:=Vh hv
 rw[h.2.2 i h2]
 exact hf.weak.tmps i v h1
theorem MRels.back {E E':Em} (hE:E.le E'):∀ {es:List (AV × AV)} {L L':List MapEntry},MRels E es L→MRels E' es L'→MRels E es L'
 | [],_,_,_,h'=>h'
 | (k,v)::es,L,L',h,h'=>by
  simp only[MRels] at h h' ⊢
  obtain⟨x,y,h1,h2,h3,rfl⟩:=h
  obtain⟨x',y',h1',h2',h3',rfl⟩:=h'
  refine⟨x',y',?_,?_,MRels.back hE h3 h3',rfl⟩
  ·rw[VRel.same hE _ _ _ h1 h1'];exact h1
  ·rw[VRel.same hE _ _ _ h2 h2'];exact h2
theorem TRel.back {E E':Em} (hE:E.le E') {t:Tr AV} {n:Nat} {T T':Array Value} (h:TRel E t n T) (h':TRel E' t n T'):TRel E t n T':=by
 refine⟨h'.1,fun i=>?_⟩
 have h1:=h.2 i
 have h2:=h'.2 i
 cases hg:t.get i with
 | none=>simpa [hg] using h2
 | some v =>
  simp only[hg] at h1 h2 ⊢
  obtain⟨V,_,h1⟩:=h1
  obtain⟨V',h2,h2'⟩:=h2
  exact⟨V',h2,by rw[VRel.same hE _ _ _ h1 h2'];exact h1⟩
theorem ORel.back {E E':Em} (hE:E.le E') {p:Nat × Nat × Nat} {o:AO} {O O':Obj} (h:ORel E p o O) (h':ORel E' p o O'):ORel E p o O':=by
 cases o with
 | cells cs el frz =>
  simp only[ORel] at h h' ⊢
  obtain⟨C,fz,rfl,hc,hf⟩:=h
  obtain⟨C',fz',rfl,hc',hf'⟩:=h'
  refine⟨C',fz',rfl,fun i v hv=>?_,hf'⟩
  obtain⟨V,_,h2⟩:=hc i v hv
  obtain⟨V',h1',h2'⟩:=hc' i v hv
  exact⟨V',h1',by rw[VRel.same hE _ _ _ h2 h2'];exact h2⟩
 | map es =>
  simp only[ORel] at h h' ⊢
  obtain⟨en,ck,rfl,hm,_⟩:=h
  obtain⟨en',ck',rfl,hm',hB'⟩:=h'
  exact⟨en',ck',rfl,hm.back hE hm',hB'⟩
 | loop st pend fn t n ps as b d =>
  simp only[ORel] at h h' ⊢
  obtain⟨L,pd,h1,h2,h3,h4,h5,h6,h7,h8,h9⟩:=h
  obtain⟨L',pd',h1',h2',h3',h4',h5',h6',h7',h8',h9'⟩:=h'
  rw[hE _ _ h8] at h8'
  cases h8'
  exact⟨L',pd,h1',h2',h3',h4.back hE h4',h5',h6',h7',h8,h9'⟩
 | dfr taken=>simpa [ORel] using h'
 | siter s pos left=>simpa [ORel] using h'
 | rmap es it ix =>
  simp only[ORel] at h h' ⊢
  obtain⟨en,pi,h1,rfl,hm,_⟩:=h
  obtain⟨en',pi',h1',rfl,hm',h4'⟩:=h'
  rw[hE _ _ h1] at h1'
  cases h1'
  exact⟨en',pi,h1,rfl,hm.back hE hm',h4'⟩
 | miter m seen =>
  simp only[ORel] at h h' ⊢
  obtain⟨pm,h1,_⟩:=h
  obtain⟨pm',h1',h2'⟩:=h'
  rw[hE _ _ h1] at h1'
  cases h1'
  exact⟨pm,h1,h2'⟩
 | old cs =>
  simp only[ORel] at h h' ⊢
  obtain⟨C,el,fz,rfl,hc⟩:=h
  obtain⟨C',el',fz',rfl,hc'⟩:=h'
  refine⟨C',el',fz',rfl,fun i v hv=>?_⟩
  obtain⟨V,h1,h2⟩:=hc i v hv
  obtain⟨V',h1',h2'⟩:=hc' i v hv
  exact⟨V',h1',by rw[VRel.same hE _ _ _ h2 h2'];exact h2⟩
def HInv (H:Nat→World→Prop) (E:Em) (s:St) (held:List (Nat × List Nat)):Prop:=∀ i w,(∀ ids,(i,ids)∈held→∀ id∈ids,Has E s w id)→H i w
def q8f (s:St) (held:List (Nat × List Nat)):Prop:=∀ i ids,(i,ids)∈held→∀ id∈ids,∃ o,s.h.get id=some o
theorem HInv.now {H:Nat→World→Prop} {held:List (Nat × List Nat)} (h:HInv H E s held) (hc:q8f s held) (hs:Sim w0 E s w) (i:Nat):H i w :=
 h i w fun ids hi id hid=>let ⟨_,ho⟩:=hc i ids hi id hid;hs.has ho
theorem JZ {s s':St}:∀ {ids:List Nat},ZH s s' ids=true→∀ id∈ids,∃ o,s.h.get id=some o∧s'.h.get id=some o
 | [],_,_,h=>by cases h
 | i::l,h,id,hid=>by
  unfold ZH at h
  split at h
  ·rename_i o o' ho ho'
   cases hb:WA o o' with
   | false=>rw[hb] at h;cases h
   | true =>
    rw[hb] at h
    rcases List.mem_cons.1 hid with rfl|hid
    ·exact⟨o,ho,by rw[ho',← qys hb]⟩
    ·exact JZ h id hid
  ·cases h
theorem XF {ops:Array Oper} {j:Nat} {s s':St}:∀ {held:List (Nat × List Nat)},YU ops j s s' held=true→∀ i ids,(i,ids)∈held→qcv ops 8 j i=true∨((i,ids)∈VL ops j held∧ZH s s' ids=true)
 | [],_,_,_,h=>by cases h
 | (i',ids')::l,h,i,ids,hi=>by
  unfold YU at h
  cases hb:(qcv ops 8 j i'||ZH s s' ids') with
  | false=>rw[hb] at h;cases h
  | true =>
   rw[hb] at h
   simp only[cond_true] at h
   unfold VL
   rcases List.mem_cons.1 hi with heq|hi
   ·simp only[Prod.mk.injEq] at heq
    obtain⟨rfl,rfl⟩:=heq
    cases hd:qcv ops 8 j i with
    | true=>exact .inl rfl
    | false=>rw[hd] at hb;exact .inr ⟨by simp,by simpa using hb⟩
   ·rcases XF h i ids hi with h1|⟨h1,h2⟩
    ·exact .inl h1
    ·refine .inr ⟨?_,h2⟩
     cases qcv ops 8 j i' with
     | true=>exact h1
     | false=>exact List.mem_cons_of_mem _ h1
theorem Km {ops:Array Oper} {j:Nat}:∀ {held:List (Nat × List Nat)} {x:Nat × List Nat},x∈VL ops j held→x∈held∧qcv ops 8 j x.1=false
 | [],_,h=>by cases h
 | (i',ids')::l,x,h=>by
  unfold VL at h
  cases hd:qcv ops 8 j i' with
  | true=>rw[hd] at h;have:=Km (held:=l) h;exact⟨List.mem_cons_of_mem _ this.1,this.2⟩
  | false =>
   rw[hd] at h
   rcases List.mem_cons.1 h with rfl|h
   ·exact⟨by simp,hd⟩
   ·have:=Km h;exact⟨List.mem_cons_of_mem _ this.1,this.2⟩
theorem qlt {E':Em} {s':St} {H:Nat→World→Prop} {held:List (Nat × List Nat)} {j:Nat} (hs:Sim w0 E s w) (hE:E.le E') (h:YU ops j s s' held=true) (hi:HInv H E s held) :
  HInv (drop ops j H) E' s' (VL ops j held)∧q8f s' (VL ops j held):=by
 constructor
 ·intro i w1 h1 hnd
  refine hi i w1 fun ids hids id hid=>?_
  rcases XF h i ids hids with hd|⟨hl,hok⟩
  ·exact absurd (qiq hd) hnd
  ·obtain⟨o,ho,ho'⟩:=JZ hok id hid
   obtain⟨p',o',O',g1,g2,g3,g4⟩:=h1 ids hl id hid
   rw[ho'] at g1;cases g1
   obtain⟨p,O,hp,_,hr,_⟩:=hs.obj _ _ ho
   rw[hE _ _ hp] at g2
   simp only[Option.some.injEq] at g2
   subst g2
   exact⟨p,o,O',ho,hp,g3,hr.back hE g4⟩
 ·intro i ids hids id hid
  obtain⟨hm,hd⟩:=Km hids
  rcases XF h i ids hm with hd'|⟨_,hok⟩
  ·rw[hd] at hd';cases hd'
  ·obtain⟨o,_,ho'⟩:=JZ hok id hid
   exact⟨o,ho'⟩
theorem Yw {listed:Array Bool}:∀ {l:List Nat} {i:Nat} {o:Oper},Za e ops listed l=some (i,o)→i∈l∧ops[i]?=some o∧Jj e o.op=true∧Region.free .any ops listed i=true
 | [],_,_,h=>by cases h
 | j::l,i,o,h=>by
  unfold Za at h
  split at h
  ·rename_i oj hoj
   cases hb:(Jj e oj.op&&Region.free .any ops listed j) with
   | false=>rw[hb] at h;have:=Yw (l:=l) h;exact⟨List.mem_cons_of_mem _ this.1,this.2⟩
   | true =>
    rw[hb] at h
    simp only[cond_true,Option.some.injEq,Prod.mk.injEq] at h
    obtain⟨rfl,rfl⟩:=h
    rw[Bool.and_eq_true] at hb
    exact⟨by simp,hoj,hb.1,hb.2⟩
  ·have:=Yw h;exact⟨List.mem_cons_of_mem _ this.1,this.2⟩
theorem qao {o:Oper} (h:Jj e o.op=true) (c:Call):o.op≠.defer c:=by
 intro hc;rw[hc] at h;simp[Jj] at h
theorem qaz:∀ {l:List Oper},VM l=true→∀ o∈l,∀ cs b,o.op≠.select cs b
 | [],_,_,h=>by cases h
 | x::l,h,o,ho=>by
  unfold VM at h
  split at h
  ·cases h
  ·rename_i hx
   rcases List.mem_cons.1 ho with rfl|ho
   ·exact fun cs b hc=>hx _ _ hc
   ·exact qaz h o ho
theorem Kf {dst:Option Tmp} {v:AV} {k:Ac→St→Bool} (h:zN a dst v s k=true):∃ a',a.put dst v=some a'∧k a' s=true:=by
 unfold zN at h
 split at h
 ·rename_i a' ha';exact⟨a',ha',h⟩
 ·cases h
theorem qhl (he:EnvOk e P) (hpr:PrimsOk P pr) (hr:Sound P r) (hsel:VM ops.toList=true) (hQ:∀ (i:Nat) (o:Oper) (V:Value),ops[i]?=some o→∀ c a w,Q (.panic c) (a.put o.dst V) w→Q (.panic c) a w) :
  ∀ (f:Nat) (listed:Array Bool) (held:List (Nat × List Nat)) (a:Ac) (s:St) (k:Ac→St→Bool) (kp:AV→Ac→St→Bool) (E:Em) (A:Act) (w:World) (H:Nat→World→Prop),Vm e pr r rd ops f listed held a s k kp=true→RdRel E rd RD→FRel E a A→Sim w0 E s w →
   NOk w0 E k (Q .normal)→(∀ E' v V a' A' s' w',E.le E'→VRel E' v V→FRel E' a' A'→Sim w0 E' s' w'→kp v a' s'=true→Q (.panic [{ v:=V,recovered:=false }]) A' w') →
   HInv H E s held→q8f s held→Down ops listed→listed.size=ops.size→AnyG (FW RD) P ops Q H f listed A w:=by
 have hsel':∀ (j:Nat) (o:Oper) cs b,ops[j]?=some o→o.op≠.select cs b:=fun j o cs b ho=>qaz hsel o (by have:=Array.mem_of_getElem? ho;simpa using this) cs b
 intro f
 induction f with
 | zero =>
  intro listed held a s k kp E A w H h hrd hf hs hk hkp hi hc hdn hsz
  simp only[Vm] at h
  split at h
  ·rename_i hnil
   exact⟨hnil,hk E a s A w (Em.le_refl E) hf hs h⟩
  ·cases h
 | succ f ih =>
  intro listed held a s k kp E A w H h hrd hf hs hk hkp hi hc hdn hsz
  simp only[Vm] at h
  split at h
  ·rename_i hnil
   exact⟨fun _=>hk E a s A w (Em.le_refl E) hf hs h,fun j hj=>by rw[hnil] at hj;cases hj⟩
  ·rename_i i0 rs hready
   split at h
   ·rename_i i o hpick
    obtain⟨hmem,hio,hpas,hfree⟩:=Yw hpick
    rw[← hready] at hmem
    have hdn':Down ops (listed.setIfInBounds i true):=by
     obtain⟨_,o',ho',hall⟩:=mem_ready.1 hmem
     exact hdn.set ho' hall
    split at h
    ·rename_i hw
     split at h
     ·rename_i v ids hp
      cases hin:QB s ids with
      | false=>rw[hin] at h;cases h
      | true =>
       rw[hin] at h
       simp only[cond_true] at h
       have hS:∀ id∈ids,Has E s w id:=Xt hin hs
       obtain⟨V,hv,hrun⟩:=YH he ⟨w0,w,hs⟩ hf.toARel hp hS
       have hy:Yld P ops (fun w=>∀ id∈ids,Has E s w id) o V A:=.inl ⟨Qw hf hw,fun w1 h1=>by
        obtain⟨V1,hv1,hrun1⟩:=YH he ⟨w0,w,hs⟩ hf.toARel hp h1
        rw[hrun1,VRel.same (Em.le_refl E) _ _ _ hv hv1]⟩
       refine qi2 (q4g RD) hio (qao hpas) hsel' (hQ i o V hio) f H listed A w hdn hsz (Region.free_spec hio hfree) hmem hy hS (hi.now hc hs) ?_
       obtain⟨a',ha',h⟩:=Kf h
       have hle:=Em.le_refl E
       cases ids with
       | nil=>exact ih _ held a' s k kp E _ w _ h hrd (hf.put hv ha') hs hk hkp (fun i' w1 h1=>⟨hi i' w1 h1,fun _ id hid=>by cases hid⟩) hc hdn' (by simpa using hsz)
       | cons id0 ids' =>
        refine ih _ ((i,id0::ids')::held) a' s k kp E _ w _ h hrd (hf.put hv ha') hs hk hkp (fun i' w1 h1=>⟨hi i' w1 fun ids2 h2=>h1 ids2 (List.mem_cons_of_mem _ h2),fun heq=>?_⟩) ?_ hdn' (by simpa using hsz)
        ·subst heq;exact h1 _ (by simp)
        ·intro i' ids2 hm id hid
         rcases List.mem_cons.1 hm with heq|hm
         ·simp only[Prod.mk.injEq] at heq
          obtain⟨rfl,rfl⟩:=heq
          obtain⟨_,o2,_,ho2,_⟩:=hS id hid
          exact⟨o2,ho2⟩
         ·exact hc i' ids2 hm id hid
     ·cases h
    ·rename_i hw
     obtain⟨a',ha',h⟩:=Kf h
     have hy:Yld P ops (fun _=>True) o undef A:=.inr ⟨Qw hf hw,rfl⟩
     refine qi2 (q4g RD) hio (qao hpas) hsel' (hQ i o undef hio) f H listed A w hdn hsz (Region.free_spec hio hfree) hmem hy trivial (hi.now hc hs) ?_
     exact ih _ held a' s k kp E _ w _ h hrd (hf.put Z4 ha') hs hk hkp (fun i' w1 h1=>⟨hi i' w1 h1,fun _=>trivial⟩) hc hdn' (by simpa using hsz)
    ·cases h
   ·refine⟨fun h0=>(by rw[h0] at hready;cases hready),fun j hj=>?_⟩
    have hj':=hj
    rw[hready] at hj'
    have h:=List.all_eq_true.1 h j hj'
    obtain⟨_,oj,hoj,hall⟩:=mem_ready.1 hj
    have hdn':Down ops (listed.setIfInBounds j true):=hdn.set hoj hall
    unfold wpOpIn
    simp only[hoj] at h ⊢
    split at h
    ·rename_i hw
     simp only[Qw hf hw,if_true]
     refine qak he hpr hr h hrd hf hs ?_ (fun E' v s' V w' hle hv hs' hk'=>hkp E' v V a A s' w' hle hv (hf.mono hle) hs' hk')
     intro E' a' s' A' w' hle hf' hs' hk'
     dsimp only at hk'
     cases hst:YU ops j s s' held with
     | false=>rw[hst] at hk';cases hk'
     | true =>
      rw[hst] at hk'
      obtain⟨hi',hc'⟩:=qlt hs hle hst hi
      exact⟨hi'.now hc' hs',ih _ _ a' s' k kp E' A' w' _ hk' (hrd.mono hle) hf' hs' (hk.mono hle) (fun E'' v V a2 A2 s2 w2 hle2=>hkp E'' v V a2 A2 s2 w2 (Em.le_trans hle hle2)) hi' hc' hdn' (by simpa using hsz)⟩
    ·rename_i hw
     simp only[Qw hf hw,Bool.false_eq_true,if_false]
     obtain⟨a',ha',h⟩:=Kf h
     exact⟨fun f _=>trivial,fun i' _=>hi.now hc hs i',ih _ held a' s k kp E _ w _ h hrd (hf.put Z4 ha') hs hk hkp (fun i' w1 h1 _=>hi i' w1 h1) hc hdn' (by simpa using hsz)⟩
    ·cases h
theorem qle (he:EnvOk e P) (hpr:PrimsOk P pr) (hr:Sound P r) (hm:P.follows .mixedOrders=true) (hsel:VM ops.toList=true) {id:Nat} {k:AE→Ac→St→Bool}
  (h:Vm e pr r rd ops ops.size (Array.replicate ops.size false) [] a s (fun a' s'=>k .normal a' s') (fun v a' s'=>k (.panic v) { a' with t:=Yl a'.t ops.toList } s')=true)
  (hrd:RdRel E rd RD) (hf:FRel E a A) (hs:Sim w0 E s w) (hk:KOk w0 E k Q):(Code.region id ops true).wpIn (FW RD) 0 P Q A w:=by
 refine wpIn_mono (Q:=q4p ops Q) (wpIn_region_any hm (AnyG.any (H:=fun _ _=>True) ?_)) (fun X A w h=>qyq h)
 refine qhl he hpr hr hsel (fun i o V hi c a w h=>qsh hi h) _ _ _ a s _ _ E A _ _ h hrd hf hs.drew ?_ ?_ (fun _ _ _=>trivial) (fun _ _ h=>by cases h) ?_ (by simp)
 ·intro E' a' s' A' w' hle hf' hs' hk'
  exact hk E' .normal a' s' .normal A' w' hle rfl hf' hs' hk'
 ·intro E' v V a' A' s' w' hle hv hf' hs' hk' A2 hA2
  exact hk E' (.panic v) _ s' _ A2 w' hle ⟨V,hv,rfl⟩ (qr0 hf' hA2) hs' hk'
 ·intro j o _ hl
  simp[Array.getD] at hl
end reg
end Go.AX
namespace Go.AX
open Go.RowKit
variable {e:Env} {P:Program} {pr:Prims} {r:Tasks} {w0:World} {E:Em} {s:St} {w:World} {a:Ac} {A:Act}
theorem WRel.mono {E E':Em} (h:WRel E a A) (hE:E.le E'):WRel E' a A:=⟨h.size,fun i v hv=>let ⟨V,h1,h2⟩:=h.tmps i v hv;⟨V,h1,h2.mono hE⟩,h.defs.mono hE⟩
def WS (tmps:Array Value):ResultVar→Sem Value
 | .tmp t=>pure (tmps.getD t undef)
 | .cell a t=>do loadVar t (← asAddr (tmps.getD a undef))
theorem qkg (fn:Func) (tmps:Array Value):results fn tmps=(fn.results.mapM (WS tmps) >>= fun vs=>pure (if h:vs.size=1 then vs[0] else .tuple vs)):=rfl
theorem VR (he:EnvOk e P) (hs:Sim w0 E s w) (hf:∀ i v,a.t.get i=some v→∃ V,A.tmps[i]?=some V∧VRel E v V):∀ {l:List ResultVar} {vs:List AV},qb e a s l=some vs →
  ∃ Vs,VRels E vs Vs∧(l.mapM (WS A.tmps)).run P w=.ok Vs w
 | [],vs,h=>by
  simp only[qb,Option.some.injEq] at h
  subst h
  exact⟨[],rfl,by simp⟩
 | .tmp t::l,vs,h=>by
  simp only[qb] at h
  split at h
  ·rename_i v vs' hv hvs
   simp only[Option.some.injEq] at h
   subst h
   obtain⟨V,h1,h2⟩:=hf t v hv
   obtain⟨Vs,h3,h4⟩:=VR he hs hf hvs
   refine⟨V::Vs,VRels.cons h2 h3,?_⟩
   simp[WS,Array.getD_eq_getD_getElem?,h1,h4,Result.andThen]
  ·cases h
 | .cell p t::l,vs,h=>by
  simp only[qb] at h
  split at h
  ·rename_i id off hq
   split at h
   ·rename_i o v vs' ho hv hvs
    simp only[Option.some.injEq] at h
    subst h
    obtain⟨X,h1,h2⟩:=hf p _ hq
    obtain⟨V,h5,h6⟩:=qar (w:=w) he h2 hv (fun i hi=>by simp only[QG,List.mem_singleton] at hi;subst hi;exact hs.has ho)
    obtain⟨Vs,h3,h4⟩:=VR he hs hf hvs
    refine⟨V::Vs,VRels.cons h5 h3,?_⟩
    simp only[VRel] at h2
    obtain⟨q,_,rfl⟩:=h2
    have h7:(WS A.tmps (.cell p t)).run P w=.ok V w:=by
     rw[← h6]
     simp[WS,Array.getD_eq_getD_getElem?,h1,Instr.loadAt,Instr.sureAddr,asAddr]
    simp[h7,h4,Sem.run_bind,Result.andThen]
   ·cases h
  ·cases h
theorem qa2 (he:EnvOk e P) (hs:Sim w0 E s w) (hf:∀ i v,a.t.get i=some v→∃ V,A.tmps[i]?=some V∧VRel E v V) {fn:Func} {v:AV} (h:q7 e fn a s=some v) :
  ∃ V,VRel E v V∧(results fn A.tmps).run P w=.ok V w:=by
 unfold q7 at h
 have key:∀ {Vs:List Value},(fn.results.toList.mapM (WS A.tmps)).run P w=.ok Vs w→(results fn A.tmps).run P w=.ok (if h:Vs.toArray.size=1 then Vs.toArray[0] else .tuple Vs.toArray) w:=fun {Vs} hr=>by
  rw[qkg,Array.mapM_eq_mapM_toList]
  simp[hr,Result.andThen]
 split at h
 ·rename_i u hu
  obtain⟨Vs,h1,h2⟩:=VR he hs hf hu
  simp only[VRels] at h1
  obtain⟨V,_,h1,rfl,rfl⟩:=h1
  simp only[Option.some.injEq] at h
  subst h
  exact⟨V,h1,by rw[key h2];simp⟩
 ·rename_i vs hne hu
  obtain⟨Vs,h1,h2⟩:=VR he hs hf hu
  simp only[Option.some.injEq] at h
  subst h
  refine⟨.tuple Vs.toArray,by simp only[VRel];exact⟨Vs,h1,rfl⟩,?_⟩
  rw[key h2]
  have:Vs.toArray.size≠1:=by
   intro h1'
   have hl:=VRels.length h1
   simp at h1'
   rw[h1'] at hl
   match vs,hl with
   | [v],_=>exact hne v rfl
  simp only[this,dite_false]
 ·cases h
end Go.AX
namespace Go.AX
open Go.RowKit
variable {e:Env} {P:Program} {pr:Prims} {r:Tasks} {w0:World} {E:Em} {s:St} {w:World} {a:Ac} {A:Act}
def PRel (E:Em):Option (AV × Bool)→FrameMode→Prop
 | none,u=>u=.returning
 | some (v,b),u=>∃ V,VRel E v V∧u=.panicking [{ v:=V,recovered:=b }]
theorem PRel.mono {E E':Em} (hE:E.le E'):∀ {pn:Option (AV × Bool)} {u:FrameMode},PRel E pn u→PRel E' pn u
 | none,_,h=>h
 | some (_,_),_,⟨V,h1,h2⟩=>⟨V,h1.mono hE,h2⟩
def KDOk (w0:World) (E:Em) (k:AE→Ac→Option (AV × Bool)→St→Bool) (Q:Exit→Act→FrameMode→World→Prop):Prop :=
 ∀ E' ex a pn s X A u w,E.le E'→X5 E' ex X→q89 E' ex a A→PRel E' pn u→Sim w0 E' s w→k ex a pn s=true→Q X A u w
theorem KDOk.mono {E E':Em} {k:AE→Ac→Option (AV × Bool)→St→Bool} {Q:Exit→Act→FrameMode→World→Prop} (h:KDOk w0 E k Q) (hE:E.le E'):KDOk w0 E' k Q:=fun E'' _ _ _ _ _ _ _ _ hle=>h E'' _ _ _ _ _ _ _ _ (Em.le_trans hE hle)
theorem qan {F:Fence} {n:Nat} {c:Code} {Q Q':Exit→Act→List Frame→World→Prop} {a:Act} {cs:List Frame} (h:c.wpSIn F n P Q a cs w) (hq:∀ e a cs w,Q e a cs w→Q' e a cs w):c.wpSIn F n P Q' a cs w :=
 fun b k hb hr hF hroom=>let ⟨e,a',cs',w',l,q,r⟩:=h b k hb hr hF hroom;⟨e,a',cs',w',l,hq _ _ _ _ q,r⟩
section dfr
variable {c₀:Frame} {cs:List Frame} {Q:Exit→Act→FrameMode→World→Prop} {ops:Array Oper}
def qfs (c₀:Frame) (cs:List Frame) (Q:Exit→Act→FrameMode→World→Prop):Exit→Act→List Frame→World→Prop:=fun X A cs' w=>∃ u,cs'={ c₀ with mode:=u }::cs∧Q X A u w
theorem qbb (he:EnvOk e P) {o:Oper} {k:Ac→St→Bool} (h:zA e o a s k=true) (hf:FRel E a A) (hs:Sim w0 E s w) :
  ∃ v s',qcz P w0 E w (execOp A.eval o) v s'∧zN a o.dst v s' k=true:=by
 unfold zA at h
 split at h
 ·rename_i v ids hp
  cases hi:QB s ids with
  | false=>rw[hi] at h;cases h
  | true =>
   rw[hi] at h
   obtain⟨V,hv,hrun⟩:=YH he ⟨w0,w,hs⟩ hf.toARel hp (Xt hi hs)
   exact⟨v,s,⟨.value V,V,w,E,hrun,.inl rfl,Em.le_refl E,hv,hs⟩,h⟩
 ·split at h
  ·rename_i v s' ha
   exact⟨v,s',Wc he hs hf.toARel ha,h⟩
  ·cases h
theorem Xq (he:EnvOk e P) {Q:Exit→Act→List Frame→World→Prop} {cs:List Frame}:∀ (l:List Oper) (i:Nat) (a:Ac) (s:St) (k:Ac→St→Bool) (E:Em) (A:Act) (w:World),ops.toList.drop i=l→YT e ops.toList l a s k=true→FRel E a A→Sim w0 E s w→NOk w0 E k (fun A w=>Q .normal A cs w) →
  wpOpsSIn (FW none) 0 P ops Q (List.range' i l.length) A cs w:=by
 intro l
 induction l with
 | nil =>
  intro i a s k E A w _ h hf hs hk
  exact hk E a s A w (Em.le_refl E) hf hs h
 | cons o l ih =>
  intro i a s k E A w hl h hf hs hk
  have hi:ops[i]?=some o:=by
   have:(ops.toList.drop i)[0]?=some o:=by rw[hl];rfl
   simpa using this
  have hl':ops.toList.drop (i+1)=l:=by
   have:(ops.toList.drop i).drop 1=l:=by rw[hl];rfl
   simpa using this
  rw[List.length_cons,List.range'_succ]
  simp only[wpOpsSIn,hi]
  refine⟨fun f _=>trivial,?_⟩
  simp only[YT] at h
  have nx:NOk w0 E (fun a' s'=>YT e ops.toList l a' s' k) (fun A w=>wpOpsSIn (FW none) 0 P ops Q (List.range' (i+1) l.length) A cs w) :=
   fun E' a' s' A' w' hle hf' hs' hk'=>ih (i+1) a' s' k E' A' w' hl' hk' hf' hs' (hk.mono hle)
  split at h
  ·rename_i hw
   simp only[Qw hf hw,if_true]
   obtain⟨v,s',⟨nx',V,w',E',hrun,hnx,hle,hv,hs'⟩,h⟩:=qbb he h hf hs
   rw[hrun]
   rcases hnx with rfl|⟨rfl,rfl⟩
   ·exact QR h (hf.mono hle) hv hs' (nx.mono hle)
   ·exact QR h (hf.mono hle) hv hs' (nx.mono hle)
  ·rename_i hw
   simp only[Qw hf hw,Bool.false_eq_true,if_false]
   exact QR h hf Z4 hs nx
  ·cases h
theorem qcd {o:Oper} (h:YX o.op=true):(execOp A.eval o).run P w=.ok .recover w:=by
 unfold YX at h
 split at h
 ·rename_i c hc
  split at h
  ·rename_i hcal
   unfold execOp
   rw[hc]
   show ((do let d ← resolve A.eval c o.type;invoke d.target d.args):Sem Next).run P w=_
   unfold resolve
   rw[hcal]
   simp[invoke,builtin]
  ·cases h
 ·cases h
theorem qgl (he:EnvOk e P) (hr:Sound P r):∀ (n:Nat) (c:Code) (a:Ac) (pn:Option (AV × Bool)) (s:St) (k:AE→Ac→Option (AV × Bool)→St→Bool) (E:Em) (A:Act) (u:FrameMode) (w:World) (Q:Exit→Act→FrameMode→World→Prop),
  Zp e r n c a pn s k=true→FRel E a A→PRel E pn u→Sim w0 E s w→KDOk w0 E k Q→c.wpSIn (FW none) 0 P (qfs c₀ cs Q) A ({ c₀ with mode:=u }::cs) w:=by
 intro n
 induction n with
 | zero=>intro c a pn s k E A u w Q h;simp[Zp] at h
 | succ n ih =>
  intro c a pn s k E A u w Q h hf hp hs hk
  have other:∀ {c:Code},r.code none c a s (fun ex a' s'=>k ex a' pn s')=true→c.wpSIn (FW none) 0 P (qfs c₀ cs Q) A ({ c₀ with mode:=u }::cs) w:=fun {c} h =>
   wpSIn_of_wpIn rfl (hr.code (RD:=none) h rfl hf hs fun E' ex a' s' X A' w' hle hX hG hs' hk'=>⟨u,rfl,hk E' ex a' pn s' X A' u w' hle hX hG (hp.mono hle) hs' hk'⟩)
  unfold Zp at h
  split at h
  ·-- seq
   rename_i x y
   refine wpSIn_seq (qan (ih x a pn s _ E A u w (fun X A' u' w'=>match X with
    | .normal=>y.wpSIn (FW none) 0 P (qfs c₀ cs Q) A' ({ c₀ with mode:=u' }::cs) w'
    | X=>Q X A' u' w') h hf hp hs ?_) ?_)
   ·intro E' ex a' pn' s' X A' u' w' hle hX hG hp' hs' hk'
    cases ex with
    | normal=>simp only[X5] at hX;subst hX;exact ih y a' pn' s' k E' A' u' w' Q hk' hG hp' hs' (hk.mono hle)
    | exit j=>simp only[X5] at hX;subst hX;exact hk E' (.exit j) a' pn' s' _ A' u' w' hle rfl hG hp' hs' hk'
    | goto j=>simp only[X5] at hX;subst hX;exact hk E' (.goto j) a' pn' s' _ A' u' w' hle rfl hG hp' hs' hk'
    | ret=>simp only[X5] at hX;subst hX;exact hk E' .ret a' pn' s' _ A' u' w' hle rfl hG hp' hs' hk'
    | panic v=>obtain⟨V,hV,rfl⟩:=hX;exact hk E' (.panic v) a' pn' s' _ A' u' w' hle ⟨V,hV,rfl⟩ hG hp' hs' hk'
   ·rintro X A' cs' w' ⟨u',rfl,hq⟩
    cases X with
    | normal=>exact hq
    | _=>exact⟨u',rfl,hq⟩
  ·-- cond
   rename_i c x y
   split at h
   ·rename_i b hb
    have:=qw hf.toARel c
    rw[hb] at this
    simp only[VRel] at this
    refine wpSIn_cond (t:=b) this ?_
    have h1:=ih _ a pn s k E A u w Q h hf hp hs hk
    cases b <;> exact h1
   ·cases h
  ·-- region
   rename_i id ops dr
   split at h
   ·rename_i o l hops
    cases hrec:YX o.op with
    | false=>rw[hrec] at h;exact other h
    | true =>
     rw[hrec] at h
     simp only[cond_true] at h
     split at h
     ·rename_i hg
      refine wpSIn_region ?_
      have hsz:ops.size=l.length+1:=by rw[← Array.length_toList,hops];rfl
      have hi:ops[0]?=some o:=by
       have:ops.toList[0]?=some o:=by rw[hops];rfl
       simpa using this
      rw[List.range_eq_range',hsz,List.range'_succ]
      simp only[wpOpsSIn,hi]
      refine⟨fun f _=>trivial,?_⟩
      have hw:Region.wanted o (yielded ops A.tmps)=true:=by unfold Region.wanted;rw[hg]
      simp only[hw,if_true,qcd hrec]
      have hl':ops.toList.drop (0+1)=l:=by rw[hops];rfl
      split at h
      ·rename_i v
       obtain⟨V,hV,rfl⟩:=hp
       simp only[recoverD]
       refine QR (N:=fun A' w'=>wpOpsSIn (FW none) 0 P ops (qfs c₀ cs Q) (List.range' (0+1) l.length) A' ({ c₀ with mode:=.panicking [{ v:=V,recovered:=true }] }::cs) w') h hf hV hs ?_
       intro E1 a1 s1 A1 w1 hle1 hf1 hs1 hk1
       refine Xq he l (0+1) a1 s1 _ E1 A1 w1 hl' hk1 hf1 hs1 ?_
       intro E2 a2 s2 A2 w2 hle2 hf2 hs2 hk2
       exact⟨_,rfl,hk E2 .normal a2 (some (v,true)) s2 .normal A2 _ w2 (Em.le_trans hle1 hle2) rfl hf2 ⟨V,hV.mono (Em.le_trans hle1 hle2),rfl⟩ hs2 hk2⟩
      ·simp only[PRel] at hp
       subst hp
       simp only[recoverD]
       refine QR (N:=fun A' w'=>wpOpsSIn (FW none) 0 P ops (qfs c₀ cs Q) (List.range' (0+1) l.length) A' ({ c₀ with mode:=.returning }::cs) w') h hf JL hs ?_
       intro E1 a1 s1 A1 w1 hle1 hf1 hs1 hk1
       refine Xq he l (0+1) a1 s1 _ E1 A1 w1 hl' hk1 hf1 hs1 ?_
       intro E2 a2 s2 A2 w2 hle2 hf2 hs2 hk2
       exact⟨_,rfl,hk E2 .normal a2 none s2 .normal A2 _ w2 (Em.le_trans hle1 hle2) rfl hf2 rfl hs2 hk2⟩
      ·cases h
     ·cases h
   ·exact other h
  ·exact other h
end dfr
theorem Vz:∀ (vs:List AV) (t:Tr AV) (i j:Nat),(Qn t i vs).get j=if i≤j∧j < i+vs.length then vs[j - i]? else t.get j
 | [],t,i,j=>by simp[Qn];omega
 | v::vs,t,i,j=>by
  unfold Qn
  rw[Vz vs,Tr.get_set]
  by_cases h1:i+1≤j∧j < i+1+vs.length
  ·rw[if_pos h1,if_pos (by simp;omega)]
   obtain⟨d,rfl⟩:∃ d,j=i+1+d:=⟨j - (i+1),by omega⟩
   rw[show i+1+d - (i+1)=d by omega,show i+1+d - i=d+1 by omega]
   simp
  ·rw[if_neg h1]
   by_cases h2:j=i
   ·subst h2;simp
   ·rw[if_neg h2,if_neg (by simp;omega)]
theorem qie {args:List AV} {Args:List Value} (h:VRels E args Args) (m:Nat):FRel E { t:=Qn .e 0 args,n:=Nat.max m args.length,d:=[] } { tmps:=Args.toArray++Array.replicate (m - Args.toArray.size) undef,defers:=[] }:=by
 have hl:=VRels.length h
 refine⟨⟨?_,fun i=>?_⟩,rfl⟩
 ·simp only[Array.size_append,List.size_toArray,Array.size_replicate,hl];show _=max m args.length;omega
 ·simp only[Vz,Nat.zero_le,true_and,Nat.zero_add,Nat.sub_zero]
  by_cases hi:i < args.length
  ·rw[if_pos hi]
   obtain⟨v,hv⟩:∃ v,args[i]?=some v:=⟨args[i],by simp[hi]⟩
   rw[hv]
   obtain⟨V,h1,h2⟩:=VRels.get h hv
   exact⟨V,by rw[Array.getElem?_append_left (by simp;omega)];simpa using h1,h2⟩
  ·rw[if_neg hi]
   simp only[Tr.get]
   rw[Array.getD_eq_getD_getElem?,Array.getElem?_append_right (by simp;omega)]
   simp only[Array.getElem?_replicate]
   split <;> rfl
end Go.AX
namespace Go
section
variable {P:Program} {b:Frame} {a:Act} {k:List Item} {cs:List Frame} {w:World} {F:Fence} {n:Nat} {Q:Exit→Act→World→Prop}
theorem QQ {c:Code}:step P (lone (b.atR a (.code (.scope c)::k)) cs w)=.next (lone (b.atR a (.code c::.inScope c::k)) cs w) :=
 step_lone_go (by simp[stepG,stepG.exec,Frame.atR])
theorem qck {c:Code}:step P (lone (b.atR a (.inScope c::k)) cs w)=.next (lone (b.atR a k) cs w) :=
 step_lone_go (by simp[stepG,stepG.exec,Frame.atR])
theorem qkn {c:Code} (h:c.wpIn F n P (fun e a' w'=>(∀ l,e≠.goto l)∧Q e a' w') a w):(Code.scope c).wpIn F n P Q a w:=by
 intro b k cs hro hb hr
 have h0:(lone (b.atR a (.code (.scope c)::k)) cs w).fenced P F:=fenced_calm hb hr rfl
 obtain⟨e,a₁,w₁,⟨hno,hq⟩,harr⟩:=h b (.inScope c::k) cs hro hb hr
 cases e with
 | normal=>exact⟨.normal,a₁,w₁,hq,.head h0 QQ (StepsIn.trans harr (.one (fenced_calm hb hr rfl) qck))⟩
 | exit id' =>
  have hx:exitTo id' (.inScope c::k)=exitTo id' k:=by simp[exitTo]
  exact⟨.exit id',a₁,w₁,hq,fun k' hk=>.head h0 QQ (harr.1 k' (by rw[hx];exact hk)),
   fun hr' hk=>let ⟨k₁,h1,h2⟩:=harr.2 hr' (by rw[hx];exact hk);⟨k₁,h1,.head h0 QQ h2⟩⟩
 | goto l=>exact absurd rfl (hno l)
 | ret=>exact⟨_,a₁,w₁,hq,.of_steps (.one h0 QQ) harr⟩
 | panic ch=>exact⟨_,a₁,w₁,hq,.of_steps (.one h0 QQ) harr⟩
 | outgrown=>exact⟨_,a₁,w₁,hq,.of_steps (.one h0 QQ) harr⟩
end
end Go
namespace Go.AX
open Go.RowKit
variable {e:Env} {P:Program} {pr:Prims} {r:Tasks} {w0:World} {E:Em} {s:St} {w:World} {a:Ac} {A:Act}
structure ProgOk (e:Env) (P:Program):Prop extends EnvOk e P where
 named:∀ f g,e.fn.get f=some g→g.body.isSome=true→(g.name== "runtime.NumGoroutine")=false
 mixed:P.follows .mixedOrders=true
theorem ProgOk.enters (he:ProgOk e P) {f:FuncId} {g:Func} (h:e.fn.get f=some g) {c:Code} (hb:g.body=some c):Qy P f:=by
 intro args w
 unfold callFunc
 have h1:=he.fn f g h
 have h2:¬ g.name= "runtime.NumGoroutine":=by simpa using he.named f g h (by rw[hb];rfl)
 simp[go_sem,h1,h2,hb]
theorem YZ (he:ProgOk e P) (hr:Sound P r) {fn:Func} {kr kp:AV→St→Bool} {R Rp:Value→World→Prop}:∀ (ds:List AD) (pn:Option AV) (s:St) (E:Em) (Ds:List Deferred) (u:FrameMode) (w:World),
  zw e r fn a kr kp ds pn s=true→(∀ i v,a.t.get i=some v→∃ V,A.tmps[i]?=some V∧VRel E v V)→DRel E ds Ds→PRel E (pn.map (·,false)) u→Sim w0 E s w→POk w0 E kr R→POk w0 E kp Rp →
  LeavesInM (FW none) 0 P fn A.tmps (QF R Rp) Ds u w:=by
 intro ds
 induction ds with
 | nil =>
  intro pn s E Ds u w h hf hd hp hs hkr hkp
  simp only[DRel] at hd
  subst hd
  cases pn with
  | none =>
   simp only[PRel,Option.map_none] at hp
   subst hp
   simp only[zw] at h
   split at h
   ·rename_i v hv
    obtain⟨V,h1,h2⟩:=qa2 he.toEnvOk hs hf hv
    exact⟨V,h2,hkr E v s V w (Em.le_refl E) h1 hs h⟩
   ·cases h
  | some v =>
   obtain⟨V,h1,rfl⟩:=hp
   exact⟨V,rfl,hkp E v s V w (Em.le_refl E) h1 hs h⟩
 | cons d ds ih =>
  intro pn s E Ds u w h hf hd hp hs hkr hkp
  have hu:u≠.run:=by
   cases pn with
   | none=>simp only[PRel,Option.map_none] at hp;subst hp;intro h;cases h
   | some v=>obtain⟨V,_,rfl⟩:=hp;intro h;cases h
  cases d with
  | mark id =>
   obtain⟨p,D,hp1,hd,rfl⟩:=hd
   simp only[zw] at h
   split at h
   ·rename_i hg
    obtain⟨p',O,hp',hO,hr',_⟩:=hs.obj _ _ hg
    rw[hp1] at hp';cases hp'
    simp only[ORel,Bool.false_eq_true,if_false] at hr'
    subst hr'
    refine⟨hu,.inl ⟨p.1,_,rfl,run_takeDeferred hO,?_⟩⟩
    refine ih pn _ E D u _ h hf hd hp (hs.puts hg hp1 (Zx hO) ?_) hkr hkp
    simp[ORel]
   ·cases h
  | call g args =>
   obtain⟨B,C,D,hargs,hd,rfl⟩:=hd
   simp only[zw] at h
   generalize 100=N at h
   split at h
   ·rename_i gf hgf
    split at h
    ·rename_i c hc
     have hen:=he.enters hgf hc
     refine⟨hu,.inr ⟨VZ none,.func g,C.toArray,g,(B++C).toArray,rfl,?_,fun g _=>trivial,?_⟩⟩
     ·simp only[invoke]
      rw[hen]
      simp
     ·refine callsDIn_of_wpSIn (he.fn g gf hgf) hc trivial fun c₀ cs hcm=>?_
      have key:=qgl (c₀:=c₀) (cs:=cs) he.toEnvOk hr N c _ _ s _ E _ u w (fun X A' u' w'=>bodyPostS P gf c₀ cs (fun en u' w'=>match en with
        | .returned _=>LeavesInM (FW none) 0 P fn A.tmps (QF R Rp) D (settle u') w'
        | .panicked chain=>LeavesInM (FW none) 0 P fn A.tmps (QF R Rp) D (raised u' chain) w'
        | .outgrown=>QF R Rp .outgrown w') X A' ({ c₀ with mode:=u' }::cs) w') h (qie hargs gf.ntmps) hp hs ?_
      ·have hc0:({ c₀ with mode:=u }:Frame)=c₀:=by rw[← hcm]
       rw[hc0] at key
       refine qan key ?_
       rintro X A' cs' w' ⟨u',rfl,hq⟩
       exact hq
      ·intro E' ex a' pn' s' X A' u' w' hle hX hG hp' hs' hk'
       dsimp only at hk'
       split at hk'
       ·rename_i v' hd' hv'
        have body:FRel E' a' A'→zw e r fn a kr kp ds (Zb pn') s'=true→A'.defers=[]∧∃ u1,({ c₀ with mode:=u' }::cs:List Frame)={ c₀ with mode:=u1 }::cs∧∃ v,(results gf A'.tmps).run P w'=.ok v w'∧LeavesInM (FW none) 0 P fn A.tmps (QF R Rp) D (settle u1) w':=by
         intro hf' hl
         have hdd:=hf'.defs
         rw[hd'] at hdd
         obtain⟨V',_,h2⟩:=qa2 he.toEnvOk hs' hf'.weak.tmps hv'
         refine⟨hdd,u',rfl,V',h2,?_⟩
         have hfE:∀ i v,a.t.get i=some v→∃ V,A.tmps[i]?=some V∧VRel E' v V:=fun i v hv=>let ⟨V,h1,h2⟩:=hf i v hv;⟨V,h1,h2.mono hle⟩
         cases pn' with
         | none =>
          simp only[PRel] at hp'
          subst hp'
          exact ih none s' E' D _ w' hl hfE (hd.mono hle) rfl hs' (hkr.mono hle) (hkp.mono hle)
         | some q =>
          obtain⟨v,b⟩:=q
          obtain⟨V,hV,rfl⟩:=hp'
          cases b with
          | true=>exact ih none s' E' D _ w' hl hfE (hd.mono hle) rfl hs' (hkr.mono hle) (hkp.mono hle)
          | false=>exact ih (some v) s' E' D _ w' hl hfE (hd.mono hle) ⟨V,hV,rfl⟩ hs' (hkr.mono hle) (hkp.mono hle)
        split at hk'
        ·simp only[X5] at hX
         subst hX
         exact body hG hk'
        ·simp only[X5] at hX
         subst hX
         exact body hG hk'
        ·cases hk'
       ·cases hk'
    ·cases h
   ·cases h
theorem qkw (he:ProgOk e P) (hr:Sound P r) {f:FuncId} {args:List AV} {kr kp:AV→St→Bool} {Args:List Value} {R Rp:Value→World→Prop}
  (h:(step e pr r).call f args s kr kp=true) (hv:VRels E args Args) (hs:Sim w0 E s w) (hkr:POk w0 E kr R) (hkp:POk w0 E kp Rp):Qy P f∧CallsIn (FW none) 0 P f Args.toArray w (QF R Rp):=by
 simp only[step] at h
 split at h
 ·rename_i fn hfn
  split at h
  ·rename_i c hc
   refine⟨he.enters hfn hc,callsIn_of_wp_marks (he.fn f fn hfn) hc trivial ?_⟩
   refine hr.code (RD:=none) h rfl (qie hv fn.ntmps) hs ?_
   intro E' ex a' s' X A' w' hle hX hG hs' hk'
   cases ex with
   | normal=>simp only[X5] at hX;subst hX;exact YZ he hr _ none s' E' _ _ w' hk' hG.weak.tmps hG.defs rfl hs' (hkr.mono hle) (hkp.mono hle)
   | ret=>simp only[X5] at hX;subst hX;exact YZ he hr _ none s' E' _ _ w' hk' hG.weak.tmps hG.defs rfl hs' (hkr.mono hle) (hkp.mono hle)
   | panic v =>
    obtain⟨V,hV,rfl⟩:=hX
    exact YZ he hr _ (some v) s' E' _ _ w' hk' hG.tmps hG.defs ⟨V,hV,rfl⟩ hs' (hkr.mono hle) (hkp.mono hle)
   | exit j=>cases hk'
   | goto j=>cases hk'
  ·cases h
 ·cases h
theorem WJ (hr:Sound P r) {rd RD:Option Nat} {c:Code} {k:AE→Ac→St→Bool} {Q:Exit→Act→World→Prop} (h:(step e pr r).code rd (.loop c) a s k=true) (hrd:RdRel E rd RD) (hf:FRel E a A) (hs:Sim w0 E s w) (hk:KOk w0 E k Q):LoopOk (FW RD) P c Q A w:=by
 simp only[step] at h
 refine LoopOk.round (hr.code h hrd hf hs ?_)
 intro E' ex a' s' X A' w' hle hX hG hs' hk'
 cases ex with
 | normal=>simp only[X5] at hX;subst hX;exact hr.loop hk' (hrd.mono hle) hG hs' (hk.mono hle)
 | exit j=>simp only[X5] at hX;subst hX;exact hk E' (.exit j) a' s' _ A' w' hle rfl hG hs' hk'
 | goto j=>simp only[X5] at hX;subst hX;exact hk E' (.goto j) a' s' _ A' w' hle rfl hG hs' hk'
 | ret=>simp only[X5] at hX;subst hX;exact hk E' .ret a' s' _ A' w' hle rfl hG hs' hk'
 | panic v=>obtain⟨V,hV,rfl⟩:=hX;exact hk E' (.panic v) a' s' _ A' w' hle ⟨V,hV,rfl⟩ hG hs' hk'
theorem KE (hr:Sound P r) {k:AE→Ac→St→Bool} {Q:Exit→Act→World→Prop} {f:Operand} {ps:Array Tmp} {as body:Code} (h:(step e pr r).code none (.rangeFunc f ps as body) a s k=true) (hf:FRel E a A) (hs:Sim w0 E s w) (hk:KOk w0 E k Q) :
  (Code.rangeFunc f ps as body).wpIn (FW none) 0 P Q A w:=by
 simp only[step] at h
 split at h
 ·rename_i g cap hfv
  have hv':=qw hf.toARel f
  rw[hfv] at hv'
  simp only[VRel] at hv'
  obtain⟨C,hC,hV⟩:=hv'
  refine wpIn_rangeFunc fun fn _=>?_
  have hs1:=hs.alloc (o:=.dfr false) (O:=.deferred (some [])) (K:=0) (by simp[ORel])
  have hle1:E.le (E.put s.nx (w.heap.size,0,0)):=Em.le_put _ _ _ hs.free
  have hs2:=hs1.alloc (o:=.loop .ready none 0 a.t a.n ps.toList as body s.nx) (O:=.loop { state:=.ready,pending:=none,fn,tmps:=A.tmps,params:=ps,assign:=as,body,defers:=w.heap.size }) (K:=0) (by
   simp only[ORel]
   refine⟨_,(w.heap.size,0,0),rfl,rfl,rfl,(hf.tmps.mono hle1).mono (Em.le_put _ _ _ hs1.free),rfl,rfl,rfl,?_,rfl⟩
   exact Em.le_put _ _ _ hs1.free _ _ (Em.put_same _ _ _))
  have hle2:=Em.le_trans hle1 (Em.le_put _ _ ((w.alloc (.deferred (some []))).heap.size,0,0) hs1.free)
  have hsz:(w.alloc (.deferred (some []))).heap.size=w.heap.size+1:=World.size_alloc _ _
  have hnx:(s.alloc (.dfr false)).nx=s.nx+1:=rfl
  rw[hsz,hnx] at hle2 hs2
  have hid:((E.put s.nx (w.heap.size,0,0)).put (s.nx+1) (w.heap.size+1,0,0)) (s.nx+1)=some (w.heap.size+1,0,0):=Em.put_same _ _ _
  have hid0:((E.put s.nx (w.heap.size,0,0)).put (s.nx+1) (w.heap.size+1,0,0)) s.nx=some (w.heap.size,0,0):=by
   simp[Em.put]
  have hargs:VRels ((E.put s.nx (w.heap.size,0,0)).put (s.nx+1) (w.heap.size+1,0,0)) (.yld (s.nx+1)::cap) (.func (.yield (w.heap.size+1)) #[] #[]::C) :=
   VRels.cons (by simp only[VRel];exact⟨_,hid,rfl⟩) (hC.mono hle2)
  obtain⟨W1,hW1⟩:∃ W1,(w.alloc (.deferred (some []))).alloc (.loop { state:=.ready,pending:=none,fn,tmps:=A.tmps,params:=ps,assign:=as,body,defers:=w.heap.size })=W1:=⟨_,rfl⟩
  rw[hW1] at hs2
  generalize hE2:(E.put s.nx (w.heap.size,0,0)).put (s.nx+1) (w.heap.size+1,0,0)=E2 at *
  have key:Qy P g∧CallsIn (FW none) 0 P g (.func (.yield (w.heap.size+1)) #[] #[]::C).toArray W1 (QF (fun _ w3=>rangePost (FW none) 0 P (w.heap.size+1) Q { A with defers:=[{ target:=.collected w.heap.size,args:=#[] }]++A.defers } (.returned undef) w3) fun _ _=>False):=by
   refine hr.call h hargs hs2 ?_ (fun _ _ _ _ _ _ _ _ h=>by cases h)
   intro E3 v s3 V w3 hle3 _ hs3 hk3
   dsimp only at hk3
   have hfE:FRel E3 { a with d:=.mark s.nx::a.d } { A with defers:=[{ target:=.collected w.heap.size,args:=#[] }]++A.defers } :=
    ⟨⟨hf.tmps.mono (Em.le_trans hle2 hle3)⟩,⟨_,A.defers,hle3 _ _ hid0,hf.defs.mono (Em.le_trans hle2 hle3),rfl⟩⟩
   split at hk3
   ·rename_i st pd fn' t n ps' as' b dd hg
    obtain⟨p,L,hp,hO,h1,h2,h3,h4,h5,h6,h7⟩:=hs3.loop hg
    cases Sim.same hid hle3 hp
    have hbusy:∀ (hb:L.state≠.busy),Sim w0 E3 { s3 with h:=s3.h.set (s.nx+1) (.loop .exhausted pd fn' t n ps' as' b dd) } (w3.putObj (w.heap.size+1) (.loop { L with state:=.exhausted })):=fun _=>by
     refine hs3.puts hg hp (Zx hO) ?_
     have:=Jm (st':=.exhausted) (pd':=pd) h7
     simpa [← h2] using this
    split at hk3
    ·cases hk3
    ·rename_i hst
     have hb:L.state≠.busy:=by rw[h1];exact hst
     refine⟨L.pending,_,run_endLoop hO hb,?_⟩
     have hB:=hbusy hb
     generalize w3.putObj (w.heap.size+1) (.loop { L with state:=.exhausted })=w4 at hB ⊢
     rw[h2]
     cases pd with
     | none=>exact hk E3 .normal _ _ .normal _ _ (Em.le_trans hle2 hle3) rfl hfE hB hk3
     | some j=>exact hr.code (RD:=none) hk3 rfl hfE hB (hk.mono (Em.le_trans hle2 hle3))
   ·cases hk3
  obtain⟨hen,hcalls⟩:=key
  refine⟨w.heap.size+1,[{ target:=.collected w.heap.size,args:=#[] }],W1,{ target:=.fn (.func g) C.toArray,args:=#[.func (.yield (w.heap.size+1)) #[] #[]] },W1,g,(.func (.yield (w.heap.size+1)) #[] #[]::C).toArray,W1,by rw[← hW1];exact run_enterLoop_outer _ _ _ _ _,?_,fun _ _=>trivial,?_,VZ none,CallsIn.mono hcalls fun en w3 hen=>?_⟩
  ·simp only[resolve,hV]
   simp[go_sem]
  ·simp only[invoke]
   rw[hen]
   simp
  ·cases en with
   | returned v=>exact hen
   | panicked ch=>obtain⟨_,_,hh⟩:=hen;exact hh.elim
   | outgrown=>exact hen.elim
 ·cases h
theorem qkc (he:ProgOk e P) (hpr:PrimsOk P pr) (hr:Sound P r) {rd RD:Option Nat} {c:Code} {k:AE→Ac→St→Bool} {Q:Exit→Act→World→Prop} (h:(step e pr r).code rd c a s k=true) (hrd:RdRel E rd RD) (hf:FRel E a A) (hs:Sim w0 E s w) (hk:KOk w0 E k Q):c.wpIn (FW RD) 0 P Q A w:=by
 have refl:=Em.le_refl E
 cases c with
 | skip=>exact wpIn_skip (hk E .normal a s _ A w refl rfl hf hs h)
 | label l=>exact wpIn_label (hk E .normal a s _ A w refl rfl hf hs h)
 | exit id=>exact wpIn_exit (hk E (.exit id) a s _ A w refl rfl hf hs h)
 | goto l=>exact wpIn_goto (hk E (.goto l) a s _ A w refl rfl hf hs h)
 | ret=>exact wpIn_ret (hk E .ret a s _ A w refl rfl hf hs h)
 | seq x y =>
  simp only[step] at h
  refine wpIn_seq (hr.code h hrd hf hs ?_)
  intro E' ex a' s' X A' w' hle hX hG hs' hk'
  cases ex with
  | normal=>simp only[X5] at hX;subst hX;exact hr.code hk' (hrd.mono hle) hG hs' (hk.mono hle)
  | exit j=>simp only[X5] at hX;subst hX;exact hk E' (.exit j) a' s' _ A' w' hle rfl hG hs' hk'
  | goto j=>simp only[X5] at hX;subst hX;exact hk E' (.goto j) a' s' _ A' w' hle rfl hG hs' hk'
  | ret=>simp only[X5] at hX;subst hX;exact hk E' .ret a' s' _ A' w' hle rfl hG hs' hk'
  | panic v=>obtain⟨V,hV,rfl⟩:=hX;exact hk E' (.panic v) a' s' _ A' w' hle ⟨V,hV,rfl⟩ hG hs' hk'
 | cond c x y =>
  simp only[step] at h
  split at h
  ·rename_i b hb
   have:=qw hf.toARel c
   rw[hb] at this
   simp only[VRel] at this
   refine wpIn_cond (t:=b) this ?_
   have h1:=hr.code h hrd hf hs hk
   cases b <;> exact h1
  ·cases h
 | block id c =>
  simp only[step] at h
  refine wpIn_block (hr.code h hrd hf hs ?_)
  intro E' ex a' s' X A' w' hle hX hG hs' hk'
  cases ex with
  | normal=>simp only[X5] at hX;subst hX;exact hk E' .normal a' s' _ A' w' hle rfl hG hs' hk'
  | exit j =>
   simp only[X5] at hX;subst hX
   simp only at hk'
   simp only[Exit.inBlock]
   cases hb:Nat.beq j id with
   | true =>
    rw[hb] at hk'
    rw[if_pos (Nat.eq_of_beq_eq_true hb)]
    exact hk E' .normal a' s' _ A' w' hle rfl hG hs' hk'
   | false =>
    rw[hb] at hk'
    rw[if_neg (Nat.ne_of_beq_eq_false hb)]
    exact hk E' (.exit j) a' s' _ A' w' hle rfl hG hs' hk'
  | goto j=>simp only[X5] at hX;subst hX;exact hk E' (.goto j) a' s' _ A' w' hle rfl hG hs' hk'
  | ret=>simp only[X5] at hX;subst hX;exact hk E' .ret a' s' _ A' w' hle rfl hG hs' hk'
  | panic v=>obtain⟨V,hV,rfl⟩:=hX;exact hk E' (.panic v) a' s' _ A' w' hle ⟨V,hV,rfl⟩ hG hs' hk'
 | loop c=>exact (WJ hr h hrd hf hs hk).wpIn
 | scope c =>
  simp only[step] at h
  refine qkn (hr.code h hrd hf hs (fun E' ex a' s' X A' w' hle hX hG hs' hk'=>?_))
  cases ex with
  | normal=>simp only[X5] at hX;subst hX;exact⟨by simp,hk E' .normal a' s' _ A' w' hle rfl hG hs' hk'⟩
  | exit j=>simp only[X5] at hX;subst hX;exact⟨by simp,hk E' (.exit j) a' s' _ A' w' hle rfl hG hs' hk'⟩
  | goto j=>cases hk'
  | ret=>simp only[X5] at hX;subst hX;exact⟨by simp,hk E' .ret a' s' _ A' w' hle rfl hG hs' hk'⟩
  | panic v=>obtain⟨V,hV,rfl⟩:=hX;exact⟨by simp,hk E' (.panic v) a' s' _ A' w' hle ⟨V,hV,rfl⟩ hG hs' hk'⟩
 | region id ops dr =>
  simp only[step] at h
  cases dr with
  | false =>
   refine wpIn_region ?_
   have:=qf7 (ops:=ops) he.toEnvOk hpr hr ops.toList 0 a s k E A w rfl h hrd hf hs hk
   rw[List.range_eq_range']
   simpa using this
  | true =>
   simp only at h
   cases hns:VM ops.toList with
   | false=>rw[hns] at h;cases h
   | true=>rw[hns] at h;exact qle he.toEnvOk hpr hr he.mixed hns h hrd hf hs hk
 | rangeFunc f ps as body =>
  cases rd with
  | some id=>simp[step] at h
  | none=>simp only[RdRel] at hrd;subst hrd;exact KE hr h hf hs hk
 | refuse x=>simp[step] at h
theorem Xw:Sound P qbp:=⟨fun h=>(by cases h),fun h=>(by cases h),fun h=>(by cases h)⟩
theorem Y9 (he:ProgOk e P) (hpr:PrimsOk P pr) (hr:Sound P r):Sound P (step e pr r) :=
 ⟨fun h h1 h2 h3 h4=>qkc he hpr hr h h1 h2 h3 h4,fun h h1 h2 h3 h4=>WJ hr h h1 h2 h3 h4,fun h h1 h2 h3 h4=>qkw he hr h h1 h2 h3 h4⟩
theorem qif (he:ProgOk e P) (hpr:PrimsOk P pr):∀ n,Sound P (ev e pr n)
 | 0=>Xw
 | n+1=>Y9 he hpr (qif he hpr n)
end Go.AX
namespace Go.AX
open Go.RowKit Go.Maps Go.Sort
open Go.WideElems (Fit rd rg)
open Go.WideShapes (sorted_perm)
open Go.Proofs (encStr)
open Go.WideMaps (keyOf_string_mk)
variable {P:Program} {w0:World} {E:Em} {s:St} {w:World}
structure LibOk (P:Program) (p:PN):Prop where
 byte:∀ (args:Array Value) (w:World),(callFunc p.indexByte args).run P w=((Extern.BytealgIndexByte.indexByte args).run P w).andThen fun v w'=>.ok (.value v) w'
 joinE:Qy P p.join
 join0:∀ (a:Option Addr) (c:Nat) (sep:ByteArray) (w:World),Calls P p.join #[.slice a 0 c,.string sep] w fun e w'=>e=.returned (.string ⟨#[]⟩)∧w'=w
 join:∀ (bk o c:Nat) (xs:List ByteArray) (sep:ByteArray) (w:World),(∀ (j:Nat) x,xs[j]?=some x→w.cell? ⟨bk,o+j,none⟩=some (.string x))→bk < w.heap.size→xs.length≤140737488355328→xs.length≤c →
  (Lib.join (xs.map (·.data.toList)) sep.data.toList).length≤140737488355328 →
  Calls P p.join #[.slice (some ⟨bk,o,none⟩) xs.length c,.string sep] w fun e w'=>e=.returned (.string ⟨(Lib.join (xs.map (·.data.toList)) sep.data.toList).toArray⟩)∧Below w.heap.size w w'
 repE:Qy P p.rep
 rep:∀ (s:ByteArray) (c:Nat) (w:World),c≤9223372036854775807→s.size * c≤140737488355328 →
  Calls P p.rep #[.string s,.int .i64 c] w fun e w'=>e=.returned (.string ⟨(Lib.repeatL s.data.toList c).toArray⟩)∧Below w.heap.size w w'
 anyE:Qy P p.anyOf
 any:∀ (s:ByteArray) (w:World),s.size < 4294967281 →
  Calls P p.anyOf #[.string s,.string ⟨#[47,0]⟩] w fun e w'=>e=.returned (.bool (Lib.containsAny s.data.toList [47,0]))∧Below w.heap.size w w'
 sortE:Qy P p.sorted
 tyS:P.underlying p.tyStr=some .string
 sorted:∀ (c b nn:Nat) (D0:DataW Unit) (R:Value→Option (DataW Unit × List MemPlace)) (W:World),c < W.heap.size→W.cell? ⟨c,0,none⟩=some (.map (some b))→W.ownsMap P p.tyStr R b nn D0→Maps.size D0≤maxLen→Maps.size D0 * 16≤140737488355328 →
  Calls P p.sorted #[.func (.func p.keys) #[] #[.pointer (some ⟨c,0,none⟩)]] W fun e w'=>∃ (v:Value) (ss:List (List UInt8)),e=.returned v∧ss.Perm (strKeys D0) ∧
   w'.ownsRow W.heap.size p.tyStr 1 v ss.length ((ss.mergeSort (fun x y=>decide (x≤y))).map encStr)∧(v=.slice none 0 0↔ss=[])∧Below W.heap.size W w'
theorem ZK {f:FuncId} {args:Array Value} {R:Ending→World→Prop} (h:Calls P f args w R):CallsIn (FW none) 0 P f args w R:=(callsIn_wide (n:=0)).2 h
theorem Sim.grown (h:Sim w0 E s w) {w':World} (hb:Below w.heap.size w w'):Sim w0 E s w':=by
 refine⟨fun id o ho=>?_,h.inj,h.fresh,h.below.trans (hb.mono h.below.size)⟩
 obtain⟨p,O,hp,hO,hr,hle⟩:=h.obj id o ho
 exact⟨p,O,hp,by rw[hb.block p.1 (Array.getElem?_eq_some_iff.1 hO).1];exact hO,hr,hle⟩
theorem Sim.add (h:Sim w0 E s w) {w':World} (hb:Below w.heap.size w w') {g K:Nat} (hg:w.heap.size≤g) {o:AO} {O:Obj} (hO:w'.heap[g]?=some O) (ho:ORel (E.put s.nx (g,0,K)) (g,0,K) o O) :
  Sim w0 (E.put s.nx (g,0,K)) (s.alloc o) w':=by
 have hle:=Em.le_put E s.nx (g,0,K) h.free
 have h':=h.grown hb
 have lt:∀ {id o' p},s.h.get id=some o'→E id=some p→p.1 < w.heap.size:=fun {id o' p} hi hp=>by
  obtain⟨q,O',hq,hO',_,_⟩:=h.obj id o' hi
  rw[hp] at hq;cases hq
  exact (Array.getElem?_eq_some_iff.1 hO').1
 have old:∀ {id o'},(s.alloc o).h.get id=some o'→id≠s.nx→s.h.get id=some o':=fun {id o'} hi hne=>by
  simp only[St.alloc,Tr.get_set] at hi
  rw[if_neg hne] at hi
  exact hi
 have olds:∀ {id p},(E.put s.nx (g,0,K)) id=some p→id≠s.nx→E id=some p:=fun {id p} hp hne=>by
  unfold Em.put at hp
  rw[if_neg hne] at hp
  exact hp
 refine⟨fun id o' ho'=>?_,fun id id' o1 o2 p p' h1 h2 e1 e2 hp=>?_,fun id p hp=>?_,h'.below⟩
 ·by_cases hid:id=s.nx
  ·subst hid
   simp only[St.alloc,Tr.get_set,if_true,Option.some.injEq] at ho'
   subst ho'
   exact⟨_,O,Em.put_same _ _ _,hO,ho,Or.inl (Nat.le_trans h.below.size hg)⟩
  ·obtain⟨q,O',hq,hO',hr,hB⟩:=h'.obj id o' (old ho' hid)
   exact⟨q,O',hle _ _ hq,hO',hr.mono hle,hB⟩
 ·by_cases hid:id=s.nx
  ·by_cases hid':id'=s.nx
   ·exact Or.inl (by rw[hid,hid'])
   ·subst hid
    rw[Em.put_same] at e1
    cases e1
    have:=lt (old h2 hid') (olds e2 hid')
    simp only at hp
    omega
  ·by_cases hid':id'=s.nx
   ·subst hid'
    rw[Em.put_same] at e2
    cases e2
    have:=lt (old h1 hid) (olds e1 hid)
    simp only at hp
    omega
   ·exact h.inj _ _ _ _ _ _ (old h1 hid) (old h2 hid') (olds e1 hid) (olds e2 hid') hp
 ·by_cases hid:id=s.nx
  ·subst hid;simp[St.alloc]
  ·have:=h.fresh id p (olds hp hid);simp only[St.alloc];omega
def u8 (l:List Nat):List UInt8:=l.map UInt8.ofNat
theorem qii (sep:List Nat):∀ l:List (List Nat),u8 (qo sep l)=Lib.join (l.map u8) (u8 sep)
 | []=>rfl
 | [a]=>by simp[qo,Lib.join,List.intercalate]
 | a::b::l=>by
  have ih:=qii sep (b::l)
  unfold qo
  simp only[u8,List.map_append] at ih ⊢
  rw[ih]
  simp[Lib.join,List.intercalate,u8]
theorem Ku {sep:List Nat} (hs:qO sep):∀ {l:List (List Nat)},(∀ x∈l,qO x)→qO (qo sep l)
 | [],_=>by simp[qo,qO]
 | [a],h=>by simpa [qo] using h a (by simp)
 | a::b::l,h=>by
  intro c hc
  simp only[qo,List.mem_append] at hc
  rcases hc with hc|hc|hc
  ·exact h a (by simp) c hc
  ·exact hs c hc
  ·exact Ku hs (l:=b::l) (fun x hx=>h x (List.mem_cons_of_mem _ hx)) c (by simpa [qo] using hc)
theorem qob (b:List Nat):∀ n,u8 (qdd b n)=Lib.repeatL (u8 b) n
 | 0=>rfl
 | n+1=>by simp only[qdd,Lib.repeatL,u8,List.map_append];rw[show List.map UInt8.ofNat (qdd b n)=u8 (qdd b n) from rfl,qob];rfl
theorem qaw {b:List Nat} (hb:qO b):∀ n,qO (qdd b n)
 | 0=>by simp[qdd,qO]
 | n+1=>by
  intro c hc
  simp only[qdd,List.mem_append] at hc
  rcases hc with hc|hc
  ·exact hb c hc
  ·exact qaw hb n c hc
theorem Vv:∀ (b:List Nat) (c k:Nat),qO b→c < 256→qJ b c k=((List.range b.length).find? fun i=>b[i]! == c).map (k + ·)
 | [],_,_,_,_=>rfl
 | a::l,c,k,hb,hc=>by
  unfold qJ
  rw[List.length_cons,List.range_succ_eq_map,List.find?_cons]
  cases h:Nat.beq a c with
  | true =>
   have:a=c:=Nat.eq_of_beq_eq_true h
   simp[this]
  | false =>
   have hne:a≠c:=Nat.ne_of_beq_eq_false h
   rw[Vv l c (k+1) (fun x hx=>hb x (by simp[hx])) hc]
   simp only[cond_false,List.getElem!_cons_zero,List.find?_map,Function.comp_def,List.getElem!_cons_succ]
   have:(a==c)=false:=by simp[hne]
   rw[this]
   simp only[Option.map_map]
   congr 1
   funext i
   simp only[Function.comp]
   omega
theorem qed {b:List Nat} {c:Nat} (hb:qO b) (hc:c < 256):firstIdx ⟨(u8 b).toArray⟩ (c:Int).toNat.toUInt8=(match qJ b c 0 with|some i=>(i:Int)|none=>-1):=by
 rw[Vv b c 0 hb hc]
 unfold firstIdx
 have hsz:(⟨(u8 b).toArray⟩:ByteArray).size=b.length:=by simp[u8,ByteArray.size]
 rw[hsz]
 have hcon:∀ (l:List Nat),(∀ i∈l,i < b.length)→l.find? (fun i=>(⟨(u8 b).toArray⟩:ByteArray)[i]! == (c:Int).toNat.toUInt8)=l.find? (fun i=>b[i]! == c):=by
  intro l
  induction l with
  | nil=>intro _;rfl
  | cons i l ih =>
   intro hl
   have hi:=hl i (by simp)
   have h1:((⟨(u8 b).toArray⟩:ByteArray)[i]! == (c:Int).toNat.toUInt8)=(b[i]! == c):=by
    have hi':i < (⟨(u8 b).toArray⟩:ByteArray).size:=by rw[hsz];exact hi
    rw[getElem!_pos (⟨(u8 b).toArray⟩:ByteArray) i hi',getElem!_pos b i hi]
    show ((u8 b).toArray[i]'_==_)=_
    have h2:(u8 b).toArray[i]'(by simpa [u8] using hi)=UInt8.ofNat b[i]:=by simp[u8]
    rw[h2]
    have h3:(c:Int).toNat.toUInt8=UInt8.ofNat c:=by simp
    rw[h3,Bool.eq_iff_iff]
    simp[Kn (hb _ (List.getElem_mem hi)) hc]
   rw[List.find?_cons,List.find?_cons,h1,ih (fun j hj=>hl j (List.mem_cons_of_mem _ hj))]
 rw[hcon _ (fun i hi=>by simpa using hi)]
 cases (List.range b.length).find? (fun i=>b[i]! == c) <;> simp
theorem qzt {p:PN} (h:LibOk P p) {g:FuncId} {args:List AV} {s':St} {v:AV} {Args:List Value} (hp:qra p g args s=some (v,s')) (hv:VRels E args Args) (hs:Sim w0 E s w) :
  ∃ V w' E',(callFunc g Args.toArray).run P w=.ok (.value V) w'∧E.le E'∧VRel E' v V∧Sim w0 E' s' w':=by
 unfold qra at hp
 cases hg:Nat.beq g p.indexByte with
 | false=>rw[hg] at hp;cases hp
 | true =>
  rw[hg] at hp
  simp only[cond_true] at hp
  split at hp
  ·rename_i b c
   cases hc:Nat.blt c 256 with
   | false=>rw[hc] at hp;cases hp
   | true =>
    rw[hc] at hp
    simp only[cond_true,Option.some.injEq,Prod.mk.injEq] at hp
    obtain⟨rfl,rfl⟩:=hp
    simp only[VRels,VRel] at hv
    obtain⟨_,_,⟨hb,rfl⟩,⟨_,_,rfl,rfl,rfl⟩,rfl⟩:=hv
    rw[Nat.eq_of_beq_eq_true hg]
    refine⟨.int .i64 (firstIdx ⟨(u8 b).toArray⟩ (c:Int).toNat.toUInt8),w,E,?_,Em.le_refl E,?_,hs⟩
    ·rw[h.byte]
     have:=run_indexByte_string (P:=P) ⟨(u8 b).toArray⟩ (c:Int) w
     show ((Extern.BytealgIndexByte.indexByte #[.string ⟨(u8 b).toArray⟩,.int .u8 (c:Int)]).run P w).andThen _=_
     rw[this]
     rfl
    ·rw[qed hb (Nat.blt_eq.mp hc)]
     cases qJ b c 0 with
     | none=>exact QK
     | some i=>exact QK
  ·cases hp
theorem qd0:∀ {l:List AV} {bs:List (List Nat)} {L:List Value},qgn l=some bs→VRels E l L→L=bs.map Yp∧∀ b∈bs,qO b
 | [],_,_,h,hv=>by
  simp only[qgn,Option.some.injEq] at h
  simp only[VRels] at hv
  subst h hv
  exact⟨rfl,fun _ h=>by cases h⟩
 | x::l,bs,L,h,hv=>by
  unfold qgn at h
  split at h
  ·rename_i heq;cases heq
  ·rename_i b l' heq
   cases heq
   split at h
   ·rename_i r hr
    simp only[Option.some.injEq] at h
    subst h
    simp only[VRels,VRel] at hv
    obtain⟨_,Vs,⟨hb,rfl⟩,hvs,rfl⟩:=hv
    obtain⟨h1,h2⟩:=qd0 hr hvs
    refine⟨by rw[h1];rfl,fun x hx=>?_⟩
    rcases List.mem_cons.1 hx with rfl|hx
    ·exact hb
    ·exact h2 x hx
   ·cases h
  ·cases h
def ba (b:List Nat):ByteArray:=⟨(u8 b).toArray⟩
theorem qoy (b:List Nat):(ba b).data.toList=u8 b:=rfl
theorem qxq {p:PN} (h:LibOk P p) {x:AV} {X:Value} {sep:List Nat} {l:List (List Nat)} (hx:WO s x=some l) (hX:VRel E x X) (hsep:qO sep) (h1:(qo sep l).length≤1000000) (h2:l.length≤1000000) (hs:Sim w0 E s w) :
  CallsIn (FW none) 0 P p.join #[X,Yp sep] w fun en w'=>∃ V E',en=.returned V∧E.le E'∧VRel E' (.str (qo sep l)) V∧Sim w0 E' s w':=by
 have none_:∀ {a:Option Addr} {c:Nat},l=[]→CallsIn (FW none) 0 P p.join #[.slice a 0 c,Yp sep] w fun en w'=>∃ V E',en=.returned V∧E.le E'∧VRel E' (.str (qo sep l)) V∧Sim w0 E' s w':=fun {a c} hl=>by
  subst hl
  refine CallsIn.mono (ZK (h.join0 a c _ w)) ?_
  rintro en w' ⟨rfl,rfl⟩
  exact⟨_,E,rfl,Em.le_refl E,by simp[VRel,qo,qO,Yp],hs⟩
 unfold WO at hx
 split at hx
 ·rename_i id off len ci cap ex
  split at hx
  ·rename_i cs el fz hcells
   split at hx
   ·rename_i l' hcut
    have hg:=zl hcells
    simp only[VRel] at hX
    obtain⟨q,hq,rfl,hlc,hex⟩:=hX
    obtain⟨q',O,hq',hO,hr,_⟩:=hs.obj _ _ hg
    rw[hq] at hq';cases hq'
    obtain⟨L,hL,hLl,hLc⟩:=Kj hO hr hcut
    obtain⟨rfl,hb⟩:=qd0 hx hL
    have hlen:(l.map ba).length=len:=by simpa using hLl
    have hjoin:Lib.join ((l.map ba).map (·.data.toList)) (ba sep).data.toList=u8 (qo sep l):=by
     rw[qii,List.map_map];rfl
    have:=h.join q.1 (q.2.1+off) (if ex then cap else q.2.2 - ci) (l.map ba) (ba sep) w ?_ (Array.getElem?_eq_some_iff.1 hO).1 ?_ ?_ ?_
    ·rw[hlen,hjoin] at this
     refine CallsIn.mono (ZK this) ?_
     rintro en w' ⟨rfl,hB⟩
     exact⟨_,E,rfl,Em.le_refl E,by simp only[VRel];exact⟨Ku hsep hb,rfl⟩,hs.grown hB⟩
    ·intro j y hy
     simp only[List.getElem?_map,Option.map_eq_some_iff] at hy
     obtain⟨b,hb',rfl⟩:=hy
     exact hLc j _ (by simp only[List.getElem?_map,hb'];rfl)
    ·simp;omega
    ·rw[hlen]
     cases ex with
     | true=>simpa using hlc
     | false=>have:=hex rfl;simp;omega
    ·rw[hjoin];simp[u8];omega
   ·cases hx
  ·cases hx
 ·rename_i c
  simp only[VRel] at hX
  subst hX
  simp only[Option.some.injEq] at hx
  exact none_ hx.symm
 ·simp only[VRel] at hX
  obtain⟨q,_,rfl⟩:=hX
  simp only[Option.some.injEq] at hx
  exact none_ hx.symm
 ·cases hx
theorem VA (x:List Nat):∀ l,(Y2 x l).Perm (x::l)
 | []=>List.Perm.refl _
 | y::l=>by
  unfold Y2
  cases ltB x y with
  | true=>exact List.Perm.refl _
  | false=>exact ((VA x l).cons y).trans (List.Perm.swap x y l)
theorem XP:∀ l,(Qq l).Perm l
 | []=>List.Perm.refl _
 | x::l=>(VA x (Qq l)).trans ((XP l).cons x)
theorem qt8:∀ {x y:List Nat},qO x→qO y→ltB x y=true→u8 x < u8 y
 | _,[],_,_,h=>by simp[ltB] at h
 | [],_::_,_,_,_=>by simp[u8]
 | a::x,b::y,hx,hy,h=>by
  have ha:=hx a (by simp)
  have hb:=hy b (by simp)
  simp only[ltB] at h
  simp only[u8,List.map_cons]
  rw[List.cons_lt_cons_iff]
  cases h1:Nat.blt a b with
  | true =>
   have:=Nat.blt_eq.mp h1
   left
   rw[UInt8.lt_iff_toNat_lt];simp[Nat.mod_eq_of_lt ha,Nat.mod_eq_of_lt hb,this]
  | false =>
   rw[h1] at h
   simp only[cond_false] at h
   cases h2:Nat.beq a b with
   | false=>rw[h2] at h;cases h
   | true =>
    rw[h2] at h
    have:=Nat.eq_of_beq_eq_true h2
    subst this
    exact .inr ⟨rfl,qt8 (fun c hc=>hx c (by simp[hc])) (fun c hc=>hy c (by simp[hc])) h⟩
theorem Xo:∀ {l:List (List Nat)},(∀ b∈l,qO b)→qsv l=true→(l.map u8).Pairwise (· < ·)
 | [],_,_=>List.Pairwise.nil
 | [x],_,_=>by simp
 | x::y::l,hb,h=>by
  unfold qsv at h
  cases h1:ltB x y with
  | false=>rw[h1] at h;cases h
  | true =>
   rw[h1] at h
   have hxy:=qt8 (hb x (by simp)) (hb y (by simp)) h1
   have ih:=Xo (l:=y::l) (fun b hb'=>hb b (List.mem_cons_of_mem _ hb')) h
   rw[List.map_cons]
   refine List.pairwise_cons.2 ⟨fun z hz=>?_,ih⟩
   rw[List.map_cons] at hz ih
   rcases List.mem_cons.1 hz with rfl|hz
   ·exact hxy
   ·exact List.lt_trans hxy ((List.pairwise_cons.1 ih).1 z hz)
theorem qe7:∀ {es:List (AV × AV)} {ks:List (List Nat)} {L:List MapEntry},qlc es=some ks→MRels E es L→L.map (·.key)=ks.map Yp∧∀ b∈ks,qO b
 | [],_,_,h,hv=>by
  simp only[qlc,Option.some.injEq] at h
  simp only[MRels] at hv
  subst h hv
  exact⟨rfl,fun _ h=>by cases h⟩
 | (k,v)::es,ks,L,h,hv=>by
  unfold qlc at h
  split at h
  ·rename_i heq;cases heq
  ·rename_i b v' es' heq
   cases heq
   split at h
   ·rename_i r hr
    simp only[Option.some.injEq] at h
    subst h
    simp only[MRels,VRel] at hv
    obtain⟨e,r',⟨hb,hk⟩,_,hm,rfl⟩:=hv
    obtain⟨h1,h2⟩:=qe7 hr hm
    refine⟨by simp[h1,hk],fun x hx=>?_⟩
    rcases List.mem_cons.1 hx with rfl|hx
    ·exact hb
    ·exact h2 x hx
   ·cases h
  ·cases h
theorem Ki:∀ {l:List (List Nat)},Xc l=true→∀ b∈l,b.length≤1000000
 | [],_,_,h=>by cases h
 | x::l,h,b,hb=>by
  unfold Xc at h
  cases h1:Nat.ble x.length 1000000 with
  | false=>rw[h1] at h;cases h
  | true =>
   rw[h1] at h
   rcases List.mem_cons.1 hb with rfl|hb
   ·exact Nat.le_of_ble_eq_true h1
   ·exact Ki h b hb
def JG:Value→Option (DataW Unit × List MemPlace):=fun _=>some (.nil,[])
theorem qll {p:PN} (h:LibOk P p) {b ck:Nat} {en:Array MapEntry} (hO:w.heap[b]?=some (.map en ck)) (hB:Born en ck) {ks:List (List Nat)} (hk:en.toList.map (·.key)=ks.map Yp) (hnd:(ks.map u8).Nodup) (hlen:ks.length≤1000000) (hshort:∀ b∈ks,b.length≤1000000) :
  ∃ D0:DataW Unit,w.ownsMap P p.tyStr JG b en.size D0∧(strKeys D0).Perm (ks.map u8)∧Maps.size D0=ks.length:=by
 have hsz:en.size=ks.length:=by
  have:=congrArg List.length hk
  simpa using this
 have hkey:∀ x∈en.toList,∃ b∈ks,x.key=Yp b:=fun x hx=>by
  have:x.key∈en.toList.map (·.key):=List.mem_map_of_mem hx
  rw[hk] at this
  obtain⟨b,hb,he⟩:=List.mem_map.1 this
  exact⟨b,hb,he.symm⟩
 have hrd:∀ x∈en.toList,∀ b∈ks,x.key=Yp b→rd (H:=Unit) P p.tyStr JG x=some (.string (u8 b),.nil):=fun x _ b hb he=>by
  unfold rd
  rw[he]
  have hs:(⟨(u8 b).toArray⟩:ByteArray).size≤maxLen:=by
   have:=hshort b hb
   have h2:(⟨(u8 b).toArray⟩:ByteArray).size=b.length:=by simp[u8,ByteArray.size]
   rw[h2];unfold maxLen;omega
  have hk1:=keyOf_string_mk h.tyS hs
  show ((_:Option Lit).bind _)=_
  rw[show Yp b=.string ⟨(u8 b).toArray⟩ from rfl,hk1]
  rfl
 refine⟨_,⟨en,ck,hO,⟨by rw[hsz];unfold maxLen;omega,?_,fun x hx=>?_⟩,Nat.le_refl _,rfl⟩,?_,?_⟩
 ·rw[MapKept.stamped_iff]
  refine⟨hB.1,hB.2,?_⟩
  have h1:(en.toList.map (·.key)).Pairwise (·≠·):=by
   rw[hk]
   refine List.pairwise_map.2 ((List.pairwise_map.1 hnd).imp ?_)
   intro a b hab he
   apply hab
   have he:(Value.string ⟨(u8 a).toArray⟩)=.string ⟨(u8 b).toArray⟩:=he
   simpa using he
  exact List.pairwise_map.1 h1
 ·obtain⟨b,hb,he⟩:=hkey x hx
  exact⟨_,hrd x hx b hb he⟩
 ·have hperm:=sorted_perm (en.toList.map (rg (H:=Unit) P p.tyStr JG))
  have h1:(strKeys (.map ((en.toList.map (rg (H:=Unit) P p.tyStr JG)).foldr DataW.insert []))).Perm ((en.toList.map (rg (H:=Unit) P p.tyStr JG)).map fun q=>strOf q.1):=hperm.map _
  refine h1.trans ?_
  have h2:((en.toList.map (rg (H:=Unit) P p.tyStr JG)).map fun q=>strOf q.1)=ks.map u8:=by
   have gen:∀ (L:List MapEntry) (ks':List (List Nat)),L.map (·.key)=ks'.map Yp→(∀ x∈L,∀ b∈ks',x.key=Yp b→rd (H:=Unit) P p.tyStr JG x=some (.string (u8 b),.nil))→((L.map (rg (H:=Unit) P p.tyStr JG)).map fun q=>strOf q.1)=ks'.map u8:=by
    intro L
    induction L with
    | nil=>intro ks' h1 _;cases ks' with
     | nil=>rfl
     | cons _ _=>cases h1
    | cons x L ih =>
     intro ks' h1 h2
     cases ks' with
     | nil=>cases h1
     | cons b ks' =>
      simp only[List.map_cons,List.cons.injEq] at h1 ⊢
      refine⟨?_,ih ks' h1.2 fun y hy b' hb'=>h2 y (List.mem_cons_of_mem _ hy) b' (List.mem_cons_of_mem _ hb')⟩
      unfold rg
      rw[h2 x (by simp) b (by simp) h1.1]
      rfl
   exact gen _ _ hk hrd
  rw[h2]
 ·show (List.foldr DataW.insert [] _).length=_
  rw[(sorted_perm _).length_eq]
  simp[hsz]
theorem qfj {p:PN} (h:LibOk P p) {id m:Nat} {el:TypeId} {es:List (AV × AV)} {ks:List (List Nat)} {q:Nat × Nat × Nat} {v:AV} {s':St} (hq:E id=some q) (hg:s.h.get id=some (.cells [.map m] el 0)) (hm:s.h.get m=some (.map es)) (hk:qlc es=some ks)
  (hr:(match ks with | []=>some (.raw (.slice none 0 0),s)|ks=>qho p s (Qq ks))=some (v,s')) (hs:Sim w0 E s w) :
  CallsIn (FW none) 0 P p.sorted #[.func (.func p.keys) #[] #[.pointer (some ⟨q.1,q.2.1+0,none⟩)]] w fun en w'=>∃ V E',en=.returned V∧E.le E'∧VRel E' v V∧Sim w0 E' s' w':=by
 obtain⟨q',O,hq',hO,hrel,_⟩:=hs.obj _ _ hg
 rw[hq] at hq';cases hq'
 simp only[ORel] at hrel
 obtain⟨C,fz,rfl,hC,_,_,_,h0⟩:=hrel
 have h0:=h0 rfl
 obtain⟨V,hV,hv⟩:=hC 0 (.map m) rfl
 simp only[VRel] at hv
 obtain⟨qm,hqm,rfl⟩:=hv
 obtain⟨qm',Om,hqm',hOm,hrm,_⟩:=hs.obj _ _ hm
 rw[hqm] at hqm';cases hqm'
 simp only[ORel] at hrm
 obtain⟨en,ck,rfl,hmr,hB⟩:=hrm
 obtain⟨hkey,hbytes⟩:=qe7 hk hmr
 have hcell:w.cell? ⟨q.1,0,none⟩=some (.map (some qm.1)):=by
  rw[X1 hO,← h0];simpa using hV
 rw[h0,Nat.zero_add]
 have hlt:=(Array.getElem?_eq_some_iff.1 hO).1
 cases ks with
 | nil =>
  simp only[Option.some.injEq,Prod.mk.injEq] at hr
  obtain⟨rfl,rfl⟩:=hr
  obtain⟨D0,hown,hperm,hsize⟩:=qll h hOm hB hkey (by simp) (by simp) (fun _ h=>by cases h)
  refine CallsIn.mono (ZK (h.sorted q.1 qm.1 _ D0 JG w hlt hcell hown (by rw[hsize];simp) (by rw[hsize];simp))) ?_
  rintro e1 w1 ⟨V1,ss,rfl,hss,_,hnil,hbel⟩
  have:ss=[]:=by
   have:=(hss.trans hperm).length_eq
   simpa using this
  exact⟨V1,E,rfl,Em.le_refl E,by simp only[VRel];exact hnil.2 this,hs.grown hbel⟩
 | cons k0 ks' =>
  simp only at hr
  generalize hks:k0::ks'=ks at *
  have hne:ks≠[]:=by rw[← hks];simp
  unfold qho at hr
  cases hchk:(qsv (Qq ks)&&Nat.ble (Qq ks).length 1000000&&Xc (Qq ks)) with
  | false=>rw[hchk] at hr;cases hr
  | true =>
   rw[hchk] at hr
   simp only[cond_true,Option.some.injEq,Prod.mk.injEq] at hr
   obtain⟨rfl,rfl⟩:=hr
   simp only[Bool.and_eq_true] at hchk
   obtain⟨⟨hinc,hl⟩,hsh⟩:=hchk
   have hsp:=XP ks
   have hlen:(Qq ks).length=ks.length:=hsp.length_eq
   have hl:=Nat.le_of_ble_eq_true hl
   have hsb:∀ b∈Qq ks,qO b:=fun b hb=>hbytes b (hsp.mem_iff.1 hb)
   have hpw:=Xo hsb hinc
   have hnd:(ks.map u8).Nodup:=by
    have:((Qq ks).map u8).Nodup:=hpw.imp fun {a b} hab he=>by subst he;exact List.lt_irrefl _ hab
    exact (hsp.map u8).nodup_iff.1 this
   obtain⟨D0,hown,hperm,hsize⟩:=qll h hOm hB hkey hnd (by omega) (fun b hb=>Ki hsh b (hsp.mem_iff.2 hb))
   refine CallsIn.mono (ZK (h.sorted q.1 qm.1 _ D0 JG w hlt hcell hown (by rw[hsize];unfold maxLen;omega) (by rw[hsize];omega))) ?_
   rintro e1 w1 ⟨V1,ss,rfl,hss,hrow,hnil,hbel⟩
   have hssk:ss.Perm ((Qq ks).map u8):=(hss.trans hperm).trans (hsp.map u8).symm
   have hsort:ss.mergeSort (fun x y=>decide (x≤y))=(Qq ks).map u8:=by
    have tr:∀ a b c:List UInt8,leB a b=true→leB b c=true→leB a c=true:=fun a b c h1 h2=>by simp only[leB,decide_eq_true_eq] at *;exact List.le_trans h1 h2
    have to:∀ a b:List UInt8,(leB a b||leB b a)=true:=fun a b=>by simp only[leB,Bool.or_eq_true,decide_eq_true_eq];exact List.le_total a b
    refine List.Perm.eq_of_pairwise (le:=fun a b=>leB a b=true) (fun a b _ _ h1 h2=>?_) (List.pairwise_mergeSort tr to ss) (hpw.imp fun {a b} hab=>?_) ((List.mergeSort_perm ss _).trans hssk)
    ·simp only[leB,decide_eq_true_eq] at h1 h2
     exact List.le_antisymm h1 h2
    ·simp only[leB,decide_eq_true_eq]
     exact List.le_of_lt hab
   have hssl:ss.length=(Qq ks).length:=by simpa using hssk.length_eq
   rw[hsort,hssl] at hrow
   obtain⟨_,hrow⟩:=hrow
   rcases hrow with⟨_,hz⟩|⟨g,cap,cur,rfl,hgle,hgO,hcap,_,hcur,htake⟩
   ·rw[hlen] at hz
    exact absurd (List.length_eq_zero_iff.1 hz) hne
   ·have hle:=Em.le_put E s.nx (g,0,cap) hs.free
    refine⟨_,E.put s.nx (g,0,cap),rfl,hle,?_,hs.add hbel hgle hgO ?_⟩
    ·simp only[VRel]
     exact⟨_,Em.put_same _ _ _,by simp,Nat.le_refl _,fun _=>by simpa using hcap⟩
    ·simp only[ORel]
     refine⟨cur,(0,0),rfl,fun i u hu=>?_,⟨fun _ _ _=>by simp,fun _=>by simp,fun _=>by simp;omega,fun _=>rfl⟩⟩
     simp only[List.getElem?_map,Option.map_eq_some_iff] at hu
     obtain⟨b,hb,rfl⟩:=hu
     refine⟨Yp b,?_,by unfold VRel;exact⟨hsb b (List.mem_of_getElem? hb),rfl⟩⟩
     have hi:=(List.getElem?_eq_some_iff.1 hb).1
     have h3:(cur.toList.take ((Qq ks).length * 1))[i]?=some (Yp b):=by
      rw[htake]
      simp only[List.getElem?_map,hb]
      rfl
     rw[List.getElem?_take_of_lt (by omega)] at h3
     simpa using h3
theorem qc1 {c:Nat}:∀ {l:List Nat},qny c l=decide (c∈l)
 | []=>by simp[qny]
 | x::l=>by
  simp only[qny,qc1 (l:=l)]
  cases hx:Nat.beq c x with
  | true=>simp[Nat.eq_of_beq_eq_true hx]
  | false=>simp[Nat.ne_of_beq_eq_false hx]
theorem q0t {c:Nat} {l:List Nat} (hc:c < 256) (hl:qO l):UInt8.ofNat c∈u8 l↔c∈l:=by
 unfold u8
 rw[List.mem_map]
 constructor
 ·rintro⟨d,hd,he⟩
  have h1:=congrArg UInt8.toNat he
  simp only[UInt8.toNat_ofNat'] at h1
  have:=hl d hd
  rw[Nat.mod_eq_of_lt (by omega),Nat.mod_eq_of_lt (by omega)] at h1
  exact h1 ▸ hd
 ·exact fun h=>⟨c,h,rfl⟩
theorem qn2 {cs:List Nat} (hcs:qO cs):∀ {l:List Nat},qO l→qf1 cs l=Lib.containsAny (u8 l) (u8 cs):=by
 intro l
 induction l with
 | nil=>intro _;rfl
 | cons c l ih =>
  intro hl
  have ih:=ih (fun x hx=>hl x (List.mem_cons_of_mem _ hx))
  have hc:=hl c (by simp)
  have hm:=q0t hc hcs
  have hge:=Lib.indexAny_ge (u8 cs) (u8 l)
  show (bif qny c cs then true else qf1 cs l)=decide (0≤Lib.indexAny (UInt8.ofNat c::u8 l) (u8 cs))
  rw[qc1,ih]
  unfold Lib.indexAny Lib.containsAny
  by_cases h:c∈cs
  ·have:(u8 cs).contains (UInt8.ofNat c)=true:=by rw[List.contains_iff_mem];exact hm.2 h
   simp only[h,decide_true,cond_true,this,if_true]
   rfl
  ·have:(u8 cs).contains (UInt8.ofNat c)=false:=by
    rw[← Bool.not_eq_true,List.contains_iff_mem];exact fun hx=>h (hm.1 hx)
   simp only[h,decide_false,cond_false,this,Bool.false_eq_true,if_false]
   by_cases h1:Lib.indexAny (u8 l) (u8 cs)=-1
   ·simp[h1]
   ·have:(Lib.indexAny (u8 l) (u8 cs)==-1)=false:=by simpa using h1
    rw[this]
    simp only[Bool.false_eq_true,if_false]
    rw[decide_eq_decide]
    omega
theorem qsc {p:PN} (h:LibOk P p):PrimsOk P (zc p):=by
 refine⟨fun hp hv hs=>qzt h hp hv hs,fun {g args s s' v w0 w E Args} hp hv hs=>?_⟩
 simp only[zc,qu2] at hp
 cases h1:Nat.beq g p.join with
 | true =>
  rw[h1] at hp
  simp only[cond_true] at hp
  have:=Nat.eq_of_beq_eq_true h1
  subst this
  refine⟨h.joinE,?_⟩
  split at hp
  ·rename_i x sep
   split at hp
   ·rename_i l hl
    cases hc:(Nat.ble (qo sep l).length 1000000&&Nat.ble l.length 1000000) with
    | false=>rw[hc] at hp;cases hp
    | true =>
     rw[hc] at hp
     simp only[cond_true,Option.some.injEq,Prod.mk.injEq] at hp
     obtain⟨rfl,rfl⟩:=hp
     rw[Bool.and_eq_true] at hc
     simp only[VRels] at hv
     obtain⟨X,_,hX,⟨S,_,hS,rfl,rfl⟩,rfl⟩:=hv
     simp only[VRel] at hS
     obtain⟨hsep,rfl⟩:=hS
     exact qxq h hl hX hsep (Nat.le_of_ble_eq_true hc.1) (Nat.le_of_ble_eq_true hc.2) hs
   ·cases hp
  ·cases hp
 | false =>
  rw[h1] at hp
  simp only[cond_false] at hp
  cases h2:Nat.beq g p.rep with
  | true =>
   rw[h2] at hp
   simp only[cond_true] at hp
   have:=Nat.eq_of_beq_eq_true h2
   subst this
   refine⟨h.repE,?_⟩
   split at hp
   ·rename_i b n
    cases hc:(Nat.ble (b.length * n) 1000000&&Nat.ble n 1000000) with
    | false=>rw[hc] at hp;cases hp
    | true =>
     rw[hc] at hp
     simp only[cond_true,Option.some.injEq,Prod.mk.injEq] at hp
     obtain⟨rfl,rfl⟩:=hp
     rw[Bool.and_eq_true] at hc
     have hc1:=Nat.le_of_ble_eq_true hc.1
     have hc2:=Nat.le_of_ble_eq_true hc.2
     simp only[VRels,VRel] at hv
     obtain⟨_,_,⟨hb,rfl⟩,⟨_,_,rfl,rfl,rfl⟩,rfl⟩:=hv
     have hsz:(ba b).size=b.length:=by simp[ba,u8,ByteArray.size]
     refine CallsIn.mono (ZK (h.rep (ba b) n w (by omega) (by rw[hsz];omega))) ?_
     rintro en w' ⟨rfl,hB⟩
     refine⟨_,E,rfl,Em.le_refl E,?_,hs.grown hB⟩
     simp only[VRel]
     refine⟨qaw hb n,?_⟩
     rw[qoy,← qob]
     rfl
   ·cases hp
  | false =>
   rw[h2] at hp
   simp only[cond_false] at hp
   cases h3:Nat.beq g p.sorted with
   | false =>
    rw[h3] at hp
    simp only[cond_false] at hp
    cases h5:Nat.beq g p.anyOf with
    | false=>rw[h5] at hp;cases hp
    | true =>
     rw[h5] at hp
     simp only[cond_true] at hp
     have:=Nat.eq_of_beq_eq_true h5
     subst this
     refine⟨h.anyE,?_⟩
     split at hp
     ·rename_i b cs
      cases hc:(eqB cs [47,0]&&Nat.ble b.length 1000000) with
      | false=>rw[hc] at hp;cases hp
      | true =>
       rw[hc] at hp
       simp only[cond_true,Option.some.injEq,Prod.mk.injEq] at hp
       obtain⟨rfl,rfl⟩:=hp
       simp only[Bool.and_eq_true] at hc
       obtain⟨ha1,hl1⟩:=hc
       have hl1:=Nat.le_of_ble_eq_true hl1
       rw[qG] at ha1
       have ha2:=of_decide_eq_true ha1
       subst ha2
       simp only[VRels,VRel] at hv
       obtain⟨_,_,⟨hb,rfl⟩,⟨_,_,⟨hcs,rfl⟩,rfl,rfl⟩,rfl⟩:=hv
       have hsz:∀ b:List Nat,(ba b).size=b.length:=fun b=>by simp[ba,u8,ByteArray.size]
       refine CallsIn.mono (ZK (h.any (ba b) w (by rw[hsz];omega))) ?_
       rintro en w' ⟨rfl,hB⟩
       refine⟨_,E,rfl,Em.le_refl E,?_,hs.grown hB⟩
       simp only[VRel,q8]
       have hx:=qn2 hcs hb
       rw[qoy]
       exact congrArg _ hx.symm
     ·cases hp
   | true =>
    rw[h3] at hp
    simp only[cond_true] at hp
    have:=Nat.eq_of_beq_eq_true h3
    subst this
    refine⟨h.sortE,?_⟩
    split at hp
    ·rename_i f id
     cases h4:Nat.beq f p.keys with
     | false=>rw[h4] at hp;cases hp
     | true =>
      rw[h4] at hp
      simp only[cond_true] at hp
      have:=Nat.eq_of_beq_eq_true h4
      subst this
      split at hp
      ·rename_i m el hg
       split at hp
       ·rename_i es hm
        simp only[VRels,VRel] at hv
        obtain⟨_,_,⟨C,⟨_,_,⟨q,hq,rfl⟩,rfl,rfl⟩,rfl⟩,rfl,rfl⟩:=hv
        split at hp
        ·rename_i hk
         exact qfj h hq hg hm hk hp hs
        ·rename_i ks hne hk
         refine qfj h hq hg hm hk ?_ hs
         cases ks with
         | nil=>exact absurd rfl hne
         | cons _ _=>exact hp
        ·cases hp
       ·cases hp
      ·cases hp
    ·cases hp
end Go.AX
namespace Go.AX
open Go.RowKit Go.ChangeShapes Go.WideShapes
variable {P:Program}
theorem KH {α:Type}:∀ (l:List α) (i:Nat),(qf2 l)[i]?=l[2 * i]?
 | [],_=>by simp[qf2]
 | [a],0=>rfl
 | [a],i+1=>by simp[qf2,show 2 * (i+1)=(2 * i+1)+1 from by omega]
 | a::b::l,0=>rfl
 | a::b::l,i+1=>by
  rw[show 2 * (i+1)=2 * i+1+1 from by omega]
  simp only[qf2,List.getElem?_cons_succ]
  exact KH l i
theorem Zo {α:Type}:∀ (f:Nat) (l:List α) (i:Nat) (x:α),(Tr.ofListF f l).get i=some x→l[i]?=some x
 | 0,_,_,_,h=>by simp[Tr.ofListF,Tr.get] at h
 | _+1,[],_,_,h=>by simp[Tr.ofListF,Tr.get] at h
 | f+1,a::l,i,x,h=>by
  simp only[Tr.ofListF,Tr.get] at h
  cases h0:Nat.beq i 0 with
  | true =>
   have:=Nat.eq_of_beq_eq_true h0
   subst this
   simpa using h
  | false =>
   have hi:=Nat.ne_of_beq_eq_false h0
   rw[h0] at h
   simp only[cond_false] at h
   cases h1:Nat.beq (i % 2) 1 with
   | true =>
    have:=Nat.eq_of_beq_eq_true h1
    rw[h1] at h
    simp only[cond_true] at h
    have:=Zo f _ _ _ h
    rw[KH] at this
    obtain⟨j,rfl⟩:∃ j,i=j+1:=⟨i - 1,by omega⟩
    rw[List.getElem?_cons_succ,← this]
    congr 1
    omega
   | false =>
    have:=Nat.ne_of_beq_eq_false h1
    rw[h1] at h
    simp only[cond_false] at h
    have:=Zo f _ _ _ h
    rw[KH,List.getElem?_drop] at this
    obtain⟨j,rfl⟩:∃ j,i=j+1:=⟨i - 1,by omega⟩
    rw[List.getElem?_cons_succ,← this]
    congr 1
    omega
def q63 (P:Program):Bool:=P.types.toList.all fun i=>match i.desc with
 | .named _ u=>(P.info? u).isSome
 | _=>true
def q58 (P:Program):Bool:=P.funcs.toList.all fun g=>g.body.isNone||!(g.name== "runtime.NumGoroutine")
theorem progOk (h1:q63 P=true) (h2:q58 P=true) (h3:P.follows .mixedOrders=true):ProgOk (qwt P) P:={
 prog:=rfl
 mixed:=h3
 fn:=fun f g h=>by
  have:=Zo _ _ _ _ h
  simpa using this
 named:=fun f g h hb=>by
  have:=Zo _ _ _ _ h
  have hm:=List.mem_of_getElem? this
  have:=List.all_eq_true.1 h2 g hm
  rw[Bool.or_eq_true] at this
  rcases this with this|this
  ·cases hg:g.body with
   | none=>rw[hg] at hb;cases hb
   | some c=>rw[hg] at this;cases this
  ·simpa using this
 ty:=fun t ti h=>by
  have h:=Zo _ _ _ _ h
  simp only[List.getElem?_map,Option.map_eq_some_iff] at h
  obtain⟨i,hi,rfl⟩:=h
  have hi':P.types[t]?=some i:=by simpa using hi
  have hinf:P.info? t=some i:=by
   unfold Tables.info?
   rw[if_pos (Array.getElem?_eq_some_iff.1 hi').1]
   exact hi'
  refine⟨i,hinf,?_,rfl,rfl,rfl⟩
  have hchk:=List.all_eq_true.1 h1 i (List.mem_of_getElem? hi)
  unfold Program.underlying
  rw[hinf]
  obtain⟨desc,b1,b2,b3,b4,b5,b6,b7,b8,b9⟩:=i
  cases desc with
  | named n u =>
   simp only at hchk
   simp only[q87]
   cases hu:P.info? u with
   | none=>rw[hu] at hchk;cases hchk
   | some j=>rfl
  | _=>rfl }
theorem q9b (w:World):Sim w (fun _=>none) { h:=.e,nx:=0 } w :=
 ⟨fun _ _ h=>(by simp[Tr.get] at h),fun _ _ _ _ _ _ h=>(by simp[Tr.get] at h),fun _ _ h=>(by cases h),Below.refl _ w⟩
theorem post_of_below {H:Type} {enc:TypeId × Value→H} {f:Func} {s:ChangeSpec} {apart fresh handsOn again:Bool} {W W':World} {args:Array Value} {v:Value} {ds gs:List (DataW H)} {before pa pv:List MemPlace}
  (hW:DataW.Whole enc P f.params.toList s.vars apart W args.toList ds gs before)
  (hres:∀ (b:Nat) (sp:Nat→Bool) (hd:Bool),DataW.TrodAll enc P W' b sp hd f.resultTypes.toList (v.resultList f.resultTypes.size) (s.fn H (ds++gs)).results [])
  (hargs:∀ sp:Nat→Bool,(∀ p∈before,sp p.block=true)→DataW.TrodAll enc P W' 0 sp true f.params.toList args.toList (s.fn H (ds++gs)).args pa)
  (hvars:∀ sp:Nat→Bool,(∀ p∈before,sp p.block=true)→DataW.TrodVars enc P W' sp s.vars (s.fn H (ds++gs)).vars pv)
  (hps:before=pa++pv) (hb:Below W.heap.size W W')
  (hok:∀ (j:Nat) (t:TypeId) (r:Value),f.resultTypes[j]?=some t→(v.resultList f.resultTypes.size)[j]?=some r→Value.okWide P W' .any 0 t r) :
  s.post enc P f apart fresh handsOn again W args v W':=by
 have hlt:=hW.lt
 have hold:∀ p∈before,(fun b=>decide (b < W.heap.size)) p.block=true:=fun p hp=>by simpa using hW.lt p hp
 refine⟨ds,gs,before,[],pa,pv,hW,hres _ _ _,hargs _ hold,hvars _ hold,World.keptBut_mono (fun p hp=>⟨hp,?_⟩) (hb.frame (·∈before)),fun _=>?_⟩
 ·rw[hps,List.mem_append] at hp
  exact Or.inr hp
 ·obtain⟨_,_,_,_,_,hz,hn⟩:=hW
  refine⟨hok,_,_,([]++pa)++pv,⟨[]++pa,pv,trodAll_append (hargs _ (fun _ _=>rfl)) (hres _ _ _),hvars _ (fun _ _=>rfl),rfl,?_,?_⟩,?_⟩
  ·intro b off hp
   have hp':MemPlace.cell b off∈before:=by rw[hps];simpa using hp
   rw[hb.frozen (hlt _ hp')]
   exact hz b off hp'
  ·intro ha
   have:=hn ha
   rw[hps] at this
   simpa using this
  ·intro p hp _
   rw[hps]
   simpa using hp
end Go.AX
