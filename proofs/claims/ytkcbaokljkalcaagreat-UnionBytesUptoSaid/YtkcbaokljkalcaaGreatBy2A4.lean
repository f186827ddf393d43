import GoSem.Step
import Derived.Fence
import Derived.CallsIn
set_option linter.unusedVariables false
set_option linter.unusedSimpArgs false
set_option linter.defProp false
namespace Go.AX
set_option maxRecDepth 100000
set_option maxHeartbeats 4000000
set_option linter.unusedSimpArgs false
set_option linter.unusedVariables false
theorem que {p:Program} {w w':World} {a:Addr} {v:Value} {b:Bool} {l:List Addr} (h:w.farStore p a v b=.ok (w',l)):w'.drawn=w.drawn:=by
  unfold World.farStore at h
  split at h
  · split at h
    · rename_i r hr
      cases h
      unfold World.viewStore at hr
      simp only[bind,Except.bind,pure,Except.pure,throw,throwThe,MonadExceptOf.throw] at hr
      repeat' (split at hr)
      all_goals first|(cases hr;done)|(cases hr;rfl)|skip
      all_goals (try (simp only[Except.ok.injEq,Prod.mk.injEq] at hr;obtain⟨rfl,_⟩:=hr;rfl))
    · cases h
  · cases h
theorem qol {α:Type}:∀ (x:Ask α) (w:World),w.drawn≤(w.ask x).2.drawn
  | .done a,w=>Nat.le_refl _
  | .ask what range k,w=>by
    unfold World.ask
    simp only
    split
    · exact qol _ w
    · exact Nat.le_trans (Nat.le_succ _) (qol _ { w with drawn:=w.drawn+1 })
theorem qtm {w:World} {c:Sys}:w.drawn≤(w.sys c).2.drawn:=by
  have h:=qol (Kernel.perform c w.os) w
  unfold World.sys
  generalize w.ask (Kernel.perform c w.os)=x at h
  obtain⟨⟨r,os⟩,w'⟩:=x
  cases r <;> first|exact Nat.le_refl _|exact h
def Result.dr {α:Type} (w:World):Result α→Prop
  | .ok _ w'=>w.drawn≤w'.drawn
  | .halt _ w'=>w.drawn≤w'.drawn
theorem Result.dr_mono {α:Type} {w w':World} {r:Result α} (h:w.drawn≤w'.drawn) (hr:Result.dr w' r):Result.dr w r:=by
  cases r <;> exact Nat.le_trans h hr
theorem freeze_dr {w:World} {a:Addr} {n:Nat}:(w.freeze a n).drawn=w.drawn:=by
  unfold World.freeze
  split <;> rfl
theorem qm5 {α:Type} {p:Program}:∀ (x:Sem α) (w:World),Result.dr w (x.run p w):=by
  intro x
  induction x with
  | pure a=>exact fun w=>Nat.le_refl _
  | load m a k ih =>
    intro w
    simp only[Sem.run]
    split
    · exact ih _ w
    · split
      · exact ih _ w
      · exact Nat.le_refl _
  | store m a v k ih =>
    intro w
    cases v <;> first
      | exact Nat.le_refl _
      | (simp only[Sem.run]
         split
         · split
           · exact Nat.le_refl _
           · exact ih _
         · split
           · rename_i w1 l h
             exact Result.dr_mono (Nat.le_of_eq (que h).symm) (ih w1)
           · exact Nat.le_refl _)
  | new o k ih=>exact fun w=>ih _ _
  | shape r k ih=>exact fun w=>ih _ w
  | freeze a n k ih=>exact fun w=>Result.dr_mono (Nat.le_of_eq freeze_dr.symm) (ih _)
  | frozen a k ih=>exact fun w=>ih _ w
  | getObj r k ih =>
    intro w
    simp only[Sem.run]
    split
    · exact Nat.le_refl _
    · exact ih _ w
    · exact Nat.le_refl _
  | setObj r o k ih =>
    intro w
    simp only[Sem.run]
    split
    · exact Nat.le_refl _
    · exact ih { w with heap:=w.heap.setIfInBounds r o }
    · exact Nat.le_refl _
  | choose q k ih =>
    intro w
    simp only[Sem.run]
    split
    · exact ih _ w
    · exact Result.dr_mono (Nat.le_succ _) (ih _ { w with drawn:=w.drawn+1 })
  | sys c k ih=>exact fun w=>Result.dr_mono qtm (ih _ _)
  | program k ih=>exact fun w=>ih _ w
  | mark m k ih=>exact fun w=>ih w
  | halt h=>exact fun w=>Nat.le_refl _
theorem qmk {α:Type} {p:Program}:∀ (x:Sem α) (w:World) (es:Array Event),Result.dr w (x.runT p w es).1:=by
  intro x
  induction x with
  | pure a=>exact fun w es=>Nat.le_refl _
  | load m a k ih =>
    intro w es
    simp only[Sem.runT]
    split
    · exact ih _ w _
    · split
      · exact ih _ w _
      · exact Nat.le_refl _
  | store m a v k ih =>
    intro w es
    cases v <;> first
      | exact Nat.le_refl _
      | (simp only[Sem.runT]
         split
         · split
           · exact Nat.le_refl _
           · exact ih _ _
         · split
           · rename_i w1 l h
             exact Result.dr_mono (Nat.le_of_eq (que h).symm) (ih w1 _)
           · exact Nat.le_refl _)
  | new o k ih=>exact fun w es=>ih _ _ _
  | shape r k ih=>exact fun w es=>ih _ w _
  | freeze a n k ih=>exact fun w es=>Result.dr_mono (Nat.le_of_eq freeze_dr.symm) (ih _ _)
  | frozen a k ih=>exact fun w es=>ih _ w _
  | getObj r k ih =>
    intro w es
    simp only[Sem.runT]
    split
    · exact Nat.le_refl _
    · exact ih _ w _
    · exact Nat.le_refl _
  | setObj r o k ih =>
    intro w es
    simp only[Sem.runT]
    split
    · exact Nat.le_refl _
    · exact ih { w with heap:=w.heap.setIfInBounds r o } _
    · exact Nat.le_refl _
  | choose q k ih =>
    intro w es
    simp only[Sem.runT]
    split
    · exact ih _ w _
    · exact Result.dr_mono (Nat.le_succ _) (ih _ { w with drawn:=w.drawn+1 } _)
  | sys c k ih=>exact fun w es=>Result.dr_mono qtm (ih _ _ _)
  | program k ih=>exact fun w es=>ih _ w _
  | mark m k ih=>exact fun w es=>ih w _
  | halt h=>exact fun w es=>Nat.le_refl _
theorem Qj {α:Type} {p:Program} {x:Sem α} {w w':World} {a:α} (h:x.run p w=.ok a w'):w.drawn≤w'.drawn:=by
  have:=qm5 (p:=p) x w
  rw[h] at this
  exact this
theorem qrp {α:Type} {p:Program} {x:Sem α} {w w':World} {a:Halt} (h:x.run p w=.halt a w'):w.drawn≤w'.drawn:=by
  have:=qm5 (p:=p) x w
  rw[h] at this
  exact this
theorem JU {α:Type} {p:Program} {x:Sem α} {w:World} {es es':Array Event} {r:Result α} (h:x.runT p w es=(r,es')):Result.dr w r:=by
  have:=qmk (p:=p) x w es
  rw[h] at this
  exact this
def gDr (w:World):GStep→Prop
  | .go _ w' _=>w.drawn≤w'.drawn
  | .comm _ _ _ _ w' _=>w.drawn≤w'.drawn
  | .spawn _ _ w' _=>w.drawn≤w'.drawn
  | .count _ w' _=>w.drawn≤w'.drawn
  | .timer _ _ w' _=>w.drawn≤w'.drawn
  | .alone _ _ w' _=>w.drawn≤w'.drawn
  | .newcoro _ _ _ w' _=>w.drawn≤w'.drawn
  | .coroswitch _ _ _ w' _=>w.drawn≤w'.drawn
  | .collect _ w' _=>w.drawn≤w'.drawn
  | .watch _ w' _=>w.drawn≤w'.drawn
  | .ended _ _ _=>True
theorem zZ {w:World} {es:Array Event} {g:GStep}:gDr w (g.after es)↔gDr w g:=by cases g <;> exact Iff.rfl
theorem ZR {w w':World} {g:GStep} (h:w.drawn≤w'.drawn) (hg:gDr w' g):gDr w g:=by cases g <;> first|exact trivial|exact Nat.le_trans h hg
theorem qrd {fr:Frame} {a:List ByteArray} {m:String} {b:Bool} {w:World}:gDr w (dieOf fr a m b w):=Nat.le_refl _
theorem Qs {fr:Frame} {m:String} {w:World}:gDr w (endThrow fr m w):=Nat.le_refl _
theorem qjz {w:World} {fd:Nat} {tx:ByteArray} {o:Outcome}:gDr w (endWith w fd tx o):=by
  unfold endWith
  simp only
  split
  · split <;> exact trivial
  · exact trivial
  · exact trivial
theorem JD {p:Program} {fr:Frame} {v:Value} {w:World}:gDr w (endPrinting p fr v w):=by
  unfold endPrinting
  simp only
  split
  · exact Qs
  · exact trivial
theorem JK {p:Program} {fr:Frame} {cs:List Frame} {d:Option Dying} {m:String} {w:World}:gDr w (endFatal p fr cs d m w):=by
  unfold endFatal
  simp only
  split
  · rename_i h
    exact ZR (Qj h) qrd
  · exact trivial
  · exact trivial
theorem qj2 {p:Program} {fr:Frame} {d:Dying} {f:Fatal} {w:World}:gDr w (writeOn p fr d f w):=by
  unfold writeOn
  simp only
  split
  · exact trivial
  · split
    · rename_i h;exact JU h
    · rename_i h;exact JU h
    · exact trivial
    · exact trivial
theorem q1e {p:Program} {fr:Frame} {d:Dying} {w:World}:gDr w (die p fr d w):=by
  unfold die
  split
  · exact qj2
  · split
    · split
      · exact Nat.le_refl _
      · exact qjz
    · simp only
      split
      · exact Nat.le_refl _
      · split
        · rename_i h;exact Qj h
        · exact trivial
      · rw[zZ]
        generalize hr:(invoke _ _).runT p w #[]=r
        have h:=JU (r:=r.1) (es':=r.2) hr
        split
        · rename_i e;rw[e] at h;exact h
        · rename_i e;rw[e] at h;exact h
        · exact trivial
        · rename_i e;rw[e] at h;exact ZR h JD
        · exact trivial
      · exact trivial
theorem JS {p:Program} {b:Bool} {fr:Frame} {cs:List Frame} {d:Option Dying} {v:Value} {w:World}:gDr w (doReturn p b fr cs d v w):=by
  unfold doReturn
  split
  · split <;> exact Nat.le_refl _
  · split
    · exact Nat.le_refl _
    · exact trivial
    · split
      · exact Nat.le_refl _
      · split
        · exact Nat.le_refl _
        · exact trivial
theorem qi1 {p:Program} {fr:Frame} {cs:List Frame} {d:Option Dying} {g:Nat} {w:World}:gDr w (early p fr cs d g w):=by
  have nY:∀ {w0 w':World},w0.drawn≤w'.drawn→gDr w0 (match w'.heap[g]? with
    | some (.pending c elem)=>GStep.go { frame:=fr,callers:=cs,status:=.running,dying:=d } { w' with heap:=w'.heap.setIfInBounds g (.cells c elem) }
    | _=>.ended (.stuck "early: the variable does not wait" (fr.pos p)) w'):=fun h=>by
    split
    · exact h
    · exact trivial
  unfold early
  simp only
  repeat' split
  all_goals first|exact trivial|exact Nat.le_refl _|(have hh:=Qj ‹Sem.run p (choose (Question.early g)) w=_›;exact hh)
theorem W8 {p:Program} {fr:Frame} {cs:List Frame} {d:Option Dying} {x:Deferred} {w:World}:gDr w (callDeferred p fr cs d x w):=by
  unfold callDeferred
  simp only
  generalize hr:(invoke x.target x.args).runT p w #[]=r
  obtain⟨r,es⟩:=r
  have h:=JU hr
  clear hr
  cases r with
  | ok v w' =>
    have h:w.drawn≤w'.drawn:=h
    cases v with
    | coroswitch c b=>cases b <;> simp only <;> (repeat' split) <;> first|exact trivial|(rw[zZ];first|exact trivial|exact h)
    | alone b v=>cases b <;> simp only <;> (repeat' split) <;> first|exact trivial|(rw[zZ];first|exact trivial|exact h)
    | _=>simp only <;> (repeat' split) <;> first|exact trivial|(rw[zZ];first|exact trivial|exact h)
  | halt a w' =>
    have h:w.drawn≤w'.drawn:=h
    cases a <;> simp only <;> (repeat' split) <;> first|exact trivial|(rw[zZ];first|exact trivial|exact h|exact ZR h JK|exact ZR h Qs)|skip
theorem qpa {p:Program} {b:Bool} {fr:Frame} {cs:List Frame} {d:Option Dying} {w:World}:gDr w (unwind p b fr cs d w):=by
  unfold unwind
  split
  · rename_i blk _ ds _
    simp only
    rw[zZ]
    generalize hr:(Instr.takeDeferred blk).runT p w #[]=r
    have h:=JU (r:=r.1) (es':=r.2) hr
    split
    · rename_i e;rw[e] at h;exact h
    · exact trivial
  · exact W8
  · split
    · exact trivial
    · split
      · exact trivial
      · split
        · exact Nat.le_refl _
        · split
          · split
            · exact Nat.le_refl _
            · split
              · rename_i h;exact Qj h
              · exact trivial
              · exact trivial
          · split
            · exact JD
            · exact trivial
    · split
      · exact JS
      · rename_i fn _
        simp only
        rw[zZ]
        generalize hr:(results fn fr.tmps).runT p w #[]=r
        have h:=JU (r:=r.1) (es':=r.2) hr
        split
        · rename_i e;rw[e] at h;exact ZR h JS
        · exact trivial
        · exact trivial
theorem Yt {p:Program} {main l:Bool} {fr:Frame} {cs:List Frame} {d:Option Dying} {s:Sem Next} {w:World}:gDr w (stepG.apply p l fr cs d s w):=by
  unfold stepG.apply
  simp only
  generalize hr:(if l=true then s.runT p w #[] else (s.run p w,#[]))=r
  obtain⟨r,es⟩:=r
  have h:Result.dr w r:=by
    split at hr
    · exact JU hr
    · have:=qm5 (p:=p) s w
      simp only[Prod.mk.injEq] at hr
      rw[hr.1] at this
      exact this
  clear hr
  simp only
  rw[zZ]
  cases r with
  | ok v w' =>
    have h:w.drawn≤w'.drawn:=h
    cases v <;> simp only <;> (repeat' split) <;> first|exact trivial|exact h|(exact ZR h Qs)|(rename_i e;cases e <;> first|exact trivial|exact h)|skip
  | halt a w' =>
    have h:w.drawn≤w'.drawn:=h
    cases a with
    | unsupported u=>cases u <;> (try simp only) <;> (repeat' split) <;> first|exact trivial|exact h|exact ZR h JK|exact ZR h Qs|exact ZR h qi1
    | _=>(try simp only) <;> (repeat' split) <;> first|exact trivial|exact h|exact ZR h JK|exact ZR h Qs|exact ZR h qi1
theorem qwp {p:Program} {main l:Bool} {fr:Frame} {cs:List Frame} {d:Option Dying} {w:World}:gDr w (stepG.oper p l fr cs d w):=by
  unfold stepG.oper
  split
  · exact trivial
  · split <;> exact Yt (main:=main)
theorem qsk {α:Type} {w:World} {o:Option α} {a:GStep} {f:α→GStep} (h1:gDr w a) (h2:∀ k,gDr w (f k)):gDr w (o.elim a f):=by
  cases o with
  | none=>exact h1
  | some k=>exact h2 k
theorem qcr {α:Type} {p:Program} {x:Sem α} {w:World} {es:Array Event} {r:Result α} (h:(x.runT p w es).fst=r):Result.dr w r:=by
  rw[← h]
  exact qmk x w es
theorem qve {p:Program} {main l:Bool} {fr:Frame} {cs:List Frame} {d:Option Dying} {w:World}:gDr w (stepG.exec p main l fr cs d w):=by
  unfold stepG.exec
  simp only
  repeat' split
  all_goals (try refine qsk ?_ (fun _=>?_))
  all_goals first|exact trivial|exact Nat.le_refl _|exact Yt (main:=main)|exact qwp (main:=main)|(rw[zZ];exact trivial)|(rename_i e;rw[zZ];have e:=qcr e;exact ZR e JS)|(rename_i e;rw[zZ];have e:=qcr e;exact ZR e (Yt (main:=main)))|(rename_i e;rw[zZ];have e:=qcr e;exact e)|(rename_i e;exact Qj e)|skip
theorem qqj {p:Program} {main l:Bool} {g:Goroutine} {w:World}:gDr w (stepG p main g w l):=by
  unfold stepG
  simp only
  split
  · exact q1e
  · exact qve
  · exact qpa
def sDr (w:World):Stepped→Prop
  | .next m=>w.drawn≤m.world.drawn
  | .ended _ _=>True
theorem WY {w w':World} {s:Stepped} (h:w.drawn≤w'.drawn) (hs:sDr w' s):sDr w s:=by cases s <;> first|exact trivial|exact Nat.le_trans h hs
theorem qpj {p:Program} {gs:Array Goroutine} {rest:Rest} {w:World}:sDr w (look p gs rest w):=by
  unfold look
  split
  · simp only
    split
    · exact trivial
    · split
      · exact trivial
      · split
        · rename_i e
          have h:=Qj e
          clear e
          exact h
        · exact trivial
        · exact trivial
  · exact trivial
theorem qye {p:Program} {rest:Rest} {gs:Array Goroutine} {i:Nat} {g:Goroutine} {cases:Array CommCase} {b:Bool} {sh:CommShape} {w:World}:sDr w (communicate p rest gs i g cases b sh w).1:=by
  have wa:∀ {w':World},waitingAt rest cases w=some w'→w'.drawn=w.drawn:=fun {w'} h=>by
    unfold waitingAt at h
    split at h
    · split at h
      · cases h;rfl
      · cases h
    · cases h;rfl
  unfold communicate
  simp only
  split
  · exact trivial
  · split
    · split
      · split
        · rename_i e;exact Nat.le_of_eq (wa e).symm
        · exact trivial
      · exact Nat.le_refl _
    · split
      · exact trivial
      · rename_i e
        have h0:=Qj e
        clear e
        repeat' split
        all_goals first|exact trivial|exact h0|(rename_i e;exact Nat.le_trans h0 (Qj e))|(rename_i e;exact Nat.le_trans h0 (qrp e))|(rename_i e _;have e:=Qj e;exact Nat.le_trans h0 e)|(rename_i e _ _;have e:=Qj e;exact Nat.le_trans h0 e)|(rename_i e _ _ _;have e:=Qj e;exact Nat.le_trans h0 e)|(rename_i e _ _ _ _;have e:=Qj e;exact Nat.le_trans h0 e)|(rename_i e;have e:=Qj e;exact Nat.le_trans h0 e)|skip
theorem qs4 {p:Program} {m:Machine} {k:Nat}:sDr m.world (serve p m k):=by
  unfold serve
  split
  · exact trivial
  · exact Nat.le_refl _
  · simp only
    split
    · exact trivial
    · exact Nat.le_refl _
theorem qdz {m:Machine} {k:Nat} {t:Timer} {a b:Nat}:m.world.drawn≤(retime m k t a b).2.world.drawn:=by
  unfold retime drain
  simp only
  repeat' split
  all_goals first|exact Nat.le_refl _|skip
theorem qnk {m m':Machine} {a:Addr} (h:timerOp.opened m a=some m'):m'.world.drawn=m.world.drawn:=by
  unfold timerOp.opened at h
  split at h
  · split at h
    · cases h;rfl
    · cases h
  · cases h;rfl
theorem qid {m m':Machine} {a:Addr} {v:Value} {f:Nat→Timer→Value × Machine} {n:Nat} (hf:∀ k t,n≤(f k t).2.world.drawn) (h:timerOp.named m a f=.ok (v,m')):n≤m'.world.drawn:=by
  unfold timerOp.named at h
  split at h
  · rename_i k _
    cases hk:f k (m.rest.timers.getD k default) with
    | mk a b =>
      rw[hk] at h
      cases h
      have:=hf k (m.rest.timers.getD k default)
      rw[hk] at this
      exact this
  · cases h
theorem qkf {m m':Machine} {op:TimerOp} {v:Value} (h:timerOp m op=.ok (v,m')):m.world.drawn≤m'.world.drawn:=by
  unfold timerOp at h
  split at h
  · split at h
    · cases h;exact Nat.le_refl _
    · split at h
      · split at h
        · cases h
        · cases h;exact Nat.le_refl _
      · cases h
  · exact qid (fun k t=>qdz) h
  · split at h
    · rename_i m1 e
      exact qid (fun k t=>by rw[← qnk e];exact qdz) h
    · cases h
  · cases h;exact Nat.le_refl _
theorem qeo {p:Program} {m:Machine} {i:Nat} {l:Bool}:sDr m.world (Go.runT p m i l).1:=by
  unfold Go.runT
  simp only
  generalize hs:stepG p (i==0) (m.gs.swapAt! i { (default:Goroutine) with status:=.finished }).1 m.world l=s
  have h:=qqj (p:=p) (main:=i==0) (l:=l) (g:=(m.gs.swapAt! i { (default:Goroutine) with status:=.finished }).1) (w:=m.world)
  rw[hs] at h
  clear hs
  cases s with
  | ended o w es=>exact trivial
  | comm g cases b sh w es=>exact WY h qye
  | go g w es=>exact h
  | spawn g c w es=>exact h
  | count g w es =>
    simp only
    split
    · exact trivial
    · exact h
  | alone g b w es=>exact h
  | collect g w es=>exact WY h qpj
  | watch g w es=>exact h
  | newcoro g c d w es=>exact h
  | coroswitch g c b w es =>
    simp only
    repeat' split
    all_goals first|exact trivial|exact h|(rename_i e;have e2:gDr w _:=Qs (fr:=g.frame) (m:= "coroswitch on exited coro") (w:=w);rw[e] at e2;exact Nat.le_trans h e2)|skip
  | timer g op w es =>
    simp only
    repeat' split
    all_goals first|exact trivial|(rename_i e;have e2:=qkf e;exact Nat.le_trans h e2)|(rename_i msg _ _ _ _ _ e;have e2:=Qs (fr:=g.frame) (m:=msg) (w:=w);rw[e] at e2;exact Nat.le_trans h e2)|skip
def mDr (w:World):Move→Prop
  | .goroutine m _=>w.drawn≤m.world.drawn
  | .machine s _=>sDr w s
theorem qth {w w':World} {x:Move} (h:w.drawn≤w'.drawn) (hs:mDr w' x):mDr w x:=by cases x <;> first|exact Nat.le_trans h hs|exact WY h hs
theorem qcf {p:Program} {m:Machine}:mDr m.world (askOn p m):=by
  unfold askOn
  simp only
  have pick:∀ (m1:Machine) (rs:List Nat),m.world.drawn≤m1.world.drawn→mDr m.world (match (choose (.sched rs.length)).run p m1.world with
      | .halt _ w=>.machine (.ended (.stuck "sched" "") w)
      | .ok k world =>
        if rs.length≤1 then .goroutine { m1 with world } (rs.getD k 0) else
        match (choose (.extern "sched.slice" 65536)).run p world with
        | .halt _ w=>.machine (.ended (.stuck "sched.slice" "") w)
        | .ok n world=>.goroutine { m1 with world,rest:={ m1.rest with slice:=if n=0 then none else some (rs.getD k 0,n) } } (rs.getD k 0)):=by
    intro m1 rs h
    split
    · exact trivial
    · rename_i e
      have e:=Qj e
      split
      · exact Nat.le_trans h e
      · split
        · exact trivial
        · rename_i e2
          have e2:=Qj e2
          exact Nat.le_trans h (Nat.le_trans e e2)
  split
  · exact trivial
  · rename_i k w1 e
    have e:=Qj e
    split
    · exact WY e (qs4 (m:={ m with world:=w1 }))
    · split
      · split
        · exact e
        · split
          · exact e
          · split <;> first|exact trivial|skip
            all_goals exact trivial
      · split
        · exact pick { m with world:=w1 } _ e
        · split
          · exact trivial
          · rename_i e2
            have e2:=Qj e2
            exact pick { m with world:=_ } _ (Nat.le_trans e e2)
          · rename_i e2
            have e2:=Qj e2
            exact Nat.le_trans e e2
          · rename_i e2
            have e2:=Qj e2
            exact pick (Machine.advanceTo { m with world:=_ } _) _ (Nat.le_trans e e2)
theorem qjb {p:Program} {m:Machine}:mDr m.world (ask p m):=by
  unfold ask
  split
  · split
    · exact trivial
    · rename_i e
      have e:=Qj e
      have hl:=qpj (p:=p) (gs:=m.gs) (rest:=m.rest) (w:=_) |> WY e
      split
      · rename_i m1 e2
        rw[e2] at hl
        exact qth hl qcf
      · exact hl
    · rename_i e
      have e:=Qj e
      exact qth e qcf
  · exact qcf
theorem qxf {p:Program} {m:Machine}:mDr m.world (move p m):=by
  unfold move
  split
  · split
    · exact Nat.le_refl _
    · exact trivial
  · split
    · split
      · exact Nat.le_refl _
      · exact qjb (m:={ m with rest:={ m.rest with slice:=none } })
    · exact qjb
theorem qyl {p:Program} {m m':Machine} (h:step p m=.next m'):m.world.drawn≤m'.world.drawn:=by
  have key:sDr m.world (step p m):=by
    unfold step stepT
    have hm:=qxf (p:=p) (m:=m)
    generalize move p m=x at hm
    cases x with
    | goroutine m1 i=>exact WY hm qeo
    | machine s ops=>exact hm
  rw[h] at key
  exact key
theorem qil {I:Machine→Prop} {p:Program} {m m':Machine} (h:StepsIn I p m m'):m.world.drawn≤m'.world.drawn:=by
  induction h with
  | refl=>exact Nat.le_refl _
  | head _ h _ ih=>exact Nat.le_trans (qyl h) ih
theorem qrb {F:Fence} {n:Nat} {P:Program} {f:FuncId} {args:Array Value} {w:World} {R:Ending→World→Prop} (h:CallsIn F n P f args w R) (ho:∀ w',¬ R .outgrown w'):CallsIn F n P f args w fun e w'=>R e w'∧w.drawn≤w'.drawn:=by
  refine⟨h.1,fun cs hr=>?_⟩
  obtain⟨e,w',fr,h1,h2,h3,h4⟩:=h.2 cs hr
  refine⟨e,w',fr,⟨h1,?_⟩,h2,h3,h4⟩
  cases e with
  | returned v=>exact qil h2
  | panicked c=>exact qil h2
  | outgrown=>exact absurd h1 (ho w')
end Go.AX
