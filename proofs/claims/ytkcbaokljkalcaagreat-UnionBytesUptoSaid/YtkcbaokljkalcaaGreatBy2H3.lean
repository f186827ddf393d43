import Derived.Test.YtkcbaokljkalcaaGreatBy2H1
import Derived.Test.YtkcbaokljkalcaaGreatBy2C2
set_option linter.unusedVariables false
set_option linter.unusedSimpArgs false
set_option linter.defProp false
namespace Go.AX
open Go.Proofs Go.RowKit
set_option maxRecDepth 1000000
set_option maxHeartbeats 40000000
set_option linter.unusedSimpArgs false
set_option linter.unusedVariables false
def upE (p:List Nat):List Nat:=p.take (Z8 p)
theorem qcg {s:St} (H:Ok TE Tryz.prog pr3) {p:List Nat} (hp:p.length≤1000000) {kr kp:AV→St→Bool} (hk:kr (.str (upE p)) s=true) :
  (sem Tryz.prog).call 143 [.str p] s kr kp=true:=by
 refine qp H 8 q4l rfl rfl ?_
 have sl2:qF TE 9 (.str p) none (some (.raw (.int .i64 (Z8 p:Int)))) none=some (.str (p.take (Z8 p))):=by
  rw[Ym,Xz zC qbx]
  simp
 repeat (first|with_reducible (refine q9 H ?_;constructor)|simp only[rB,rP,rQ,q8,qa,q7,qb,reduceIte,reduceCtorEq,Nat.reduceAdd,Nat.reduceLT,Nat.reduceEqDiff,UInt8.reduceToNat,pe3,pf3])
 refine qhz H (b:=p) (c:=47) hp ?_
 repeat (first|with_reducible (refine q9 H ?_;constructor)|simp only[rB,rP,rQ,q8,qa,q7,qb,reduceIte,reduceCtorEq,Nat.reduceAdd,Nat.reduceLT,Nat.reduceEqDiff,UInt8.reduceToNat,pe3,pf3,JR,sl2,Tryz.results143])
 exact hk
theorem qy7 {s:St} (H:Ok TE Tryz.prog pr3) {p q:List Nat} {kr kp:AV→St→Bool} (hk:kr (.raw (.bool (hpB p q))) s=true):(sem Tryz.prog).call 156 [.str p,.str q] s kr kp=true:=by
 refine qp H 8 q0m rfl rfl ?_
 repeat (first|with_reducible (refine q9 H ?_;constructor)|simp only[rB,rP,rQ,q8,qa,q7,qb,reduceIte,reduceCtorEq,Nat.reduceAdd,Nat.reduceLT,Nat.reduceEqDiff,UInt8.reduceToNat,pe3,pf3])
 refine q85 H ?_
 repeat (first|with_reducible (refine q9 H ?_;constructor)|simp only[rB,rP,rQ,q8,qa,q7,qb,reduceIte,reduceCtorEq,Nat.reduceAdd,Nat.reduceLT,Nat.reduceEqDiff,UInt8.reduceToNat,pe3,pf3,Tryz.results156])
 exact hk
def Ke (p q:List Nat):Bool:=bif eqB q [] then true else bif eqB p q then true else hpB p (q++[47])
theorem qi8 {s:St} (H:Ok TE Tryz.prog pr3) {p q:List Nat} (hq:q.length≤1000000) {kr kp:AV→St→Bool} (hk:kr (.raw (.bool (Ke p q))) s=true) :
  (sem Tryz.prog).call 181 [.str p,.str q] s kr kp=true:=by
 refine qp H 18 q1g rfl rfl ?_
 have f1:qE .add (.str q) (.str [47])=some (.str (q++[47])):=JJ (by simp;omega)
 unfold Ke at hk
 cases h1:eqB q [] with
 | true =>
  rw[h1] at hk
  repeat (first|with_reducible (refine q9 H ?_;constructor)|simp only[rB,rP,rQ,q8,qa,q7,qb,reduceIte,reduceCtorEq,Nat.reduceAdd,Nat.reduceLT,Nat.reduceEqDiff,UInt8.reduceToNat,pe3,pf3,zz,h1,Tryz.results181])
  exact hk
 | false =>
  rw[h1] at hk
  cases h2:eqB p q with
  | true =>
   rw[h2] at hk
   repeat (first|with_reducible (refine q9 H ?_;constructor)|simp only[rB,rP,rQ,q8,qa,q7,qb,reduceIte,reduceCtorEq,Nat.reduceAdd,Nat.reduceLT,Nat.reduceEqDiff,UInt8.reduceToNat,pe3,pf3,zz,h1,h2,Tryz.results181])
   exact hk
  | false =>
   rw[h2] at hk
   repeat (first|with_reducible (refine q9 H ?_;constructor)|simp only[rB,rP,rQ,q8,qa,q7,qb,reduceIte,reduceCtorEq,Nat.reduceAdd,Nat.reduceLT,Nat.reduceEqDiff,UInt8.reduceToNat,pe3,pf3,zz,h1,h2,f1])
   refine qy7 H ?_
   repeat (first|with_reducible (refine q9 H ?_;constructor)|simp only[rB,rP,rQ,q8,qa,q7,qb,reduceIte,reduceCtorEq,Nat.reduceAdd,Nat.reduceLT,Nat.reduceEqDiff,UInt8.reduceToNat,pe3,pf3,Tryz.results181])
   exact hk
def Vt (k:Int):Bool:=bif decide (k ≥ 1) then decide (k≤5) else false
theorem qxa {s:St} (H:Ok TE Tryz.prog pr3) {k:Int} {kr kp:AV→St→Bool} (hk:kr (.raw (.bool (Vt k))) s=true) :
  (sem Tryz.prog).call 165 [.raw (.int .i64 k)] s kr kp=true:=by
 refine qp H 9 q4d rfl rfl ?_
 unfold Vt at hk
 cases h1:decide (k ≥ 1) with
 | true =>
  rw[h1] at hk
  repeat (first|with_reducible (refine q9 H ?_;constructor)|simp only[rB,rP,rQ,q8,qa,q7,qb,reduceIte,reduceCtorEq,Nat.reduceAdd,Nat.reduceLT,Nat.reduceEqDiff,UInt8.reduceToNat,pe3,pf3,Y3,YL,h1,Tryz.results165])
  exact hk
 | false =>
  rw[h1] at hk
  repeat (first|with_reducible (refine q9 H ?_;constructor)|simp only[rB,rP,rQ,q8,qa,q7,qb,reduceIte,reduceCtorEq,Nat.reduceAdd,Nat.reduceLT,Nat.reduceEqDiff,UInt8.reduceToNat,pe3,pf3,Y3,YL,h1,Tryz.results165])
  exact hk
def Jd (e:En):Bool:=bif e.2.1==3 then e.2.2.1==511 else bif e.2.1==4 then e.2.2.1==0 else bif decide (e.2.2.1 ≥ 0) then decide (e.2.2.1≤511) else false
theorem quq {s:St} (H:Ok TE Tryz.prog pr3) (hB:qc s) {e:En} {kr kp:AV→St→Bool} (hk:∀ s',Ext s s'→qc s'→kr (.raw (.bool (Jd e))) s'=true) :
  (sem Tryz.prog).call 167 [agE e] s kr kp=true:=by
 refine qp H 23 q2h rfl rfl ?_
 obtain⟨p,kd,md,d⟩:=e
 have hk:=hk (s.alloc (.cells [.str p,.raw (.int .i64 kd),.raw (.int .i64 md),.str d] 34 0)) (Ext.alloc s _) (qx hB _)
 unfold Jd at hk
 simp only at hk
 unfold agE
 cases h1:kd==3 with
 | true =>
  rw[h1] at hk
  repeat (first|with_reducible (refine q9 H ?_;constructor)|simp only[rB,rP,rQ,q8,qa,q7,qb,reduceIte,reduceCtorEq,Nat.reduceAdd,Nat.reduceLT,Nat.reduceEqDiff,UInt8.reduceToNat,pe3,pf3,qf,qg,qh,qi,qj,qD,qK,qr,h1,Tryz.results167])
  exact hk
 | false =>
  rw[h1] at hk
  cases h2:kd==4 with
  | true =>
   rw[h2] at hk
   repeat (first|with_reducible (refine q9 H ?_;constructor)|simp only[rB,rP,rQ,q8,qa,q7,qb,reduceIte,reduceCtorEq,Nat.reduceAdd,Nat.reduceLT,Nat.reduceEqDiff,UInt8.reduceToNat,pe3,pf3,qf,qg,qh,qi,qj,qD,qK,qr,h1,h2,Tryz.results167])
   exact hk
  | false =>
   rw[h2] at hk
   cases h3:decide (md ≥ 0) with
   | true =>
    rw[h3] at hk
    repeat (first|with_reducible (refine q9 H ?_;constructor)|simp only[rB,rP,rQ,q8,qa,q7,qb,reduceIte,reduceCtorEq,Nat.reduceAdd,Nat.reduceLT,Nat.reduceEqDiff,UInt8.reduceToNat,pe3,pf3,qf,qg,qh,qi,qj,qD,qK,qr,Y3,YL,h1,h2,h3,Tryz.results167])
    exact hk
   | false =>
    rw[h3] at hk
    repeat (first|with_reducible (refine q9 H ?_;constructor)|simp only[rB,rP,rQ,q8,qa,q7,qb,reduceIte,reduceCtorEq,Nat.reduceAdd,Nat.reduceLT,Nat.reduceEqDiff,UInt8.reduceToNat,pe3,pf3,qf,qg,qh,qi,qj,qD,qK,qr,Y3,YL,h1,h2,h3,Tryz.results167])
    exact hk
def Yh (k n:Int):Bool:=bif k==2 then decide (n≤1024) else bif k==3 then (bif decide (n ≥ 1) then decide (n≤64) else false) else n==0
theorem qq9 {s:St} (H:Ok TE Tryz.prog pr3) {k n:Int} {kr kp:AV→St→Bool} (hk:kr (.raw (.bool (Yh k n))) s=true) :
  (sem Tryz.prog).call 168 [.raw (.int .i64 k),.raw (.int .i64 n)] s kr kp=true:=by
 refine qp H 20 q1y rfl rfl ?_
 unfold Yh at hk
 cases h1:k==2 with
 | true =>
  rw[h1] at hk
  repeat (first|with_reducible (refine q9 H ?_;constructor)|simp only[rB,rP,rQ,q8,qa,q7,qb,reduceIte,reduceCtorEq,Nat.reduceAdd,Nat.reduceLT,Nat.reduceEqDiff,UInt8.reduceToNat,pe3,pf3,qr,YL,h1,Tryz.results168])
  exact hk
 | false =>
  rw[h1] at hk
  cases h2:k==3 with
  | true =>
   rw[h2] at hk
   cases h3:decide (n ≥ 1) with
   | true =>
    rw[h3] at hk
    repeat (first|with_reducible (refine q9 H ?_;constructor)|simp only[rB,rP,rQ,q8,qa,q7,qb,reduceIte,reduceCtorEq,Nat.reduceAdd,Nat.reduceLT,Nat.reduceEqDiff,UInt8.reduceToNat,pe3,pf3,qr,Y3,YL,h1,h2,h3,Tryz.results168])
    exact hk
   | false =>
    rw[h3] at hk
    repeat (first|with_reducible (refine q9 H ?_;constructor)|simp only[rB,rP,rQ,q8,qa,q7,qb,reduceIte,reduceCtorEq,Nat.reduceAdd,Nat.reduceLT,Nat.reduceEqDiff,UInt8.reduceToNat,pe3,pf3,qr,Y3,YL,h1,h2,h3,Tryz.results168])
    exact hk
  | false =>
   rw[h2] at hk
   repeat (first|with_reducible (refine q9 H ?_;constructor)|simp only[rB,rP,rQ,q8,qa,q7,qb,reduceIte,reduceCtorEq,Nat.reduceAdd,Nat.reduceLT,Nat.reduceEqDiff,UInt8.reduceToNat,pe3,pf3,qr,Y3,YL,h1,h2,Tryz.results168])
   exact hk
set_option maxHeartbeats 400000000
def qp4:AV→Prop
 | .slice _ _ n _ cap _=>n≤cap
 | _=>True
theorem q3y {id off len ci cap:Nat} {ex:Bool} {j:Nat} (h:j≤cap):qF TE 29 (.slice id off len ci cap ex) none (some (.raw (.int .i64 (j:Int)))) none=some (.slice id off j ci cap ex):=by
 have e:qF TE 29 (.slice id off len ci cap ex) none (some (.raw (.int .i64 (j:Int)))) none=(match (some elE:Option TI),qA len cap none (some (.raw (.int .i64 (j:Int)))) with
   | some el,some (l,h) =>
    bif Nat.blt l cap||Nat.beq l 0 then some (.slice id (off+l * el.size) (h - l) (ci+l) (cap - l) ex)
    else bif ex then some (.slice id off 0 ci 0 true)
    else some (.esl id off ci l el.size)
   | _,_=>none):=by kernel_rfl
 rw[e,Xz (i:=j) zC h]
 simp
theorem EsV.upto {s:St} {V:AV} {es:List En} (h:EsV s V es) (hc:qp4 V) {k:Nat} (hk:k < es.length):∃ V',qF TE 29 V none (some (.raw (.int .i64 (k:Int)))) none=some V'∧EsV s V' (es.take k):=by
 rcases h with⟨⟨a,c,rfl⟩,rfl⟩|⟨id,off,ci,l,z,rfl,rfl⟩|⟨id,off,ci,cap,ex,cs,ob,rfl,hg,ho,hbq,hc'⟩
 ·simp at hk
 ·simp at hk
 ·refine⟨_,q3y (Nat.le_trans (Nat.le_of_lt hk) hc),Or.inr (Or.inr ⟨id,off,ci,cap,ex,cs,ob,?_,hg,ho,hbq,fun j e hj=>?_⟩)⟩
  ·rw[List.length_take,Nat.min_eq_left (Nat.le_of_lt hk)]
  ·refine hc' j e ?_
   rw[List.getElem?_take] at hj
   by_cases h:j < k
   ·rw[if_pos h] at hj;exact hj
   ·rw[if_neg h] at hj;cases hj
def qf3 (e a:En):Bool:=bif a.2.1 != 1 then (bif a.2.1 != 5 then Ke e.1 a.1 else false) else false
def qn4 (e:En) (pre:List En):Bool:=match pre[pre.length - 1]? with|none=>false|some a=>decide (YF a.1 e.1 ≥ 0)
def QP (e:En) (pre:List En):Int:=match Qf [] (47::e.1) with
 | (q,c)=>bif Nat.beq c 0 then (bif eqB e.1 [] then 1303 else bif eqB q e.1 then (bif qn4 e pre then 1304 else bif pre.any (qf3 e) then 1305 else 0) else 1303) else 1303
theorem qql {s:St} (H:Ok TE Tryz.prog pr3) (hB:qc s) {V:AV} {e:En} {pre:List En} (hV:EsV s V pre) (hp:e.1.length≤1048575) (hpre:∀ a∈pre,a.1.length≤140) (hlen:pre.length≤1000000) {kr kp:AV→St→Bool} (hk:∀ s',Ext s s'→qc s'→kr (.raw (.int .i64 (QP e pre))) s'=true) :
  (sem Tryz.prog).call 166 [agE e,V] s kr kp=true:=by
 refine qp H 73 q3d rfl rfl ?_
 have hB1:qc (s.alloc (.cells (celE e) 34 0)):=qx hB _
 have hE1:Ext s (s.alloc (.cells (celE e) 34 0)):=Ext.alloc s _
 have hV1:=hV.ext hB hE1
 have c1:(s.alloc (.cells (celE e) 34 0)).h.get s.nx=some (.cells (celE e) 34 0):=qu
 have hag:agE e=.agg (celE e):=rfl
 have hnx:(s.alloc (.cells (celE e) 34 0)).nx=s.nx+1:=rfl
 unfold QP at hk
 rw[hag]
 have f1:qE .add (.str [47]) (.str e.1)=some (.str (47::e.1)):=JJ (by simp;omega)
 have ec:=fun {r a dst s k kp}=>qbj (r:=r) (a:=a) (dst:=dst) (s:=s) (k:=k) (kp:=kp) (x:=[]) (y:=47::e.1) (by simp) rfl rfl
 have hle:=X6 (x:=[]) (y:=47::e.1)
 generalize Qf [] (47::e.1)=x at ec hk hle
 obtain⟨q,c⟩:=x
 simp only at hk hle
 have vl:=hV.len
 have vi:=hV.ids
 repeat (first|with_reducible (refine q9 H ?_;constructor)|simp only[rB,rP,rQ,q8,qa,q7,qb,reduceIte,reduceCtorEq,Nat.reduceAdd,Nat.reduceLT,Nat.reduceEqDiff,UInt8.reduceToNat,pe3,pf3,qf])
 generalize hS:s.alloc (.cells (celE e) 34 0)=s1 at *
 by_cases hc:c=0
 ·subst hc
  have g0:(((0:Nat):Int) != 0)=false:=rfl
  rw[show Nat.beq 0 0=true from rfl,cond_true] at hk
  cases h1:eqB e.1 [] with
  | true =>
   rw[h1] at hk
   repeat (first|with_reducible (refine q9 H ?_;constructor)|simp only[rB,rP,rQ,q8,qa,q7,qb,reduceIte,reduceCtorEq,Nat.reduceAdd,Nat.reduceLT,Nat.reduceEqDiff,UInt8.reduceToNat,pe3,pf3,c1,qg,qh,qi,qj,qD,qK,zm,ze,f1,ec,VX,qH,g0,zz,h1,Tryz.results166])
   exact hk s1 hE1 hB1
  | false =>
   rw[h1] at hk
   cases h2:eqB q e.1 with
   | false =>
    rw[h2] at hk
    repeat (first|with_reducible (refine q9 H ?_;constructor)|simp only[rB,rP,rQ,q8,qa,q7,qb,reduceIte,reduceCtorEq,Nat.reduceAdd,Nat.reduceLT,Nat.reduceEqDiff,UInt8.reduceToNat,pe3,pf3,c1,qg,qh,qi,qj,qD,qK,zm,ze,f1,ec,VX,qH,g0,zz,Z7,h1,h2,Bool.not_false,Tryz.results166])
    exact hk s1 hE1 hB1
   | true =>
    rw[h2,cond_false,cond_true] at hk
    have hq:q=e.1:=by rw[qG] at h2;exact of_decide_eq_true h2
    have h140:e.1.length≤140:=hq ▸ hle
    have ew:IntKind.i64.wrap ((pre.length:Int) - 1)=(pre.length:Int) - 1:=Go.IntWalk.i64_in _ (by omega)
    by_cases hz:pre=[]
    ·have g1:decide ((pre.length:Int) > 0)=false:=by rw[hz];rfl
     have e0:qn4 e pre=false:=by rw[hz];rfl
     rw[e0,cond_false] at hk
     repeat (first|with_reducible (refine q9 H ?_;constructor)|simp only[rB,rP,rQ,q8,qa,q7,qb,reduceIte,reduceCtorEq,Nat.reduceAdd,Nat.reduceLT,Nat.reduceEqDiff,UInt8.reduceToNat,pe3,pf3,c1,qg,qh,qi,qj,qD,qK,zm,ze,f1,ec,VX,qH,g0,zz,Z7,h1,h2,Bool.not_true,vl,vi,zD,g1,zf,ew]|(with_reducible refine qy H (i:=4) (.take 0 (.take 1 (.take 2 (.take 3 (.take 4 (.take 5 (.take 6 (.take 7 (.take 8 (.take 9 (.take 10 (.take 11 (.take 12 (.alt 13 [0,1,2,3,4,5,6,7,8,9,10,11,12] (.take 14 (.take 15 (.take 16 (.done)))) (.yes))))))))))))))) rfl (by kernel_rfl) ?_))
     refine qB H (fun n t s'=>n≤pre.length∧tg t 1=V∧tg t 2=.ptr s.nx 0∧tg t 7=.raw (.int .i64 ((n:Int) - 1))∧Ext s s'∧qc s'∧s'.h.get s.nx=some (.cells (celE e) 34 0)∧pre.any (qf3 e)=(pre.take n).any (qf3 e)) (n:=pre.length)
      ⟨Nat.le_refl _,by simp only[rB,rP,rQ,q8,qa,q7,qb,reduceIte,reduceCtorEq,Nat.reduceAdd,Nat.reduceLT,Nat.reduceEqDiff,UInt8.reduceToNat],by simp only[rB,rP,rQ,q8,qa,q7,qb,reduceIte,reduceCtorEq,Nat.reduceAdd,Nat.reduceLT,Nat.reduceEqDiff,UInt8.reduceToNat],by simp only[rB,rP,rQ,q8,qa,q7,qb,reduceIte,reduceCtorEq,Nat.reduceAdd,Nat.reduceLT,Nat.reduceEqDiff,UInt8.reduceToNat,ew],‹_›,‹_›,‹_›,by rw[List.take_length]⟩ ?_
     rintro n t s' ih ⟨hn,t1,t2,t7,hE,hB',hc1,hany⟩
     cases n with
     | zero =>
      have g3:decide (((0:Nat):Int) - 1 ≥ 0)=false:=rfl
      repeat (first|with_reducible (refine q9 H ?_;constructor)|simp only[rB,rP,rQ,q8,qa,q7,qb,reduceIte,reduceCtorEq,Nat.reduceAdd,Nat.reduceLT,Nat.reduceEqDiff,UInt8.reduceToNat,pe3,pf3,qg,qh,qi,qj,Q6,qD,qK,zm,zR,ze,zo,t1,t2,t7,Y3,g3,Tryz.results166])
      have:=hk s' hE hB'
      rw[hany] at this
      exact this
     | succ n =>
      have e1:((n+1:Nat):Int) - 1=(n:Int):=by omega
      rw[e1] at t7
      have g3:decide ((n:Int) ≥ 0)=true:=by rw[decide_eq_true_eq];omega
      have hV':=hV.ext hB hE
      have hlt:n < pre.length:=by omega
      have hke:pre[n]?=some pre[n]:=List.getElem?_eq_getElem hlt
      have hmem:pre[n]∈pre:=List.getElem_mem hlt
      rw[List.take_add_one,hke] at hany
      generalize pre[n]=a at hke hmem hany
      simp only[Option.toList_some,List.any_append,List.any_cons,List.any_nil,Bool.or_false] at hany
      obtain⟨id,o,y1,y2,y3,y4,-⟩:=hV'.idx hke
      have e2:IntKind.i64.wrap ((n:Int) - 1)=(n:Int) - 1:=Go.IntWalk.i64_in _ (by omega)
      have hB3:qc { h:=(s'.alloc (.cells [.str [],.raw (.int .i64 0),.raw (.int .i64 0),.str []] 34 0)).h.set s'.nx (.cells (celE a) 34 0),nx:=s'.nx+1 }:=zy hB'
      have hE3:Ext s' { h:=(s'.alloc (.cells [.str [],.raw (.int .i64 0),.raw (.int .i64 0),.str []] 34 0)).h.set s'.nx (.cells (celE a) 34 0),nx:=s'.nx+1 }:=Q7
      have c3:({ h:=(s'.alloc (.cells [.str [],.raw (.int .i64 0),.raw (.int .i64 0),.str []] 34 0)).h.set s'.nx (.cells (celE a) 34 0),nx:=s'.nx+1 }:St).h.get s'.nx=some (.cells (celE a) 34 0):=hs_same
      have c4:=(hE3.2 _ (hB' _ _ hc1)).trans hc1
      repeat (first|with_reducible (refine q9 H ?_;constructor)|simp only[rB,rP,rQ,q8,qa,q7,qb,reduceIte,reduceCtorEq,Nat.reduceAdd,Nat.reduceLT,Nat.reduceEqDiff,UInt8.reduceToNat,pe3,pf3,qg,qh,qi,qj,Q6,qD,qK,zm,zR,ze,zo,t1,t2,t7,Y3,g3,y1,y2,y3,y4,YK,VN,YI,QM,Qe])
      generalize ({ h:=(s'.alloc (.cells [.str [],.raw (.int .i64 0),.raw (.int .i64 0),.str []] 34 0)).h.set s'.nx (.cells (celE a) 34 0),nx:=s'.nx+1 }:St)=s3 at *
      have hn0:qf3 e a=(bif a.2.1 != 1 then (bif a.2.1 != 5 then Ke e.1 a.1 else false) else false):=rfl
      have fin:∀ b,qf3 e a=b→(b=false→pre.any (qf3 e)=(pre.take n).any (qf3 e))∧(b=true→pre.any (qf3 e)=true):=by
       intro b hb
       rw[hany,hb]
       cases b <;> simp
      cases k1:a.2.1 != 1 with
      | false =>
       rw[k1] at hn0
       have hf:=(fin _ hn0).1 rfl
       repeat (first|with_reducible (refine q9 H ?_;constructor)|simp only[rB,rP,rQ,q8,qa,q7,qb,reduceIte,reduceCtorEq,Nat.reduceAdd,Nat.reduceLT,Nat.reduceEqDiff,UInt8.reduceToNat,pe3,pf3,qg,qh,qi,qj,Q6,qD,qK,zm,zR,ze,zo,t1,t2,t7,c3,c4,qH,k1,zf,e2])
       exact ih n _ _ (Nat.lt_succ_self n) ⟨by omega,by simp only[rB,rP,rQ,q8,qa,q7,qb,reduceIte,reduceCtorEq,Nat.reduceAdd,Nat.reduceLT,Nat.reduceEqDiff,UInt8.reduceToNat,t1],by simp only[rB,rP,rQ,q8,qa,q7,qb,reduceIte,reduceCtorEq,Nat.reduceAdd,Nat.reduceLT,Nat.reduceEqDiff,UInt8.reduceToNat,t2],by simp only[rB,rP,rQ,q8,qa,q7,qb,reduceIte,reduceCtorEq,Nat.reduceAdd,Nat.reduceLT,Nat.reduceEqDiff,UInt8.reduceToNat],hE.trans hE3,hB3,c4,hf⟩
      | true =>
       rw[k1,cond_true] at hn0
       cases k2:a.2.1 != 5 with
       | false =>
        rw[k2] at hn0
        have hf:=(fin _ hn0).1 rfl
        repeat (first|with_reducible (refine q9 H ?_;constructor)|simp only[rB,rP,rQ,q8,qa,q7,qb,reduceIte,reduceCtorEq,Nat.reduceAdd,Nat.reduceLT,Nat.reduceEqDiff,UInt8.reduceToNat,pe3,pf3,qg,qh,qi,qj,Q6,qD,qK,zm,zR,ze,zo,t1,t2,t7,c3,c4,qH,k1,k2,zf,e2])
        exact ih n _ _ (Nat.lt_succ_self n) ⟨by omega,by simp only[rB,rP,rQ,q8,qa,q7,qb,reduceIte,reduceCtorEq,Nat.reduceAdd,Nat.reduceLT,Nat.reduceEqDiff,UInt8.reduceToNat,t1],by simp only[rB,rP,rQ,q8,qa,q7,qb,reduceIte,reduceCtorEq,Nat.reduceAdd,Nat.reduceLT,Nat.reduceEqDiff,UInt8.reduceToNat,t2],by simp only[rB,rP,rQ,q8,qa,q7,qb,reduceIte,reduceCtorEq,Nat.reduceAdd,Nat.reduceLT,Nat.reduceEqDiff,UInt8.reduceToNat],hE.trans hE3,hB3,c4,hf⟩
       | true =>
        rw[k2,cond_true] at hn0
        repeat (first|with_reducible (refine q9 H ?_;constructor)|simp only[rB,rP,rQ,q8,qa,q7,qb,reduceIte,reduceCtorEq,Nat.reduceAdd,Nat.reduceLT,Nat.reduceEqDiff,UInt8.reduceToNat,pe3,pf3,qg,qh,qi,qj,Q6,qD,qK,zm,zR,ze,zo,t1,t2,t7,c3,c4,qH,k1,k2])
        refine qi8 H (by have:=hpre a hmem;omega) ?_
        cases k3:Ke e.1 a.1 with
        | false =>
         rw[k3] at hn0
         have hf:=(fin _ hn0).1 rfl
         repeat (first|with_reducible (refine q9 H ?_;constructor)|simp only[rB,rP,rQ,q8,qa,q7,qb,reduceIte,reduceCtorEq,Nat.reduceAdd,Nat.reduceLT,Nat.reduceEqDiff,UInt8.reduceToNat,pe3,pf3,qg,qh,qi,qj,Q6,qD,qK,zm,zR,ze,zo,t1,t2,t7,c3,c4,qH,k1,k2,k3,zf,e2])
         exact ih n _ _ (Nat.lt_succ_self n) ⟨by omega,by simp only[rB,rP,rQ,q8,qa,q7,qb,reduceIte,reduceCtorEq,Nat.reduceAdd,Nat.reduceLT,Nat.reduceEqDiff,UInt8.reduceToNat,t1],by simp only[rB,rP,rQ,q8,qa,q7,qb,reduceIte,reduceCtorEq,Nat.reduceAdd,Nat.reduceLT,Nat.reduceEqDiff,UInt8.reduceToNat,t2],by simp only[rB,rP,rQ,q8,qa,q7,qb,reduceIte,reduceCtorEq,Nat.reduceAdd,Nat.reduceLT,Nat.reduceEqDiff,UInt8.reduceToNat],hE.trans hE3,hB3,c4,hf⟩
        | true =>
         rw[k3] at hn0
         have hf:=(fin _ hn0).2 rfl
         rw[hf] at hk
         repeat (first|with_reducible (refine q9 H ?_;constructor)|simp only[rB,rP,rQ,q8,qa,q7,qb,reduceIte,reduceCtorEq,Nat.reduceAdd,Nat.reduceLT,Nat.reduceEqDiff,UInt8.reduceToNat,pe3,pf3,qg,qh,qi,qj,Q6,qD,qK,zm,zR,ze,zo,t1,t2,t7,c3,c4,qH,k1,k2,k3,Tryz.results166])
         exact hk s3 (hE.trans hE3) hB3
    ·obtain⟨n,hn⟩:∃ n,pre.length=n+1:=⟨pre.length - 1,by have:=List.length_pos_iff.mpr hz;omega⟩
     have g1:decide ((pre.length:Int) > 0)=true:=by rw[decide_eq_true_eq];omega
     have ew:IntKind.i64.wrap ((pre.length:Int) - 1)=((n:Nat):Int):=by rw[ew];omega
     have en:((n:Nat):Int)=(pre.length:Int) - 1:=by omega
     have hka:pre[n]?=some pre[n]:=List.getElem?_eq_getElem (by omega)
     have hka':pre[pre.length - 1]?=some pre[n]:=by rw[show pre.length - 1=n from by omega];exact hka
     have hma:pre[n].1.length≤140:=hpre _ (List.getElem_mem _)
     unfold qn4 at hk
     rw[hka'] at hk
     generalize pre[n]=a at hka hma hk
     simp only at hk
     obtain⟨id,o,y1,y2,y3,y4,-⟩:=hV1.idx hka
     have pa:=ZN (b:=a.1)
     have pb:=ZN (b:=e.1)
     repeat (first|with_reducible (refine q9 H ?_;constructor)|simp only[rB,rP,rQ,q8,qa,q7,qb,reduceIte,reduceCtorEq,Nat.reduceAdd,Nat.reduceLT,Nat.reduceEqDiff,UInt8.reduceToNat,pe3,pf3,c1,qg,qh,qi,qj,Q6,qD,qK,zm,ze,f1,ec,VX,qH,g0,zz,Z7,h1,h2,Bool.not_true,vl,vi,zD,g1,zf,ew,y1,y3,y4,qN]|(with_reducible refine qy H (i:=4) (.take 0 (.take 1 (.take 2 (.take 3 (.take 4 (.take 5 (.take 6 (.take 7 (.take 8 (.take 9 (.take 10 (.take 11 (.take 12 (.alt 13 [0,1,2,3,4,5,6,7,8,9,10,11,12] (.take 14 (.take 15 (.take 16 (.done)))) (.yes))))))))))))))) rfl (by kernel_rfl) ?_))
     refine KQ H hB1 (by omega) (by omega) (by omega) (by omega) (fun s2 hE2 hB2=>?_)
     have hV2:=hV1.ext hB1 hE2
     have c2:=(hE2.2 _ (hB1 _ _ c1)).trans c1
     have hEs2:=hE1.trans hE2
     cases g4:decide (YF a.1 e.1 ≥ 0) with
     | true =>
      rw[g4,cond_true] at hk
      repeat (first|with_reducible (refine q9 H ?_;constructor)|simp only[rB,rP,rQ,q8,qa,q7,qb,reduceIte,reduceCtorEq,Nat.reduceAdd,Nat.reduceLT,Nat.reduceEqDiff,UInt8.reduceToNat,pe3,pf3,Y3,g4,Tryz.results166])
      exact hk s2 hEs2 hB2
     | false =>
      rw[g4,cond_false] at hk
      repeat (first|with_reducible (refine q9 H ?_;constructor)|simp only[rB,rP,rQ,q8,qa,q7,qb,reduceIte,reduceCtorEq,Nat.reduceAdd,Nat.reduceLT,Nat.reduceEqDiff,UInt8.reduceToNat,pe3,pf3,Y3,g4,vl,vi,zf,ew])
      refine qB H (fun n t s'=>n≤pre.length∧tg t 1=V∧tg t 2=.ptr s.nx 0∧tg t 7=.raw (.int .i64 ((n:Int) - 1))∧Ext s s'∧qc s'∧s'.h.get s.nx=some (.cells (celE e) 34 0)∧pre.any (qf3 e)=(pre.take n).any (qf3 e)) (n:=pre.length)
       ⟨Nat.le_refl _,by simp only[rB,rP,rQ,q8,qa,q7,qb,reduceIte,reduceCtorEq,Nat.reduceAdd,Nat.reduceLT,Nat.reduceEqDiff,UInt8.reduceToNat],by simp only[rB,rP,rQ,q8,qa,q7,qb,reduceIte,reduceCtorEq,Nat.reduceAdd,Nat.reduceLT,Nat.reduceEqDiff,UInt8.reduceToNat],by simp only[rB,rP,rQ,q8,qa,q7,qb,reduceIte,reduceCtorEq,Nat.reduceAdd,Nat.reduceLT,Nat.reduceEqDiff,UInt8.reduceToNat,en],‹_›,‹_›,‹_›,by rw[List.take_length]⟩ ?_
      rintro n t s' ih ⟨hn,t1,t2,t7,hE,hB',hc1,hany⟩
      cases n with
      | zero =>
       have g3:decide (((0:Nat):Int) - 1 ≥ 0)=false:=rfl
       repeat (first|with_reducible (refine q9 H ?_;constructor)|simp only[rB,rP,rQ,q8,qa,q7,qb,reduceIte,reduceCtorEq,Nat.reduceAdd,Nat.reduceLT,Nat.reduceEqDiff,UInt8.reduceToNat,pe3,pf3,qg,qh,qi,qj,Q6,qD,qK,zm,zR,ze,zo,t1,t2,t7,Y3,g3,Tryz.results166])
       have:=hk s' hE hB'
       rw[hany] at this
       exact this
      | succ n =>
       have e1:((n+1:Nat):Int) - 1=(n:Int):=by omega
       rw[e1] at t7
       have g3:decide ((n:Int) ≥ 0)=true:=by rw[decide_eq_true_eq];omega
       have hV':=hV.ext hB hE
       have hlt:n < pre.length:=by omega
       have hke:pre[n]?=some pre[n]:=List.getElem?_eq_getElem hlt
       have hmem:pre[n]∈pre:=List.getElem_mem hlt
       rw[List.take_add_one,hke] at hany
       generalize pre[n]=a at hke hmem hany
       simp only[Option.toList_some,List.any_append,List.any_cons,List.any_nil,Bool.or_false] at hany
       obtain⟨id,o,y1,y2,y3,y4,-⟩:=hV'.idx hke
       have e2:IntKind.i64.wrap ((n:Int) - 1)=(n:Int) - 1:=Go.IntWalk.i64_in _ (by omega)
       have hB3:qc { h:=(s'.alloc (.cells [.str [],.raw (.int .i64 0),.raw (.int .i64 0),.str []] 34 0)).h.set s'.nx (.cells (celE a) 34 0),nx:=s'.nx+1 }:=zy hB'
       have hE3:Ext s' { h:=(s'.alloc (.cells [.str [],.raw (.int .i64 0),.raw (.int .i64 0),.str []] 34 0)).h.set s'.nx (.cells (celE a) 34 0),nx:=s'.nx+1 }:=Q7
       have c3:({ h:=(s'.alloc (.cells [.str [],.raw (.int .i64 0),.raw (.int .i64 0),.str []] 34 0)).h.set s'.nx (.cells (celE a) 34 0),nx:=s'.nx+1 }:St).h.get s'.nx=some (.cells (celE a) 34 0):=hs_same
       have c4:=(hE3.2 _ (hB' _ _ hc1)).trans hc1
       repeat (first|with_reducible (refine q9 H ?_;constructor)|simp only[rB,rP,rQ,q8,qa,q7,qb,reduceIte,reduceCtorEq,Nat.reduceAdd,Nat.reduceLT,Nat.reduceEqDiff,UInt8.reduceToNat,pe3,pf3,qg,qh,qi,qj,Q6,qD,qK,zm,zR,ze,zo,t1,t2,t7,Y3,g3,y1,y2,y3,y4,YK,VN,YI,QM,Qe])
       generalize ({ h:=(s'.alloc (.cells [.str [],.raw (.int .i64 0),.raw (.int .i64 0),.str []] 34 0)).h.set s'.nx (.cells (celE a) 34 0),nx:=s'.nx+1 }:St)=s3 at *
       have hn0:qf3 e a=(bif a.2.1 != 1 then (bif a.2.1 != 5 then Ke e.1 a.1 else false) else false):=rfl
       have fin:∀ b,qf3 e a=b→(b=false→pre.any (qf3 e)=(pre.take n).any (qf3 e))∧(b=true→pre.any (qf3 e)=true):=by
        intro b hb
        rw[hany,hb]
        cases b <;> simp
       cases k1:a.2.1 != 1 with
       | false =>
        rw[k1] at hn0
        have hf:=(fin _ hn0).1 rfl
        repeat (first|with_reducible (refine q9 H ?_;constructor)|simp only[rB,rP,rQ,q8,qa,q7,qb,reduceIte,reduceCtorEq,Nat.reduceAdd,Nat.reduceLT,Nat.reduceEqDiff,UInt8.reduceToNat,pe3,pf3,qg,qh,qi,qj,Q6,qD,qK,zm,zR,ze,zo,t1,t2,t7,c3,c4,qH,k1,zf,e2])
        exact ih n _ _ (Nat.lt_succ_self n) ⟨by omega,by simp only[rB,rP,rQ,q8,qa,q7,qb,reduceIte,reduceCtorEq,Nat.reduceAdd,Nat.reduceLT,Nat.reduceEqDiff,UInt8.reduceToNat,t1],by simp only[rB,rP,rQ,q8,qa,q7,qb,reduceIte,reduceCtorEq,Nat.reduceAdd,Nat.reduceLT,Nat.reduceEqDiff,UInt8.reduceToNat,t2],by simp only[rB,rP,rQ,q8,qa,q7,qb,reduceIte,reduceCtorEq,Nat.reduceAdd,Nat.reduceLT,Nat.reduceEqDiff,UInt8.reduceToNat],hE.trans hE3,hB3,c4,hf⟩
       | true =>
        rw[k1,cond_true] at hn0
        cases k2:a.2.1 != 5 with
        | false =>
         rw[k2] at hn0
         have hf:=(fin _ hn0).1 rfl
         repeat (first|with_reducible (refine q9 H ?_;constructor)|simp only[rB,rP,rQ,q8,qa,q7,qb,reduceIte,reduceCtorEq,Nat.reduceAdd,Nat.reduceLT,Nat.reduceEqDiff,UInt8.reduceToNat,pe3,pf3,qg,qh,qi,qj,Q6,qD,qK,zm,zR,ze,zo,t1,t2,t7,c3,c4,qH,k1,k2,zf,e2])
         exact ih n _ _ (Nat.lt_succ_self n) ⟨by omega,by simp only[rB,rP,rQ,q8,qa,q7,qb,reduceIte,reduceCtorEq,Nat.reduceAdd,Nat.reduceLT,Nat.reduceEqDiff,UInt8.reduceToNat,t1],by simp only[rB,rP,rQ,q8,qa,q7,qb,reduceIte,reduceCtorEq,Nat.reduceAdd,Nat.reduceLT,Nat.reduceEqDiff,UInt8.reduceToNat,t2],by simp only[rB,rP,rQ,q8,qa,q7,qb,reduceIte,reduceCtorEq,Nat.reduceAdd,Nat.reduceLT,Nat.reduceEqDiff,UInt8.reduceToNat],hE.trans hE3,hB3,c4,hf⟩
        | true =>
         rw[k2,cond_true] at hn0
         repeat (first|with_reducible (refine q9 H ?_;constructor)|simp only[rB,rP,rQ,q8,qa,q7,qb,reduceIte,reduceCtorEq,Nat.reduceAdd,Nat.reduceLT,Nat.reduceEqDiff,UInt8.reduceToNat,pe3,pf3,qg,qh,qi,qj,Q6,qD,qK,zm,zR,ze,zo,t1,t2,t7,c3,c4,qH,k1,k2])
         refine qi8 H (by have:=hpre a hmem;omega) ?_
         cases k3:Ke e.1 a.1 with
         | false =>
          rw[k3] at hn0
          have hf:=(fin _ hn0).1 rfl
          repeat (first|with_reducible (refine q9 H ?_;constructor)|simp only[rB,rP,rQ,q8,qa,q7,qb,reduceIte,reduceCtorEq,Nat.reduceAdd,Nat.reduceLT,Nat.reduceEqDiff,UInt8.reduceToNat,pe3,pf3,qg,qh,qi,qj,Q6,qD,qK,zm,zR,ze,zo,t1,t2,t7,c3,c4,qH,k1,k2,k3,zf,e2])
          exact ih n _ _ (Nat.lt_succ_self n) ⟨by omega,by simp only[rB,rP,rQ,q8,qa,q7,qb,reduceIte,reduceCtorEq,Nat.reduceAdd,Nat.reduceLT,Nat.reduceEqDiff,UInt8.reduceToNat,t1],by simp only[rB,rP,rQ,q8,qa,q7,qb,reduceIte,reduceCtorEq,Nat.reduceAdd,Nat.reduceLT,Nat.reduceEqDiff,UInt8.reduceToNat,t2],by simp only[rB,rP,rQ,q8,qa,q7,qb,reduceIte,reduceCtorEq,Nat.reduceAdd,Nat.reduceLT,Nat.reduceEqDiff,UInt8.reduceToNat],hE.trans hE3,hB3,c4,hf⟩
         | true =>
          rw[k3] at hn0
          have hf:=(fin _ hn0).2 rfl
          rw[hf] at hk
          repeat (first|with_reducible (refine q9 H ?_;constructor)|simp only[rB,rP,rQ,q8,qa,q7,qb,reduceIte,reduceCtorEq,Nat.reduceAdd,Nat.reduceLT,Nat.reduceEqDiff,UInt8.reduceToNat,pe3,pf3,qg,qh,qi,qj,Q6,qD,qK,zm,zR,ze,zo,t1,t2,t7,c3,c4,qH,k1,k2,k3,Tryz.results166])
          exact hk s3 (hE.trans hE3) hB3
 ·have g0:((c:Int) != 0)=true:=by simp;omega
  rw[QN hc] at hk
  repeat (first|with_reducible (refine q9 H ?_;constructor)|simp only[rB,rP,rQ,q8,qa,q7,qb,reduceIte,reduceCtorEq,Nat.reduceAdd,Nat.reduceLT,Nat.reduceEqDiff,UInt8.reduceToNat,pe3,pf3,c1,qg,qh,qi,qj,qD,qK,zm,ze,f1,ec,VX,qH,g0,Tryz.results166])
  exact hk s1 hE1 hB1
def Z2 (e:En) (pre:List En):Int:=bif Vt e.2.1 then (bif QP e pre != 0 then QP e pre else bif Jd e then (bif Yh e.2.1 (e.2.2.2.length:Int) then (bif e.2.1==3 then (bif qy1 e.2.2.2 0 then 1308 else 0) else 0) else 1307) else 1306) else 1302
theorem qwl {s:St} (H:Ok TE Tryz.prog pr3) (hB:qc s) {V:AV} {e:En} {pre:List En} (hV:EsV s V pre) (hp:e.1.length≤1048575) (hpre:∀ a∈pre,a.1.length≤140) (hlen:pre.length≤1000000) {kr kp:AV→St→Bool} (hk:∀ s',Ext s s'→qc s'→kr (.raw (.int .i64 (Z2 e pre))) s'=true) :
  (sem Tryz.prog).call 141 [agE e,V] s kr kp=true:=by
 refine qp H 37 q0z rfl rfl ?_
 have hB1:qc (s.alloc (.cells (celE e) 34 0)):=qx hB _
 have hE1:Ext s (s.alloc (.cells (celE e) 34 0)):=Ext.alloc s _
 have hV1:=hV.ext hB hE1
 have c1:(s.alloc (.cells (celE e) 34 0)).h.get s.nx=some (.cells (celE e) 34 0):=qu
 have hag:agE e=.agg (celE e):=rfl
 unfold Z2 at hk
 rw[hag]
 repeat (first|with_reducible (refine q9 H ?_;constructor)|simp only[rB,rP,rQ,q8,qa,q7,qb,reduceIte,reduceCtorEq,Nat.reduceAdd,Nat.reduceLT,Nat.reduceEqDiff,UInt8.reduceToNat,pe3,pf3,qf])
 generalize s.alloc (.cells (celE e) 34 0)=s1 at *
 repeat (first|with_reducible (refine q9 H ?_;constructor)|simp only[rB,rP,rQ,q8,qa,q7,qb,reduceIte,reduceCtorEq,Nat.reduceAdd,Nat.reduceLT,Nat.reduceEqDiff,UInt8.reduceToNat,pe3,pf3,c1,qg,qh,qi,qj,qD,qK,zm,zR,Qo,Qm,ze,zo])
 refine qxa H ?_
 cases h1:Vt e.2.1 with
 | false =>
  rw[h1] at hk
  repeat (first|with_reducible (refine q9 H ?_;constructor)|simp only[rB,rP,rQ,q8,qa,q7,qb,reduceIte,reduceCtorEq,Nat.reduceAdd,Nat.reduceLT,Nat.reduceEqDiff,UInt8.reduceToNat,pe3,pf3,Bool.not_false,Tryz.results141])
  exact hk s1 hE1 hB1
 | true =>
 rw[h1,cond_true] at hk
 repeat (first|with_reducible (refine q9 H ?_;constructor)|simp only[rB,rP,rQ,q8,qa,q7,qb,reduceIte,reduceCtorEq,Nat.reduceAdd,Nat.reduceLT,Nat.reduceEqDiff,UInt8.reduceToNat,pe3,pf3,Bool.not_true,c1,QM,Qe,qN])
 refine qql H hB1 hV1 hp hpre hlen (fun s2 hE2 hB2=>?_)
 have c2:=(hE2.2 _ (hB1 _ _ c1)).trans c1
 have hEs2:=hE1.trans hE2
 cases h2:QP e pre != 0 with
 | true =>
  rw[h2,cond_true] at hk
  repeat (first|with_reducible (refine q9 H ?_;constructor)|simp only[rB,rP,rQ,q8,qa,q7,qb,reduceIte,reduceCtorEq,Nat.reduceAdd,Nat.reduceLT,Nat.reduceEqDiff,UInt8.reduceToNat,pe3,pf3,qH,h2,Tryz.results141])
  exact hk s2 hEs2 hB2
 | false =>
 rw[h2,cond_false] at hk
 repeat (first|with_reducible (refine q9 H ?_;constructor)|simp only[rB,rP,rQ,q8,qa,q7,qb,reduceIte,reduceCtorEq,Nat.reduceAdd,Nat.reduceLT,Nat.reduceEqDiff,UInt8.reduceToNat,pe3,pf3,qH,h2,c2,QM,Qe,qN])
 refine quq H hB2 (fun s3 hE3 hB3=>?_)
 have c3:=(hE3.2 _ (hB2 _ _ c2)).trans c2
 have hEs3:=hEs2.trans hE3
 cases h3:Jd e with
 | false =>
  rw[h3,cond_false] at hk
  repeat (first|with_reducible (refine q9 H ?_;constructor)|simp only[rB,rP,rQ,q8,qa,q7,qb,reduceIte,reduceCtorEq,Nat.reduceAdd,Nat.reduceLT,Nat.reduceEqDiff,UInt8.reduceToNat,pe3,pf3,Bool.not_false,Tryz.results141])
  exact hk s3 hEs3 hB3
 | true =>
 rw[h3,cond_true] at hk
 repeat (first|with_reducible (refine q9 H ?_;constructor)|simp only[rB,rP,rQ,q8,qa,q7,qb,reduceIte,reduceCtorEq,Nat.reduceAdd,Nat.reduceLT,Nat.reduceEqDiff,UInt8.reduceToNat,pe3,pf3,Bool.not_true,c3,qg,qh,qi,qj,qD,qK,zm,zR,Qo,Qm,ze,zo,zM,zP,ql])
 refine qq9 H ?_
 cases h4:Yh e.2.1 (e.2.2.2.length:Int) with
 | false =>
  rw[h4,cond_false] at hk
  repeat (first|with_reducible (refine q9 H ?_;constructor)|simp only[rB,rP,rQ,q8,qa,q7,qb,reduceIte,reduceCtorEq,Nat.reduceAdd,Nat.reduceLT,Nat.reduceEqDiff,UInt8.reduceToNat,pe3,pf3,Bool.not_false,Tryz.results141])
  exact hk s3 hEs3 hB3
 | true =>
 rw[h4,cond_true] at hk
 cases h5:e.2.1==3 with
 | false =>
  rw[h5,cond_false] at hk
  repeat (first|with_reducible (refine q9 H ?_;constructor)|simp only[rB,rP,rQ,q8,qa,q7,qb,reduceIte,reduceCtorEq,Nat.reduceAdd,Nat.reduceLT,Nat.reduceEqDiff,UInt8.reduceToNat,pe3,pf3,Bool.not_true,c3,qg,qh,qi,qj,qD,qK,zm,zR,Qo,Qm,ze,zo,zM,zP,qr,h5,Tryz.results141])
  exact hk s3 hEs3 hB3
 | true =>
 rw[h5,cond_true] at hk
 repeat (first|with_reducible (refine q9 H ?_;constructor)|simp only[rB,rP,rQ,q8,qa,q7,qb,reduceIte,reduceCtorEq,Nat.reduceAdd,Nat.reduceLT,Nat.reduceEqDiff,UInt8.reduceToNat,pe3,pf3,Bool.not_true,c3,qg,qh,qi,qj,qD,qK,zm,zR,Qo,Qm,ze,zo,zM,zP,qr,h5])
 refine qa0 H (by decide) ?_
 cases h6:qy1 e.2.2.2 0 with
 | false =>
  rw[h6,cond_false] at hk
  repeat (first|with_reducible (refine q9 H ?_;constructor)|simp only[rB,rP,rQ,q8,qa,q7,qb,reduceIte,reduceCtorEq,Nat.reduceAdd,Nat.reduceLT,Nat.reduceEqDiff,UInt8.reduceToNat,pe3,pf3,Tryz.results141])
  exact hk s3 hEs3 hB3
 | true =>
  rw[h6,cond_true] at hk
  repeat (first|with_reducible (refine q9 H ?_;constructor)|simp only[rB,rP,rQ,q8,qa,q7,qb,reduceIte,reduceCtorEq,Nat.reduceAdd,Nat.reduceLT,Nat.reduceEqDiff,UInt8.reduceToNat,pe3,pf3,Tryz.results141])
  exact hk s3 hEs3 hB3
theorem qes {e:En} {pre:List En} (h:Z2 e pre=0):e.1.length≤140:=by
 unfold Z2 at h
 cases h1:Vt e.2.1 with
 | false=>rw[h1] at h;cases h
 | true =>
  rw[h1,cond_true] at h
  cases h2:QP e pre != 0 with
  | true =>
   rw[h2,cond_true] at h
   rw[h] at h2
   cases h2
  | false =>
   have h0:QP e pre=0:=by simpa using h2
   unfold QP at h0
   have hl:=X6 (x:=[]) (y:=47::e.1)
   generalize Qf [] (47::e.1)=x at h0 hl
   obtain⟨q,c⟩:=x
   simp only at h0 hl
   cases hc:Nat.beq c 0 with
   | false=>rw[hc] at h0;cases h0
   | true =>
    rw[hc,cond_true] at h0
    cases h2:eqB e.1 [] with
    | true=>rw[h2] at h0;cases h0
    | false =>
     rw[h2,cond_false] at h0
     cases h3:eqB q e.1 with
     | false=>rw[h3] at h0;cases h0
     | true =>
      rw[qG] at h3
      rw[← of_decide_eq_true h3]
      exact hl
def qhk (es:List En):Nat→List En→Int × Int
 | _,[]=>(0,0)
 | k,e::l=>bif Z2 e (es.take k) != 0 then ((k:Int),Z2 e (es.take k)) else qhk es (k+1) l
def qpz (es:List En):Int × Int:=bif decide ((es.length:Int) > 256) then (0,1309) else qhk es 0 es
theorem YM {x:Nat}:qk TE 49 (.ptr x 0) 0=some (.ptr x 0):=by kernel_rfl
theorem qv8 {s:St} (H:Ok TE Tryz.prog pr3) (hB:qc s) {V:AV} {es:List En} (hV:EsV s V es) (hc:qp4 V) (hp:∀ e∈es,e.1.length≤1048575) (h1:V.cells=[V]) (h2:V.one=true) {kr kp:AV→St→Bool}
  (hk:∀ s',Ext s s'→qc s'→kr (.tuple [.raw (.int .i64 (qpz es).1),.raw (.int .i64 (qpz es).2)]) s'=true) :
  (sem Tryz.prog).call 123 [.agg [V]] s kr kp=true:=by
 refine qp H 30 q21 rfl rfl ?_
 have hB1:qc (s.alloc (.cells [V] 49 0)):=qx hB _
 have hE1:Ext s (s.alloc (.cells [V] 49 0)):=Ext.alloc s _
 have c1:(s.alloc (.cells [V] 49 0)).h.get s.nx=some (.cells [V] 49 0):=qu
 unfold qpz at hk
 have vl:=hV.len
 have vi:=hV.ids
 repeat (first|with_reducible (refine q9 H ?_;constructor)|simp only[rB,rP,rQ,q8,qa,q7,qb,reduceIte,reduceCtorEq,Nat.reduceAdd,Nat.reduceLT,Nat.reduceEqDiff,UInt8.reduceToNat,pe3,pf3,qf])
 generalize s.alloc (.cells [V] 49 0)=s1 at *
 cases hl:decide ((es.length:Int) > 256) with
 | true =>
  rw[hl,cond_true] at hk
  repeat (first|with_reducible (refine q9 H ?_;constructor)|simp only[rB,rP,rQ,q8,qa,q7,qb,reduceIte,reduceCtorEq,Nat.reduceAdd,Nat.reduceLT,Nat.reduceEqDiff,UInt8.reduceToNat,pe3,pf3,c1,YM,VO,vl,vi,zD,hl,Tryz.results123])
  exact hk s1 hE1 hB1
 | false =>
 rw[hl,cond_false] at hk
 have hl:=of_decide_eq_false hl
 have hl':decide ((es.length:Int) > 256)=false:=decide_eq_false hl
 repeat (first|with_reducible (refine q9 H ?_;constructor)|simp only[rB,rP,rQ,q8,qa,q7,qb,reduceIte,reduceCtorEq,Nat.reduceAdd,Nat.reduceLT,Nat.reduceEqDiff,UInt8.reduceToNat,pe3,pf3,c1,YM,VO,vl,vi,zD,hl'])
 refine qB H (fun n t s'=>∃ k:Nat,n+k=es.length∧tg t 1=.ptr s.nx 0∧tg t 12=V∧tg t 13=.raw (.int .i64 (es.length:Int))∧tg t 14=.raw (.int .i64 (k:Int))∧Ext s s'∧qc s'∧s'.h.get s.nx=some (.cells [V] 49 0)∧(∀ a∈es.take k,a.1.length≤140)∧qhk es 0 es=qhk es k (es.drop k)) (n:=es.length)
  ⟨0,rfl,by simp only[rB,rP,rQ,q8,qa,q7,qb,reduceIte,reduceCtorEq,Nat.reduceAdd,Nat.reduceLT,Nat.reduceEqDiff,UInt8.reduceToNat],by simp only[rB,rP,rQ,q8,qa,q7,qb,reduceIte,reduceCtorEq,Nat.reduceAdd,Nat.reduceLT,Nat.reduceEqDiff,UInt8.reduceToNat],by simp only[rB,rP,rQ,q8,qa,q7,qb,reduceIte,reduceCtorEq,Nat.reduceAdd,Nat.reduceLT,Nat.reduceEqDiff,UInt8.reduceToNat],by simp only[rB,rP,rQ,q8,qa,q7,qb,reduceIte,reduceCtorEq,Nat.reduceAdd,Nat.reduceLT,Nat.reduceEqDiff,UInt8.reduceToNat];rfl,‹_›,‹_›,‹_›,by simp,rfl⟩ ?_
 rintro n t s' ih ⟨k,hn,t1,t12,t13,t14,hE,hB',hc1,hpre,hm⟩
 cases n with
 | zero =>
  have g0:decide ((k:Int) < (es.length:Int))=false:=by rw[decide_eq_false_iff_not];omega
  rw[List.drop_eq_nil_of_le (by omega)] at hm
  rw[hm] at hk
  repeat (first|with_reducible (refine q9 H ?_;constructor)|simp only[rB,rP,rQ,q8,qa,q7,qb,reduceIte,reduceCtorEq,Nat.reduceAdd,Nat.reduceLT,Nat.reduceEqDiff,UInt8.reduceToNat,pe3,pf3,t1,t12,t13,t14,zJ,g0,Tryz.results123])
  exact hk s' hE hB'
 | succ n =>
  have g0:decide ((k:Int) < (es.length:Int))=true:=by rw[decide_eq_true_eq];omega
  have hlt:k < es.length:=by omega
  have hke:es[k]?=some es[k]:=List.getElem?_eq_getElem hlt
  have hmem:es[k]∈es:=List.getElem_mem hlt
  have htk:es.take (k+1)=es.take k++[es[k]]:=by rw[List.take_add_one,hke];rfl
  rw[List.drop_eq_getElem_cons hlt] at hm
  generalize es[k]=e at hke hmem hm htk
  have hV':=hV.ext hB hE
  obtain⟨id,o,y1,y2,y3,y4,-⟩:=hV'.idx hke
  obtain⟨V',z1,z2⟩:=hV'.upto hc hlt
  have hB3:qc { h:=(s'.alloc (.cells [.str [],.raw (.int .i64 0),.raw (.int .i64 0),.str []] 34 0)).h.set s'.nx (.cells (celE e) 34 0),nx:=s'.nx+1 }:=zy hB'
  have hE3:Ext s' { h:=(s'.alloc (.cells [.str [],.raw (.int .i64 0),.raw (.int .i64 0),.str []] 34 0)).h.set s'.nx (.cells (celE e) 34 0),nx:=s'.nx+1 }:=Q7
  have c3:({ h:=(s'.alloc (.cells [.str [],.raw (.int .i64 0),.raw (.int .i64 0),.str []] 34 0)).h.set s'.nx (.cells (celE e) 34 0),nx:=s'.nx+1 }:St).h.get s'.nx=some (.cells (celE e) 34 0):=hs_same
  have c4:=(hE3.2 _ (hB' _ _ hc1)).trans hc1
  have z3:=z2.ext hB' hE3
  have z4:=z2.ids
  have ew:IntKind.i64.wrap ((k:Int)+1)=((k+1:Nat):Int):=by
   rw[show (k:Int)+1=((k+1:Nat):Int) from by simp]
   exact qU (by omega)
  repeat (first|with_reducible (refine q9 H ?_;constructor)|simp only[rB,rP,rQ,q8,qa,q7,qb,reduceIte,reduceCtorEq,Nat.reduceAdd,Nat.reduceLT,Nat.reduceEqDiff,UInt8.reduceToNat,pe3,pf3,t1,t12,t13,t14,zJ,g0,y1,y2,y3,y4,YK,VN,YI,QM,Qe])
  generalize ({ h:=(s'.alloc (.cells [.str [],.raw (.int .i64 0),.raw (.int .i64 0),.str []] 34 0)).h.set s'.nx (.cells (celE e) 34 0),nx:=s'.nx+1 }:St)=s3 at *
  have hEs:=hE.trans hE3
  repeat (first|with_reducible (refine q9 H ?_;constructor)|simp only[rB,rP,rQ,q8,qa,q7,qb,reduceIte,reduceCtorEq,Nat.reduceAdd,Nat.reduceLT,Nat.reduceEqDiff,UInt8.reduceToNat,pe3,pf3,t1,t12,t13,t14,c3,c4,QM,Qe,qN,YM,VO,z1,z4,vi]|(with_reducible refine qy H (i:=6) (.take 0 (.take 1 (.take 2 (.take 3 (.take 4 (.alt 5 [0,1,2,3,4] (.take 6 (.done)) (.yes))))))) rfl (by kernel_rfl) ?_))
  refine qwl H hB3 z3 (hp e hmem) hpre (by rw[List.length_take];omega) (fun s4 hE4 hB4=>?_)
  have c5:=(hE4.2 _ (hB3 _ _ c4)).trans c4
  simp only[qhk] at hm
  cases hf:Z2 e (es.take k) != 0 with
  | true =>
   rw[hf,cond_true] at hm
   rw[hm] at hk
   repeat (first|with_reducible (refine q9 H ?_;constructor)|simp only[rB,rP,rQ,q8,qa,q7,qb,reduceIte,reduceCtorEq,Nat.reduceAdd,Nat.reduceLT,Nat.reduceEqDiff,UInt8.reduceToNat,pe3,pf3,t1,t12,t13,t14,qH,hf,Tryz.results123])
   exact hk s4 (hEs.trans hE4) hB4
  | false =>
   rw[hf,cond_false] at hm
   have h0:Z2 e (es.take k)=0:=by simpa using hf
   repeat (first|with_reducible (refine q9 H ?_;constructor)|simp only[rB,rP,rQ,q8,qa,q7,qb,reduceIte,reduceCtorEq,Nat.reduceAdd,Nat.reduceLT,Nat.reduceEqDiff,UInt8.reduceToNat,pe3,pf3,t1,t12,t13,t14,qH,hf,qI,ew])
   refine ih n _ _ (Nat.lt_succ_self n) ⟨k+1,by omega,by simp only[rB,rP,rQ,q8,qa,q7,qb,reduceIte,reduceCtorEq,Nat.reduceAdd,Nat.reduceLT,Nat.reduceEqDiff,UInt8.reduceToNat,t1],by simp only[rB,rP,rQ,q8,qa,q7,qb,reduceIte,reduceCtorEq,Nat.reduceAdd,Nat.reduceLT,Nat.reduceEqDiff,UInt8.reduceToNat,t12],by simp only[rB,rP,rQ,q8,qa,q7,qb,reduceIte,reduceCtorEq,Nat.reduceAdd,Nat.reduceLT,Nat.reduceEqDiff,UInt8.reduceToNat,t13],by simp only[rB,rP,rQ,q8,qa,q7,qb,reduceIte,reduceCtorEq,Nat.reduceAdd,Nat.reduceLT,Nat.reduceEqDiff,UInt8.reduceToNat],hEs.trans hE4,hB4,c5,fun a ha=>?_,hm⟩
   rw[htk] at ha
   rcases List.mem_append.1 ha with ha|ha
   ·exact hpre a ha
   ·simp at ha
    rw[ha]
    exact qes h0
def zn {α:Type} (f:α→AV) (l:List (List Nat × α)):List (AV × AV):=l.map fun q=>(.str q.1,f q.2)
def qz {α:Type} (p:List Nat):List (List Nat × α)→Option α
 | []=>none
 | (q,j)::l=>bif eqB p q then some j else qz p l
def Y5 {α:Type} (p:List Nat) (j:α):List (List Nat × α)→List (List Nat × α)
 | []=>[(p,j)]
 | (q,i)::l=>bif eqB p q then (p,j)::l else (q,i)::Y5 p j l
def Y0 {α:Type} (p:List Nat):List (List Nat × α)→List (List Nat × α)
 | []=>[]
 | (q,i)::l=>bif eqB p q then l else (q,i)::Y0 p l
theorem ZD {α:Type} {f:α→AV} {p:List Nat}:∀ (l:List (List Nat × α)) (i:Nat),Qr .string (.str p) (zn f l) i=some (match qz p l with|some j=>some (i+(l.findIdx fun q=>eqB p q.1),f j)|none=>none)
 | [],_=>(rfl)
 | (q,j)::l,i=>by
  simp only[zn,List.map_cons,Qr,qb7,qz]
  cases h:eqB p q with
  | true=>simp[h,List.findIdx_cons]
  | false =>
   have ih:=ZD (f:=f) (p:=p) l (i+1)
   simp only[zn] at ih
   simp only[ih,cond_false,List.findIdx_cons,h]
   cases qz p l with
   | none=>rfl
   | some _=>simp;omega
theorem qje {α:Type} {f:α→AV} {p:List Nat} {j:α}:∀ (l:List (List Nat × α)),qz p l≠none→setL (zn f l) (l.findIdx fun q=>eqB p q.1) (.str p,f j)=zn f (Y5 p j l)
 | [],h=>absurd rfl h
 | (q,i)::l,h=>by
  simp only[qz] at h
  simp only[zn,List.map_cons,List.findIdx_cons,Y5]
  cases he:eqB p q with
  | true=>simp only[cond_true,setL,List.map_cons]
  | false =>
   rw[he] at h
   have ih:=qje (f:=f) (j:=j) l h
   simp only[zn] at ih
   simp only[cond_false,setL,ih,List.map_cons]
theorem QY {α:Type} {p:List Nat} {j:α}:∀ (l:List (List Nat × α)),qz p l=none→Y5 p j l=l++[(p,j)]
 | [],_=>rfl
 | (q,i)::l,h=>by
  simp only[qz] at h
  simp only[Y5]
  cases he:eqB p q with
  | true=>rw[he] at h;cases h
  | false =>
   rw[he] at h
   simp only[cond_false,QY l h,List.cons_append]
theorem VW {α β:Type} {f:α→β} {g:List Nat × α→β} {p:List Nat}:∀ (l:List (List Nat × α)),qz p l≠none→eraseL (l.map g) (l.findIdx fun q=>eqB p q.1)=(Y0 p l).map g
 | [],h=>absurd rfl h
 | (q,j)::l,h=>by
  simp only[qz] at h
  simp only[List.map_cons,List.findIdx_cons,Y0]
  cases he:eqB p q with
  | true=>simp only[cond_true,eraseL]
  | false =>
   rw[he] at h
   have ih:=VW (f:=f) (g:=g) l h
   simp only[cond_false,eraseL,ih,List.map_cons]
theorem X9 {α:Type} {p:List Nat}:∀ (l:List (List Nat × α)),qz p l=none→Y0 p l=l
 | [],_=>rfl
 | (q,i)::l,h=>by
  simp only[qz] at h
  simp only[Y0]
  cases he:eqB p q with
  | true=>rw[he] at h;cases h
  | false =>
   rw[he] at h
   simp only[cond_false,X9 l h]
def qhi (n:Int):AV:=.raw (.int .i64 n)
def enZ:En:=([],0,0,[])
theorem q6h {s:St} {mp:Nat} {l:List (List Nat × En)} {p:List Nat} (h:s.h.get mp=some (.map (zn agE l))):Qt TE s 180 (.map mp) (.str p) false=some (agE ((qz p l).getD enZ)):=by
 have hz:zt TE 34=some (agE enZ):=by kernel_rfl
 have e:Qt TE s 180 (.map mp) (.str p) false=(match (some { desc:=.string,size:=1,bytes:=16,zero:=some (.string ⟨#[]⟩) }:Option TI),YO s (.map mp) with
   | some ki,some es =>
    bif Y7 ki.desc then
     match Qr ki.desc (.str p) es 0 with
     | some (some (_,v))=>some (bif false then .tuple [v,q8 true] else v)
     | some none=>match zt TE 34 with
      | some z=>some (bif false then .tuple [z,q8 false] else z)
      | none=>none
     | none=>none
    else none
   | _,_=>none):=by kernel_rfl
 rw[e]
 simp only[YO,h,ZD,Y7,cond_true,cond_false,hz]
 cases qz p l <;> rfl
theorem q27 {s:St} {mp:Nat} {l:List (List Nat × En)} {p:List Nat} (h:s.h.get mp=some (.map (zn agE l))):Qt TE s 180 (.map mp) (.str p) true=some (.tuple [agE ((qz p l).getD enZ),.raw (.bool (qz p l).isSome)]):=by
 have hz:zt TE 34=some (agE enZ):=by kernel_rfl
 have e:Qt TE s 180 (.map mp) (.str p) true=(match (some { desc:=.string,size:=1,bytes:=16,zero:=some (.string ⟨#[]⟩) }:Option TI),YO s (.map mp) with
   | some ki,some es =>
    bif Y7 ki.desc then
     match Qr ki.desc (.str p) es 0 with
     | some (some (_,v))=>some (bif true then .tuple [v,q8 true] else v)
     | some none=>match zt TE 34 with
      | some z=>some (bif true then .tuple [z,q8 false] else z)
      | none=>none
     | none=>none
    else none
   | _,_=>none):=by kernel_rfl
 rw[e]
 simp only[YO,h,ZD,Y7,cond_true,cond_false,hz]
 cases qz p l <;> rfl
theorem qr9 {s:St} {mp:Nat} {l:List (List Nat × Int)} {p:List Nat} (h:s.h.get mp=some (.map (zn qhi l))):Qt TE s 181 (.map mp) (.str p) false=some (.raw (.int .i64 ((qz p l).getD 0))):=by
 have hz:zt TE 3=some (qhi 0):=by kernel_rfl
 have e:Qt TE s 181 (.map mp) (.str p) false=(match (some { desc:=.string,size:=1,bytes:=16,zero:=some (.string ⟨#[]⟩) }:Option TI),YO s (.map mp) with
   | some ki,some es =>
    bif Y7 ki.desc then
     match Qr ki.desc (.str p) es 0 with
     | some (some (_,v))=>some (bif false then .tuple [v,q8 true] else v)
     | some none=>match zt TE 3 with
      | some z=>some (bif false then .tuple [z,q8 false] else z)
      | none=>none
     | none=>none
    else none
   | _,_=>none):=by kernel_rfl
 rw[e]
 simp only[YO,h,ZD,Y7,cond_true,cond_false,hz]
 cases qz p l <;> rfl
theorem qw7 {s:St} {mp:Nat} {l:List (List Nat × En)} {p:List Nat} {j:En} (h:s.h.get mp=some (.map (zn agE l))):za TE s 180 (.map mp) (.str p) (agE j)=some { s with h:=s.h.set mp (.map (zn agE (Y5 p j l))) }:=by
 have e:za TE s 180 (.map mp) (.str p) (agE j)=(match s.h.get mp with
   | some (.map es)=>match Qr .string (.str p) es 0 with
      | some (some (i,_))=>some { s with h:=s.h.set mp (.map (setL es i (.str p,agE j))) }
      | some none=>some { s with h:=s.h.set mp (.map (es++[(.str p,agE j)])) }
      | none=>none
   | _=>none):=by kernel_rfl
 rw[e,h]
 simp only[ZD]
 cases hl:qz p l with
 | none=>simp only[QY l hl,zn,List.map_append,List.map_cons,List.map_nil]
 | some i=>simp only[Nat.zero_add,qje l (by rw[hl];simp)]
theorem qvx {s:St} {mp:Nat} {l:List (List Nat × Int)} {p:List Nat} {j:Int} (h:s.h.get mp=some (.map (zn qhi l))):za TE s 181 (.map mp) (.str p) (.raw (.int .i64 j))=some { s with h:=s.h.set mp (.map (zn qhi (Y5 p j l))) }:=by
 have e:za TE s 181 (.map mp) (.str p) (qhi j)=(match s.h.get mp with
   | some (.map es)=>match Qr .string (.str p) es 0 with
      | some (some (i,_))=>some { s with h:=s.h.set mp (.map (setL es i (.str p,qhi j))) }
      | some none=>some { s with h:=s.h.set mp (.map (es++[(.str p,qhi j)])) }
      | none=>none
   | _=>none):=by kernel_rfl
 show za TE s 181 (.map mp) (.str p) (qhi j)=_
 rw[e,h]
 simp only[ZD]
 cases hl:qz p l with
 | none=>simp only[QY l hl,zn,List.map_append,List.map_cons,List.map_nil]
 | some i=>simp only[Nat.zero_add,qje l (by rw[hl];simp)]
theorem q5c {s:St} {mp:Nat} {l:List (List Nat × En)} {p:List Nat} (h:s.h.get mp=some (.map (zn agE l))):QU TE s [180,9] [.map mp,.str p]=some (match qz p l with|some _=>{ s with h:=s.h.set mp (.map (zn agE (Y0 p l))) } | none=>s):=by
 have e:QU TE s [180,9] [.map mp,.str p]=(match s.h.get mp with
   | some (.map es)=>match Qr .string (.str p) es 0 with
      | some (some (i,_))=>some { s with h:=s.h.set mp (.map (eraseL es i)) }
      | some none=>some s
      | none=>none
   | some (.rmap es it ix)=>match Qr .string (.str p) es 0 with
      | some (some (i,_))=>some { s with h:=s.h.set mp (.rmap (eraseL es i) it (eraseL ix i)) }
      | some none=>some s
      | none=>none
   | _=>none):=by kernel_rfl
 rw[e,h]
 simp only[ZD]
 cases hl:qz p l with
 | none=>rfl
 | some i =>
  simp only[Nat.zero_add,zn]
  rw[VW (f:=fun e=>((.str []:AV),agE e)) (g:=fun q=>((.str q.1:AV),agE q.2)) l (by rw[hl];simp)]
theorem q0w {s:St} {mp:Nat} {l:List (List Nat × Int)} {p:List Nat} (h:s.h.get mp=some (.map (zn qhi l))):QU TE s [181,9] [.map mp,.str p]=some (match qz p l with|some _=>{ s with h:=s.h.set mp (.map (zn qhi (Y0 p l))) } | none=>s):=by
 have e:QU TE s [181,9] [.map mp,.str p]=(match s.h.get mp with
   | some (.map es)=>match Qr .string (.str p) es 0 with
      | some (some (i,_))=>some { s with h:=s.h.set mp (.map (eraseL es i)) }
      | some none=>some s
      | none=>none
   | some (.rmap es it ix)=>match Qr .string (.str p) es 0 with
      | some (some (i,_))=>some { s with h:=s.h.set mp (.rmap (eraseL es i) it (eraseL ix i)) }
      | some none=>some s
      | none=>none
   | _=>none):=by kernel_rfl
 rw[e,h]
 simp only[ZD]
 cases hl:qz p l with
 | none=>rfl
 | some i =>
  simp only[Nat.zero_add,zn]
  rw[VW (f:=fun e=>((.str []:AV),qhi e)) (g:=fun q=>((.str q.1:AV),qhi q.2)) l (by rw[hl];simp)]
theorem q7g {s:St} {mp it:Nat} {ix:List Nat} {l:List (List Nat × En)} {p:List Nat} (h:s.h.get mp=some (.rmap (zn agE l) it ix)):QU TE s [180,9] [.map mp,.str p]=some (match qz p l with|some _=>{ s with h:=s.h.set mp (.rmap (zn agE (Y0 p l)) it (eraseL ix (l.findIdx fun q=>eqB p q.1))) } | none=>s):=by
 have e:QU TE s [180,9] [.map mp,.str p]=(match s.h.get mp with
   | some (.map es)=>match Qr .string (.str p) es 0 with
      | some (some (i,_))=>some { s with h:=s.h.set mp (.map (eraseL es i)) }
      | some none=>some s
      | none=>none
   | some (.rmap es it ix)=>match Qr .string (.str p) es 0 with
      | some (some (i,_))=>some { s with h:=s.h.set mp (.rmap (eraseL es i) it (eraseL ix i)) }
      | some none=>some s
      | none=>none
   | _=>none):=by kernel_rfl
 rw[e,h]
 simp only[ZD]
 cases hl:qz p l with
 | none=>rfl
 | some i =>
  simp only[Nat.zero_add,zn]
  rw[VW (f:=fun e=>((.str []:AV),agE e)) (g:=fun q=>((.str q.1:AV),agE q.2)) l (by rw[hl];simp)]
theorem q2b {s:St} {mp:Nat} {l:List (List Nat × En)} (h:s.h.get mp=some (.map (zn agE l))):Q5 TE s [180] [.map mp]=some (.raw (.int .i64 (l.length:Int))):=by
 have e:Q5 TE s [180] [.map mp]=(match YO s (.map mp) with|some es=>some (qa es.length)|none=>none):=by kernel_rfl
 rw[e]
 simp only[YO,h,zn,List.length_map,qa]
theorem qC {s:St} {x o:Nat}:Q3 TE s 180 (.ptr x o)=ldO (s.h.get x) o:=by rw[ZP (by kernel_rfl),qdt]
theorem QL {s:St} {x o:Nat}:Q3 TE s 181 (.ptr x o)=ldO (s.h.get x) o:=by rw[ZP (by kernel_rfl),qdt]
theorem qT {x:Nat}:qk TE 183 (.ptr x 0) 0=some (.ptr x 0):=by kernel_rfl
theorem YB {x:Nat}:qk TE 183 (.ptr x 0) 1=some (.ptr x 1):=by kernel_rfl
structure FR (s:St) (fb nb kb:Nat) (N:List (List Nat × En)) (K:List (List Nat × Int)):Prop where
 f:s.h.get fb=some (.cells [.map nb,.map kb] 183 0)
 n:s.h.get nb=some (.map (zn agE N))
 k:s.h.get kb=some (.map (zn qhi K))
 d:nb≠kb
def FrF (nb kb:Nat) (s s':St):Prop:=s.nx≤s'.nx∧∀ i,i < s.nx→i≠nb→i≠kb→s'.h.get i=s.h.get i
theorem FrF.refl {nb kb:Nat} (s:St):FrF nb kb s s:=⟨Nat.le_refl _,fun _ _ _ _=>rfl⟩
theorem FrF.trans {nb kb:Nat} {s s' s'':St} (h:FrF nb kb s s') (h':FrF nb kb s' s''):FrF nb kb s s'':=⟨Nat.le_trans h.1 h'.1,fun i hi h1 h2=>(h'.2 i (Nat.lt_of_lt_of_le hi h.1) h1 h2).trans (h.2 i hi h1 h2)⟩
theorem FrF.of {nb kb:Nat} {s s':St} (h:Ext s s'):FrF nb kb s s':=⟨h.1,fun i hi _ _=>h.2 i hi⟩
theorem FrF.put {nb kb:Nat} {s:St} {i:Nat} {o:AO} (h:i=nb∨i=kb):FrF nb kb s { s with h:=s.h.set i o }:=⟨Nat.le_refl _,fun j _ h1 h2=>qe (by rcases h with rfl|rfl <;> assumption)⟩
theorem FrF.ext {nb kb:Nat} {s s1 s2:St} (h:FrF nb kb s1 s2) (hE:Ext s s1) (h1:s.nx≤nb) (h2:s.nx≤kb):Ext s s2:=⟨Nat.le_trans hE.1 h.1,fun i hi=>(h.2 i (Nat.lt_of_lt_of_le hi hE.1) (by omega) (by omega)).trans (hE.2 i hi)⟩
theorem FR.fn {s:St} {fb nb kb:Nat} {N:List (List Nat × En)} {K:List (List Nat × Int)} (R:FR s fb nb kb N K):fb≠nb:=by
 intro h
 have:=R.f
 rw[h,R.n] at this
 cases this
theorem FR.fk {s:St} {fb nb kb:Nat} {N:List (List Nat × En)} {K:List (List Nat × Int)} (R:FR s fb nb kb N K):fb≠kb:=by
 intro h
 have:=R.f
 rw[h,R.k] at this
 cases this
theorem FR.ext {s s':St} {fb nb kb:Nat} {N:List (List Nat × En)} {K:List (List Nat × Int)} (R:FR s fb nb kb N K) (hB:qc s) (hE:Ext s s'):FR s' fb nb kb N K :=
 ⟨(hE.2 _ (hB _ _ R.f)).trans R.f,(hE.2 _ (hB _ _ R.n)).trans R.n,(hE.2 _ (hB _ _ R.k)).trans R.k,R.d⟩
theorem FR.setN {s:St} {fb nb kb:Nat} {N N':List (List Nat × En)} {K:List (List Nat × Int)} (R:FR s fb nb kb N K):FR { s with h:=s.h.set nb (.map (zn agE N')) } fb nb kb N' K :=
 ⟨(qe R.fn).trans R.f,hs_same,(qe R.d.symm).trans R.k,R.d⟩
theorem FR.setK {s:St} {fb nb kb:Nat} {N:List (List Nat × En)} {K K':List (List Nat × Int)} (R:FR s fb nb kb N K):FR { s with h:=s.h.set kb (.map (zn qhi K')) } fb nb kb N K' :=
 ⟨(qe R.fk).trans R.f,(qe R.d).trans R.n,hs_same,R.d⟩
def JX (p:List Nat) (d:Int) (K:List (List Nat × Int)):List (List Nat × Int):=Y5 p (IntKind.i64.wrap ((qz p K).getD 0+d)) K
theorem Ya {s:St} (H:Ok TE Tryz.prog pr3) (hB:qc s) {fb nb kb:Nat} {N:List (List Nat × En)} {K:List (List Nat × Int)} (R:FR s fb nb kb N K) {e:En} (hp:e.1.length≤1000000) {kr kp:AV→St→Bool}
  (hk:∀ s',FrF nb kb s s'→qc s'→FR s' fb nb kb (Y5 e.1 e N) (JX (upE e.1) 1 K)→kr (.tuple []) s'=true) :
  (sem Tryz.prog).call 142 [.ptr fb 0,agE e] s kr kp=true:=by
 refine qp H 20 q38 rfl rfl ?_
 have hB1:qc (s.alloc (.cells (celE e) 34 0)):=qx hB _
 have hE1:Ext s (s.alloc (.cells (celE e) 34 0)):=Ext.alloc s _
 have R1:=R.ext hB hE1
 have c1:(s.alloc (.cells (celE e) 34 0)).h.get s.nx=some (.cells (celE e) 34 0):=qu
 have hn:=hB _ _ R.n
 have hkb:=hB _ _ R.k
 have hag:agE e=.agg (celE e):=rfl
 rw[hag]
 repeat (first|with_reducible (refine q9 H ?_;constructor)|simp only[rB,rP,rQ,q8,qa,q7,qb,reduceIte,reduceCtorEq,Nat.reduceAdd,Nat.reduceLT,Nat.reduceEqDiff,UInt8.reduceToNat,pe3,pf3,qf])
 generalize s.alloc (.cells (celE e) 34 0)=s1 at *
 have f1:=R1.f
 have u1:=qw7 (p:=e.1) (j:=e) R1.n
 repeat (first|with_reducible (refine q9 H ?_;constructor)|simp only[rB,rP,rQ,q8,qa,q7,qb,reduceIte,reduceCtorEq,Nat.reduceAdd,Nat.reduceLT,Nat.reduceEqDiff,UInt8.reduceToNat,pe3,pf3,f1,c1,qT,YB,qg,qC,QL,qD,zm,ze,QM,Qe,u1]|(with_reducible refine qy H (i:=1) (.take 0 (.take 1 (.take 2 (.take 3 (.take 4 (.take 5 (.take 6 (.alt 7 [0,1,2,3,4,5,6] (.done) (.yes))))))))) rfl (by kernel_rfl) ?_))
 have hs1:=hE1.1
 have hB2:qc { s1 with h:=s1.h.set nb (.map (zn agE (Y5 e.1 e N))) }:=qn hB1 (hB1 _ _ R1.n) _
 have R2:FR { s1 with h:=s1.h.set nb (.map (zn agE (Y5 e.1 e N))) } fb nb kb (Y5 e.1 e N) K:=R1.setN
 have F2:FrF nb kb s { s1 with h:=s1.h.set nb (.map (zn agE (Y5 e.1 e N))) }:=(FrF.of hE1).trans (FrF.put (Or.inl rfl))
 have c2:({ s1 with h:=s1.h.set nb (.map (zn agE (Y5 e.1 e N))) }:St).h.get s.nx=some (.cells (celE e) 34 0):=(qe (by omega)).trans c1
 generalize ({ s1 with h:=s1.h.set nb (.map (zn agE (Y5 e.1 e N))) }:St)=s2 at *
 have f2:=R2.f
 have u2:=qvx (p:=upE e.1) (j:=IntKind.i64.wrap ((qz (upE e.1) K).getD 0+1)) R2.k
 have l2:=qr9 (p:=upE e.1) R2.k
 have ia:∀ b,inO (s2.h.get kb) b=b:=fun b=>by rw[R2.k];rfl
 repeat (first|with_reducible (refine q9 H ?_;constructor)|simp only[rB,rP,rQ,q8,qa,q7,qb,reduceIte,reduceCtorEq,Nat.reduceAdd,Nat.reduceLT,Nat.reduceEqDiff,UInt8.reduceToNat,pe3,pf3,f2,c2,qT,YB,qg,qC,QL,qD,zm,ze,QM,Qe,l2,ia,u2,qN,qI]|(with_reducible refine qy H (i:=2) (.take 0 (.take 1 (.take 2 (.take 3 (.take 4 (.take 5 (.alt 6 [4,5] (.take 7 (.take 8 (.alt 9 [0,1,2,3,4,5,6,7,8] (.done) (.yes)))) (.yes)))))))) rfl (by kernel_rfl) ?_))
 refine qcg H hp ?_
 repeat (first|with_reducible (refine q9 H ?_;constructor)|simp only[rB,rP,rQ,q8,qa,q7,qb,reduceIte,reduceCtorEq,Nat.reduceAdd,Nat.reduceLT,Nat.reduceEqDiff,UInt8.reduceToNat,pe3,pf3,f2,c2,qT,YB,qg,qC,QL,qD,zm,ze,QM,Qe,l2,ia,u2,qN,qI,Tryz.results142]|(with_reducible refine qy H (i:=2) (.take 0 (.take 1 (.take 2 (.take 3 (.take 4 (.take 5 (.alt 6 [4,5] (.take 7 (.take 8 (.alt 9 [0,1,2,3,4,5,6,7,8] (.done) (.yes)))) (.yes)))))))) rfl (by kernel_rfl) ?_))
 exact hk _ (F2.trans (FrF.put (Or.inr rfl))) (qn hB2 (hB2 _ _ R2.k) _) R2.setK
theorem qvs {s:St} (H:Ok TE Tryz.prog pr3) {fb nb kb:Nat} {N:List (List Nat × En)} {K:List (List Nat × Int)} (R:FR s fb nb kb N K) {kr kp:AV→St→Bool}
  (hk:kr (.raw (.int .i64 (N.length:Int))) s=true) :
  (sem Tryz.prog).call 126 [.ptr fb 0] s kr kp=true:=by
 refine qp H 8 q1s rfl rfl ?_
 have f1:=R.f
 have l1:=q2b R.n
 have ia:∀ b,inO (s.h.get nb) b=b:=fun b=>by rw[R.n];rfl
 repeat (first|with_reducible (refine q9 H ?_;constructor)|simp only[rB,rP,rQ,q8,qa,q7,qb,reduceIte,reduceCtorEq,Nat.reduceAdd,Nat.reduceLT,Nat.reduceEqDiff,UInt8.reduceToNat,pe3,pf3,f1,qT,qC,l1,ia,Tryz.results126])
 exact hk
def QS:List (List Nat × En) × List (List Nat × Int)→List En→List (List Nat × En) × List (List Nat × Int)
 | x,[]=>x
 | x,e::l=>QS (Y5 e.1 e x.1,JX (upE e.1) 1 x.2) l
theorem qs8 {a b:Nat}:Qb TE 183 [(0,.map a),(1,.map b)]=some (.agg [.map a,.map b]):=by kernel_rfl
theorem qrh {s:St} (H:Ok TE Tryz.prog pr3) (hB:qc s) {V:AV} {es:List En} (hV:EsV s V es) (hp:∀ e∈es,e.1.length≤1000000) (hn:es.length≤1000000000) {kr kp:AV→St→Bool}
  (hk:∀ s' fb nb kb,Ext s s'→s.nx≤fb→s.nx≤nb→s.nx≤kb→qc s'→FR s' fb nb kb (QS ([],[]) es).1 (QS ([],[]) es).2→kr (.ptr fb 0) s'=true) :
  (sem Tryz.prog).call 124 [V] s kr kp=true:=by
 refine qp H 21 qzr rfl rfl ?_
 have vl:=hV.len
 have vi:=hV.ids
 repeat (first|with_reducible (refine q9 H ?_;constructor)|simp only[rB,rP,rQ,q8,qa,q7,qb,reduceIte,reduceCtorEq,Nat.reduceAdd,Nat.reduceLT,Nat.reduceEqDiff,UInt8.reduceToNat,pe3,pf3,vl,vi,qs8,qf])
 have hE0:Ext s (((s.alloc (.map [])).alloc (.map [])).alloc (.cells [.map s.nx,.map (s.nx+1)] 183 0)):=((Ext.alloc s _).trans (Ext.alloc _ _)).trans (Ext.alloc _ _)
 have hB0:qc (((s.alloc (.map [])).alloc (.map [])).alloc (.cells [.map s.nx,.map (s.nx+1)] 183 0)):=qx (qx (qx hB _) _) _
 have R0:FR (((s.alloc (.map [])).alloc (.map [])).alloc (.cells [.map s.nx,.map (s.nx+1)] 183 0)) (s.nx+2) s.nx (s.nx+1) [] []:=by
  refine⟨qu,?_,?_,by omega⟩
  ·exact (zg (by show s.nx≠s.nx+1+1;omega)).trans ((zg (by show s.nx≠s.nx+1;omega)).trans qu)
  ·exact (zg (by show s.nx+1≠s.nx+1+1;omega)).trans qu
 refine qB H (fun n t s'=>∃ (k:Nat) (x:List (List Nat × En) × List (List Nat × Int)),n+k=es.length∧tg t 3=.ptr (s.nx+2) 0∧tg t 10=V∧tg t 11=.raw (.int .i64 (es.length:Int))∧tg t 12=.raw (.int .i64 (k:Int))∧Ext s s'∧qc s'∧FR s' (s.nx+2) s.nx (s.nx+1) x.1 x.2∧QS ([],[]) es=QS x (es.drop k)) (n:=es.length)
  ⟨0,([],[]),rfl,by simp only[rB,rP,rQ,q8,qa,q7,qb,reduceIte,reduceCtorEq,Nat.reduceAdd,Nat.reduceLT,Nat.reduceEqDiff,UInt8.reduceToNat],by simp only[rB,rP,rQ,q8,qa,q7,qb,reduceIte,reduceCtorEq,Nat.reduceAdd,Nat.reduceLT,Nat.reduceEqDiff,UInt8.reduceToNat],by simp only[rB,rP,rQ,q8,qa,q7,qb,reduceIte,reduceCtorEq,Nat.reduceAdd,Nat.reduceLT,Nat.reduceEqDiff,UInt8.reduceToNat],by simp only[rB,rP,rQ,q8,qa,q7,qb,reduceIte,reduceCtorEq,Nat.reduceAdd,Nat.reduceLT,Nat.reduceEqDiff,UInt8.reduceToNat];rfl,hE0,hB0,R0,rfl⟩ ?_
 rintro n t s' ih ⟨k,x,hnk,t3,t10,t11,t12,hE,hB',R,hg⟩
 cases n with
 | zero =>
  have g0:decide ((k:Int) < (es.length:Int))=false:=by rw[decide_eq_false_iff_not];omega
  rw[List.drop_eq_nil_of_le (by omega)] at hg
  rw[hg] at hk
  repeat (first|with_reducible (refine q9 H ?_;constructor)|simp only[rB,rP,rQ,q8,qa,q7,qb,reduceIte,reduceCtorEq,Nat.reduceAdd,Nat.reduceLT,Nat.reduceEqDiff,UInt8.reduceToNat,pe3,pf3,t3,t10,t11,t12,zJ,g0,Tryz.results124])
  exact hk s' (s.nx+2) s.nx (s.nx+1) hE (by omega) (by omega) (by omega) hB' R
 | succ n =>
  have g0:decide ((k:Int) < (es.length:Int))=true:=by rw[decide_eq_true_eq];omega
  have hlt:k < es.length:=by omega
  have hke:es[k]?=some es[k]:=List.getElem?_eq_getElem hlt
  have hmem:es[k]∈es:=List.getElem_mem hlt
  rw[List.drop_eq_getElem_cons hlt] at hg
  generalize es[k]=e at hke hmem hg
  simp only[QS] at hg
  have hV':=hV.ext hB hE
  obtain⟨id,o,y1,y2,y3,y4,-⟩:=hV'.idx hke
  have hB3:qc { h:=(s'.alloc (.cells [.str [],.raw (.int .i64 0),.raw (.int .i64 0),.str []] 34 0)).h.set s'.nx (.cells (celE e) 34 0),nx:=s'.nx+1 }:=zy hB'
  have hE3:Ext s' { h:=(s'.alloc (.cells [.str [],.raw (.int .i64 0),.raw (.int .i64 0),.str []] 34 0)).h.set s'.nx (.cells (celE e) 34 0),nx:=s'.nx+1 }:=Q7
  have c3:({ h:=(s'.alloc (.cells [.str [],.raw (.int .i64 0),.raw (.int .i64 0),.str []] 34 0)).h.set s'.nx (.cells (celE e) 34 0),nx:=s'.nx+1 }:St).h.get s'.nx=some (.cells (celE e) 34 0):=hs_same
  have R3:=R.ext hB' hE3
  have ew:IntKind.i64.wrap ((k:Int)+1)=((k+1:Nat):Int):=by
   rw[show (k:Int)+1=((k+1:Nat):Int) from by simp]
   exact qU (by omega)
  repeat (first|with_reducible (refine q9 H ?_;constructor)|simp only[rB,rP,rQ,q8,qa,q7,qb,reduceIte,reduceCtorEq,Nat.reduceAdd,Nat.reduceLT,Nat.reduceEqDiff,UInt8.reduceToNat,pe3,pf3,t3,t10,t11,t12,zJ,g0,y1,y2,y3,y4,YK,VN,YI,QM,Qe])
  refine Ya H hB3 R3 (hp e hmem) (fun s4 hF4 hB4 R4=>?_)
  repeat (first|with_reducible (refine q9 H ?_;constructor)|simp only[rB,rP,rQ,q8,qa,q7,qb,reduceIte,reduceCtorEq,Nat.reduceAdd,Nat.reduceLT,Nat.reduceEqDiff,UInt8.reduceToNat,pe3,pf3,t3,t10,t11,t12,qI,ew])
  exact ih n _ _ (Nat.lt_succ_self n) ⟨k+1,_,by omega,by simp only[rB,rP,rQ,q8,qa,q7,qb,reduceIte,reduceCtorEq,Nat.reduceAdd,Nat.reduceLT,Nat.reduceEqDiff,UInt8.reduceToNat,t3],by simp only[rB,rP,rQ,q8,qa,q7,qb,reduceIte,reduceCtorEq,Nat.reduceAdd,Nat.reduceLT,Nat.reduceEqDiff,UInt8.reduceToNat,t10],by simp only[rB,rP,rQ,q8,qa,q7,qb,reduceIte,reduceCtorEq,Nat.reduceAdd,Nat.reduceLT,Nat.reduceEqDiff,UInt8.reduceToNat,t11],by simp only[rB,rP,rQ,q8,qa,q7,qb,reduceIte,reduceCtorEq,Nat.reduceAdd,Nat.reduceLT,Nat.reduceEqDiff,UInt8.reduceToNat],hF4.ext (hE.trans hE3) (Nat.le_refl _) (by omega),hB4,R4,hg⟩
section
variable {e:Env} {pr:Prims} {r:Tasks} {rd:Option Nat} {a:Ac} {s:St} {k:Ac→St→Bool} {kp:AV→St→Bool} {dst:Option Tmp} {ty:TypeId} {pos:String} {after:Array Edge}
def qpl (e:Env) (s:St) (t:TypeId) (v:AV):Option (AV × St):=match e.info t,v with
  | some ti,.str b=>match ti.desc with
   | .string=>some (.ptr s.nx 0,s.alloc (.siter b 0 b))
   | _=>none
  | some ti,.map m=>match ti.desc,s.h.get m with
   | .map _ _,some (.map es)=>some (.ptr s.nx 0,{ h:=(s.h.set s.nx (.miter m [])).set m (.rmap es s.nx (zB es.length 0)),nx:=s.nx+1 })
   | _,_=>none
  | _,_=>none
theorem qnd {t:TypeId} {x:Operand}:QC e pr r rd ⟨dst,.range t x,ty,pos,after,none⟩ a s k kp=qlj (qpl e s t (a.eval x)) a dst k:=Q0 (e:=e) (o:=⟨dst,.range t x,ty,pos,after,none⟩) rfl
theorem qic {x:Operand}:QC e pr r rd ⟨dst,.next x false,ty,pos,after,none⟩ a s k kp=Kk s (a.eval x) (fun v s'=>zN a dst v s' k):=(rfl)
def q60 (o:Option (AV × List Nat)) (a:Ac) (dst:Option Tmp) (s:St) (k:Ac→St→Bool):Bool:=match o with
 | some (v,ids)=>bif QB s ids then zN a dst v s k else false
 | none=>false
theorem qlp {x:Operand}:QC e pr r rd ⟨dst,.entry x,ty,pos,after,none⟩ a s k kp=q60 (VE s (a.eval x)) a dst s k:=by
 show zA e ⟨dst,.entry x,ty,pos,after,none⟩ a s k=_
 have h:zp e a s ⟨dst,.entry x,ty,pos,after,none⟩=VE s (a.eval x):=rfl
 cases he:VE s (a.eval x) with
 | some q=>obtain⟨v,ids⟩:=q;exact Qz (h.trans he)
 | none=>exact (Zf (h.trans he)).trans rfl
end
theorem qz6 {s:St} {mp:Nat} {es:List (AV × AV)} (h:s.h.get mp=some (.map es)):qpl TE s 180 (.map mp)=some (.ptr s.nx 0,{ h:=(s.h.set s.nx (.miter mp [])).set mp (.rmap es s.nx (zB es.length 0)),nx:=s.nx+1 }):=by
 have e:qpl TE s 180 (.map mp)=(match s.h.get mp with
   | some (.map es)=>some (.ptr s.nx 0,{ h:=(s.h.set s.nx (.miter mp [])).set mp (.rmap es s.nx (zB es.length 0)),nx:=s.nx+1 })
   | _=>none):=by kernel_rfl
 rw[e,h]
theorem qda {s:St} {id m:Nat} {seen ix:List Nat} {es:List (AV × AV)} {k:AV→St→Bool} (hg:s.h.get id=some (.miter m seen)) (hm:s.h.get m=some (.rmap es id ix)) (hl:zE seen es ix=[]):Kk s (.ptr id 0) k=k (.tuple [.raw (.bool false)]) { s with h:=s.h.set m (.map es) }:=by
 simp only[Kk,hg,hm,Nat.beq_refl,cond_true,hl,q8]
theorem qej {s:St} {id m:Nat} {seen ix:List Nat} {es:List (AV × AV)} {k:AV→St→Bool} (hg:s.h.get id=some (.miter m seen)) (hm:s.h.get m=some (.rmap es id ix)) (hl:zE seen es ix≠[]):Kk s (.ptr id 0) k=(zE seen es ix).all fun q=>k (.tuple [.raw (.bool true),q.2.1,q.2.2]) { s with h:=s.h.set id (.miter m (q.1::seen)) }:=by
 simp only[Kk,hg,hm,Nat.beq_refl,cond_true,q8]
 cases h:zE seen es ix with
 | nil=>exact absurd h hl
 | cons q l=>rfl
theorem qix {s:St} {id m i:Nat} {seen ix:List Nat} {es:List (AV × AV)} {q:AV × AV} (hg:s.h.get id=some (.miter m (i::seen))) (hm:s.h.get m=some (.rmap es id ix)) (he:qrx i es ix=some q):VE s (.ptr id 0)=some (.tuple [q.1,q.2],[id,m]):=by
 simp only[VE,hg,hm,Nat.beq_refl,cond_true,he]
theorem qh1 {i:Nat} {seen:List Nat}:∀ {es:List (AV × AV)} {ix:List Nat},(zE (i::seen) es ix).length≤(zE seen es ix).length
 | [],_=>by simp[zE]
 | _::_,[]=>by simp[zE]
 | q::es,k::ix=>by
  have ih:=qh1 (i:=i) (seen:=seen) (es:=es) (ix:=ix)
  simp only[zE,qbs]
  cases h1:qbs k seen with
  | true=>cases Nat.beq k i <;> simp only[cond_true,cond_false] <;> exact ih
  | false=>cases Nat.beq k i <;> simp only[cond_true,cond_false,List.length_cons] <;> omega
theorem qco {i:Nat} {seen:List Nat} {y:AV × AV}:∀ {es:List (AV × AV)} {ix:List Nat},(i,y)∈zE seen es ix→(zE (i::seen) es ix).length < (zE seen es ix).length
 | [],_,h=>by simp[zE] at h
 | _::_,[],h=>by simp[zE] at h
 | q::es,k::ix,h=>by
  have ih:=fun h=>qco (i:=i) (seen:=seen) (y:=y) (es:=es) (ix:=ix) h
  have ile:=qh1 (i:=i) (seen:=seen) (es:=es) (ix:=ix)
  simp only[zE,qbs] at h ⊢
  cases h1:qbs k seen with
  | true =>
   rw[h1,cond_true] at h
   cases Nat.beq k i <;> simp only[cond_true,cond_false] <;> exact ih h
  | false =>
   rw[h1,cond_false] at h
   cases h2:Nat.beq k i with
   | true=>simp only[cond_true,cond_false,List.length_cons];omega
   | false =>
    simp only[cond_false,List.length_cons]
    rcases List.mem_cons.1 h with h|h
    ·cases h
     rw[Nat.beq_refl] at h2
     cases h2
    ·have:=ih h
     omega
theorem Kq {seen:List Nat}:∀ {es:List (AV × AV)} {ix:List Nat} {j:Nat},(zE seen (eraseL es j) (eraseL ix j)).length≤(zE seen es ix).length
 | [],_,_=>by simp[zE,eraseL]
 | _::_,[],_=>by
  have:∀ l:List (AV × AV),zE seen l []=[]:=fun l=>by cases l <;> rfl
  simp[eraseL,this]
 | q::es,k::ix,0=>by
  simp only[eraseL,zE]
  cases qbs k seen <;> simp
 | q::es,k::ix,j+1=>by
  have ih:=Kq (seen:=seen) (es:=es) (ix:=ix) (j:=j)
  simp only[eraseL,zE]
  cases qbs k seen <;> simp only[cond_true,cond_false,List.length_cons] <;> omega
theorem qbc:∀ {es:List (AV × AV)} {ix:List Nat} {j i:Nat} {q:AV × AV},ix.Nodup→es[j]?=some q→ix[j]?=some i→qrx i es ix=some q
 | [],_,_,_,_,_,h,_=>by simp at h
 | _::_,[],_,_,_,_,_,h=>by simp at h
 | r::es,k::ix,j,i,q,hn,h1,h2=>by
  simp only[qrx]
  cases j with
  | zero =>
   simp at h1 h2
   subst h1 h2
   rw[Nat.beq_refl,cond_true]
  | succ j =>
   simp at h1 h2
   have hk:Nat.beq k i=false:=by
    cases h:Nat.beq k i with
    | false=>rfl
    | true =>
     have:=Nat.eq_of_beq_eq_true h
     subst this
     exact absurd (List.mem_of_getElem? h2) (List.nodup_cons.1 hn).1
   rw[hk,cond_false]
   exact qbc (List.nodup_cons.1 hn).2 (by simpa using h1) (by simpa using h2)
theorem Jr:∀ {n i:Nat},(zB n i).length=n
 | 0,_=>rfl
 | n+1,i=>by simp[zB,Jr (n:=n)]
theorem qd5:∀ {n i j:Nat},j∈zB n i→i≤j
 | 0,_,_,h=>by simp[zB] at h
 | n+1,i,j,h=>by
  simp only[zB,List.mem_cons] at h
  rcases h with h|h
  ·omega
  ·have:=qd5 h;omega
theorem Yr:∀ {n i:Nat},(zB n i).Nodup
 | 0,_=>by simp[zB]
 | n+1,i=>by
  simp only[zB,List.nodup_cons]
  exact⟨fun h=>by have:=qd5 h;omega,Yr⟩
theorem Xu {α:Type}:∀ {l:List α} {n:Nat},eraseL l n=l.eraseIdx n
 | [],_=>by simp[eraseL]
 | _::_,0=>by simp[eraseL]
 | a::l,n+1=>by simp[eraseL,Xu (l:=l)]
theorem eqB_iffF {a b:List Nat}:eqB a b=true↔a=b:=by rw[qG,decide_eq_true_eq]
theorem XB {α:Type}:∀ {l:List (List Nat × α)} {j:Nat} {p:List Nat} {v:α},(l.map (·.1)).Nodup→l[j]?=some (p,v)→(l.findIdx fun q=>eqB p q.1)=j∧qz p l=some v∧Y0 p l=l.eraseIdx j
 | [],_,_,_,_,h=>by simp at h
 | (q,w)::l,0,p,v,_,h=>by
  simp at h
  obtain⟨rfl,rfl⟩:=h
  have:eqB q q=true:=eqB_iffF.2 rfl
  simp[List.findIdx_cons,qz,Y0,this]
 | (q,w)::l,j+1,p,v,hn,h=>by
  simp at h
  simp only[List.map_cons,List.nodup_cons] at hn
  have hne:eqB p q=false:=by
   cases he:eqB p q with
   | false=>rfl
   | true =>
    have:=eqB_iffF.1 he
    subst this
    exact absurd (List.mem_map.2 ⟨_,List.mem_of_getElem? h,rfl⟩) hn.1
  obtain⟨i1,i2,i3⟩:=XB hn.2 h
  simp[List.findIdx_cons,qz,Y0,hne,i1,i2,i3]
end Go.AX
namespace Go.AX
open Go.Proofs Go.RowKit
set_option maxRecDepth 1000000
set_option maxHeartbeats 400000000
set_option linter.unusedSimpArgs false
set_option linter.unusedVariables false
def Xj (p q:List Nat):Bool:=hpB q (p++[47])
structure GI (N:List (List Nat × En)) (p:List Nat) (l:List (List Nat × En)) (ix seen:List Nat) (D:List (List Nat)):Prop where
 nd:ix.Nodup
 ln:ix.length=l.length
 kn:(l.map (·.1)).Nodup
 fl:l.filter (fun q=>!Xj p q.1)=N.filter (fun q=>!Xj p q.1)
 sn:∀ x∈ix.zip l,x.1∈seen→Xj p x.2.1=false
 dm:∀ d,d∈D↔d∈N.map (·.1)∧d∉l.map (·.1)
 db:∀ d∈D,Xj p d=true
theorem GI.init {N:List (List Nat × En)} {p:List Nat} (h:(N.map (·.1)).Nodup):GI N p N (zB N.length 0) [] [] :=
 ⟨Yr,Jr,h,rfl,fun _ _ h=>(by cases h),fun d=>(by simp),fun _ h=>(by cases h)⟩
theorem GI.keep {N:List (List Nat × En)} {p:List Nat} {l:List (List Nat × En)} {ix seen:List Nat} {D:List (List Nat)} (G:GI N p l ix seen D) {j i:Nat} {x:List Nat × En} (h1:ix[j]?=some i) (h2:l[j]?=some x) (hb:Xj p x.1=false):GI N p l ix (i::seen) D:=by
 refine⟨G.nd,G.ln,G.kn,G.fl,fun y hy hs=>?_,G.dm,G.db⟩
 rcases List.mem_cons.1 hs with h|h
 ·obtain⟨j',hj'⟩:=List.mem_iff_getElem?.1 hy
  obtain⟨a1,a2⟩:=List.getElem?_zip_eq_some.1 hj'
  rw[h] at a1
  have hl1:j' < ix.length:=(List.getElem?_eq_some_iff.1 a1).1
  have hl2:j < ix.length:=(List.getElem?_eq_some_iff.1 h1).1
  have e1:=(List.getElem?_eq_some_iff.1 a1).2
  have e2:=(List.getElem?_eq_some_iff.1 h1).2
  have:j'=j:=(List.getElem_inj G.nd).1 (e1.trans e2.symm)
  subst this
  rw[a2] at h2
  cases h2
  exact hb
 ·exact G.sn y hy h
theorem VB {α:Type} {P:α→Bool}:∀ {l:List α} {j:Nat} {x:α},l[j]?=some x→P x=false→(l.eraseIdx j).filter P=l.filter P
 | [],_,_,h,_=>by simp at h
 | a::l,0,x,h,hp=>by
  simp at h
  subst h
  simp[List.eraseIdx,hp]
 | a::l,j+1,x,h,hp=>by
  have ih:=VB (P:=P) (l:=l) (j:=j) (x:=x) (by simpa using h) hp
  simp only[List.eraseIdx_cons_succ,List.filter_cons,ih]
theorem Wh {α:Type}:∀ {l:List α} {j:Nat} {x y:α},l.Nodup→l[j]?=some x→(y∈l.eraseIdx j↔y∈l∧y≠x)
 | [],_,_,_,_,h=>by simp at h
 | a::l,0,x,y,hn,h=>by
  simp at h
  subst h
  simp only[List.eraseIdx_cons_zero,List.mem_cons]
  have:=(List.nodup_cons.1 hn).1
  constructor
  ·intro hy
   exact⟨Or.inr hy,fun e=>this (e ▸ hy)⟩
  ·rintro⟨h1|h1,h2⟩
   ·exact absurd h1 h2
   ·exact h1
 | a::l,j+1,x,y,hn,h=>by
  have h':l[j]?=some x:=by simpa using h
  have ih:=Wh (y:=y) (List.nodup_cons.1 hn).2 h'
  have hax:a≠x:=fun e=>(List.nodup_cons.1 hn).1 (e ▸ List.mem_of_getElem? h')
  simp only[List.eraseIdx_cons_succ,List.mem_cons,ih]
  constructor
  ·rintro (h1|h1)
   ·exact⟨Or.inl h1,fun e=>hax (h1 ▸ e)⟩
   ·exact⟨Or.inr h1.1,h1.2⟩
  ·rintro⟨h1|h1,h2⟩
   ·exact Or.inl h1
   ·exact Or.inr ⟨h1,h2⟩
theorem K9 {α β:Type}:∀ {l:List α} {m:List β} {j:Nat},(l.eraseIdx j).zip (m.eraseIdx j)=(l.zip m).eraseIdx j
 | [],_,_=>by simp
 | _::_,[],_=>by simp
 | a::l,b::m,0=>by simp
 | a::l,b::m,j+1=>by simp[K9 (l:=l) (m:=m)]
theorem J2 {α β:Type} {f:α→β}:∀ {l:List α} {j:Nat},(l.eraseIdx j).map f=(l.map f).eraseIdx j
 | [],_=>by simp
 | a::l,0=>by simp
 | a::l,j+1=>by simp[J2 (l:=l)]
theorem GI.del {N:List (List Nat × En)} {p:List Nat} {l:List (List Nat × En)} {ix seen:List Nat} {D:List (List Nat)} (G:GI N p l ix seen D) (hsub:∀ d∈l.map (·.1),d∈N.map (·.1)) {j i:Nat} {x:List Nat × En} (h1:ix[j]?=some i) (h2:l[j]?=some x) (hb:Xj p x.1=true):GI N p (l.eraseIdx j) (ix.eraseIdx j) (i::seen) (D++[x.1]):=by
 have hx:(l.map (·.1))[j]?=some x.1:=by rw[List.getElem?_map,h2];rfl
 have hj:j < l.length:=(List.getElem?_eq_some_iff.1 h2).1
 refine⟨G.nd.sublist (List.eraseIdx_sublist ..),?_,?_,?_,fun y hy hs=>?_,fun d=>?_,fun d hd=>?_⟩
 ·rw[List.length_eraseIdx_of_lt hj,List.length_eraseIdx_of_lt (by rw[G.ln];exact hj),G.ln]
 ·rw[J2]
  exact G.kn.sublist (List.eraseIdx_sublist ..)
 ·rw[VB h2 (by rw[hb];rfl)]
  exact G.fl
 ·rw[K9] at hy
  have hy2:=(List.eraseIdx_sublist ..).mem hy
  rcases List.mem_cons.1 hs with h|h
  ·exfalso
   have:y.1∈ix.eraseIdx j:=by
    rw[← K9] at hy
    exact (List.of_mem_zip (a:=y.1) (b:=y.2) hy).1
   exact ((Wh G.nd h1).1 this).2 h
  ·exact G.sn y hy2 h
 ·rw[J2,Wh G.kn hx,List.mem_append,G.dm,List.mem_singleton]
  constructor
  ·rintro (⟨a1,a2⟩|rfl)
   ·exact⟨a1,fun h=>a2 h.1⟩
   ·exact⟨hsub _ (List.mem_of_getElem? hx),fun h=>h.2 rfl⟩
  ·rintro⟨a1,a2⟩
   by_cases hd:d=x.1
   ·exact Or.inr hd
   ·exact Or.inl ⟨a1,fun h=>a2 ⟨h,hd⟩⟩
 ·rcases List.mem_append.1 hd with h|h
  ·exact G.db d h
  ·rw[List.mem_singleton.1 h]
   exact hb
theorem GI.fin {N:List (List Nat × En)} {p:List Nat} {l:List (List Nat × En)} {ix seen:List Nat} {D:List (List Nat)} (G:GI N p l ix seen D) (h:zE seen (zn agE l) ix=[]):l=N.filter (fun q=>!Xj p q.1)∧∀ d,d∈D↔d∈N.map (·.1)∧Xj p d=true:=by
 have all:∀ x∈l,Xj p x.1=false:=by
  intro x hx
  obtain⟨j,hj⟩:=List.mem_iff_getElem?.1 hx
  have hjl:j < l.length:=(List.getElem?_eq_some_iff.1 hj).1
  have hi:ix[j]?=some (ix[j]'(by rw[G.ln];exact hjl)):=List.getElem?_eq_getElem _
  generalize ix[j]'(by rw[G.ln];exact hjl)=i at hi
  by_cases hs:i∈seen
  ·refine G.sn (i,x) ?_ hs
   exact List.mem_iff_getElem?.2 ⟨j,List.getElem?_zip_eq_some.2 ⟨hi,hj⟩⟩
  ·have:=W0 (es:=zn agE l) (q:=(.str x.1,agE x.2)) (by simp[zn,hj]) hi hs
   rw[h] at this
   cases this
 refine⟨?_,fun d=>⟨fun hd=>⟨((G.dm d).1 hd).1,G.db d hd⟩,fun hd=>(G.dm d).2 ⟨hd.1,fun hm=>?_⟩⟩⟩
 ·rw[← G.fl]
  refine (List.filter_eq_self.2 fun x hx=>?_).symm
  rw[all x hx]
  rfl
 ·obtain⟨x,hx,rfl⟩:=List.mem_map.1 hm
  rw[all x hx] at hd
  cases hd.2
theorem FR.delK {s:St} {fb nb kb:Nat} {N:List (List Nat × En)} {K:List (List Nat × Int)} (R:FR s fb nb kb N K) (hB:qc s) {p:List Nat}:∃ s2,QU TE s [181,9] [.map kb,.str p]=some s2∧FR s2 fb nb kb N (Y0 p K)∧FrF nb kb s s2∧qc s2:=by
 rw[q0w R.k]
 cases h:qz p K with
 | none=>exact⟨_,rfl,by rw[X9 _ h];exact R,FrF.refl _,hB⟩
 | some v=>exact⟨_,rfl,R.setK,FrF.put (Or.inr rfl),qn hB (hB _ _ R.k) _⟩
theorem FR.delN {s:St} {fb nb kb:Nat} {N:List (List Nat × En)} {K:List (List Nat × Int)} (R:FR s fb nb kb N K) (hB:qc s) {p:List Nat}:∃ s2,QU TE s [180,9] [.map nb,.str p]=some s2∧FR s2 fb nb kb (Y0 p N) K∧FrF nb kb s s2∧qc s2:=by
 rw[q5c R.n]
 cases h:qz p N with
 | none=>exact⟨_,rfl,by rw[X9 _ h];exact R,FrF.refl _,hB⟩
 | some v=>exact⟨_,rfl,R.setN,FrF.put (Or.inl rfl),qn hB (hB _ _ R.n) _⟩
theorem FrF.trans' {nb kb:Nat} {s s1 s2:St} (h:FrF nb kb s s1) (h':s2.nx=s1.nx∧∀ i,i < s.nx→i≠nb→i≠kb→s2.h.get i=s1.h.get i):FrF nb kb s s2:=⟨by rw[h'.1];exact h.1,fun i hi h1 h2=>(h'.2 i hi h1 h2).trans (h.2 i hi h1 h2)⟩
structure LR (s:St) (fb nb kb it:Nat) (l:List (List Nat × En)) (ix seen:List Nat) (K:List (List Nat × Int)):Prop where
 f:s.h.get fb=some (.cells [.map nb,.map kb] 183 0)
 n:s.h.get nb=some (.rmap (zn agE l) it ix)
 i:s.h.get it=some (.miter nb seen)
 k:s.h.get kb=some (.map (zn qhi K))
theorem LR.ne {s:St} {fb nb kb it:Nat} {l:List (List Nat × En)} {ix seen:List Nat} {K:List (List Nat × Int)} (R:LR s fb nb kb it l ix seen K):fb≠nb∧fb≠it∧fb≠kb∧nb≠it∧nb≠kb∧it≠kb:=by
 refine⟨?_,?_,?_,?_,?_,?_⟩
 ·intro h;have:=R.f;rw[h,R.n] at this;cases this
 ·intro h;have:=R.f;rw[h,R.i] at this;cases this
 ·intro h;have:=R.f;rw[h,R.k] at this;cases this
 ·intro h;have:=R.n;rw[h,R.i] at this;cases this
 ·intro h;have:=R.n;rw[h,R.k] at this;cases this
 ·intro h;have:=R.i;rw[h,R.k] at this;cases this
theorem LR.seen {s:St} {fb nb kb it:Nat} {l:List (List Nat × En)} {ix seen seen':List Nat} {K:List (List Nat × Int)} (R:LR s fb nb kb it l ix seen K):LR { s with h:=s.h.set it (.miter nb seen') } fb nb kb it l ix seen' K :=
 have N:=R.ne
 ⟨(qe N.2.1).trans R.f,(qe N.2.2.2.1).trans R.n,hs_same,(qe N.2.2.2.2.2.symm).trans R.k⟩
theorem LR.delN {s:St} {fb nb kb it:Nat} {l l':List (List Nat × En)} {ix ix' seen:List Nat} {K:List (List Nat × Int)} (R:LR s fb nb kb it l ix seen K):LR { s with h:=s.h.set nb (.rmap (zn agE l') it ix') } fb nb kb it l' ix' seen K :=
 have N:=R.ne
 ⟨(qe N.1).trans R.f,hs_same,(qe N.2.2.2.1.symm).trans R.i,(qe N.2.2.2.2.1.symm).trans R.k⟩
theorem LR.delK {s:St} {fb nb kb it:Nat} {l:List (List Nat × En)} {ix seen:List Nat} {K:List (List Nat × Int)} (R:LR s fb nb kb it l ix seen K) (hB:qc s) {p:List Nat}:∃ s2,QU TE s [181,9] [.map kb,.str p]=some s2∧LR s2 fb nb kb it l ix seen (Y0 p K)∧FrF nb kb s s2∧qc s2:=by
 rw[q0w R.k]
 cases h:qz p K with
 | none=>exact⟨_,rfl,by rw[X9 _ h];exact R,FrF.refl _,hB⟩
 | some v =>
  have N:=R.ne
  exact⟨_,rfl,⟨(qe N.2.2.1).trans R.f,(qe N.2.2.2.2.1).trans R.n,(qe N.2.2.2.2.2).trans R.i,hs_same⟩,FrF.put (Or.inr rfl),qn hB (hB _ _ R.k) _⟩
def Yy (D:List (List Nat)) (K:List (List Nat × Int)):List (List Nat × Int):=D.foldl (fun K q=>Y0 q K) K
def GoneD (N:List (List Nat × En)) (K:List (List Nat × Int)) (p:List Nat) (D:List (List Nat)) (N1:List (List Nat × En)):Prop :=
 (bif decide ((qz p K).getD 0 > 0) then true else false)=true∧N1=N.filter (fun q=>!Xj p q.1)∧(∀ d,d∈D↔d∈N.map (·.1)∧Xj p d=true) ∨
 (bif decide ((qz p K).getD 0 > 0) then true else false)=false∧N1=N∧D=[]
theorem YR {s:St} (H:Ok TE Tryz.prog pr3) (hB:qc s) {fb nb kb:Nat} {N:List (List Nat × En)} {K:List (List Nat × Int)} (R:FR s fb nb kb N K) (hN:(N.map (·.1)).Nodup) {p:List Nat} (hp:p.length≤1000000) {kr kp:AV→St→Bool}
  (hk:∀ (s':St) (DN:List (List Nat) × List (List Nat × En)),FrF nb kb s s'→qc s'→GoneD N K p DN.1 DN.2→FR s' fb nb kb (Y0 p DN.2) (JX (upE p) (-1) (Y0 p (Yy DN.1 K)))→kr (.tuple []) s'=true) :
  (sem Tryz.prog).call 144 [.ptr fb 0,.str p] s kr kp=true:=by
 refine qp H 53 q0h rfl rfl ?_
 have f1:=R.f
 have l1:=qr9 (p:=p) R.k
 have ia1:∀ b,inO (s.h.get kb) b=b:=fun b=>by rw[R.k];rfl
 cases g1:decide ((qz p K).getD 0 > 0) with
 | false =>
  have R4:=R
  have B4:=hB
  have F4:FrF nb kb s s:=FrF.refl s
  have HD:GoneD N K p [] N:=Or.inr ⟨by rw[g1];rfl,rfl,rfl⟩
  repeat (first|with_reducible (refine q9 H ?_;constructor)|simp only[rB,rP,rQ,q8,qa,q7,qb,reduceIte,reduceCtorEq,Nat.reduceAdd,Nat.reduceLT,Nat.reduceEqDiff,UInt8.reduceToNat,pe3,pf3,qT,YB,qC,QL,f1,l1,ia1,zD,g1])
  -- the tail
  obtain⟨s5,d5,R5,F5,B5⟩:=R4.delK (p:=p) B4
  have f4:=R4.f
  repeat (first|with_reducible (refine q9 H ?_;constructor)|simp only[rB,rP,rQ,q8,qa,q7,qb,reduceIte,reduceCtorEq,Nat.reduceAdd,Nat.reduceLT,Nat.reduceEqDiff,UInt8.reduceToNat,pe3,pf3,qT,YB,qC,QL,f4,d5])
  obtain⟨s6,d6,R6,F6,B6⟩:=R5.delN (p:=p) B5
  have f5:=R5.f
  repeat (first|with_reducible (refine q9 H ?_;constructor)|simp only[rB,rP,rQ,q8,qa,q7,qb,reduceIte,reduceCtorEq,Nat.reduceAdd,Nat.reduceLT,Nat.reduceEqDiff,UInt8.reduceToNat,pe3,pf3,qT,YB,qC,QL,f5,d6])
  have f6:=R6.f
  have u6:=qvx (p:=upE p) (j:=IntKind.i64.wrap ((qz (upE p) (Y0 p K)).getD 0+(-1))) R6.k
  have l6:=qr9 (p:=upE p) R6.k
  have ia:∀ b,inO (s6.h.get kb) b=b:=fun b=>by rw[R6.k];rfl
  have em:∀ x:Int,x - 1=x+(-1):=fun x=>rfl
  repeat (first|with_reducible (refine q9 H ?_;constructor)|simp only[rB,rP,rQ,q8,qa,q7,qb,reduceIte,reduceCtorEq,Nat.reduceAdd,Nat.reduceLT,Nat.reduceEqDiff,UInt8.reduceToNat,pe3,pf3,qT,YB,qC,QL,f6,l6,ia]|(with_reducible refine qy H (i:=9) (.take 0 (.take 1 (.take 2 (.take 3 (.take 4 (.alt 5 [4] (.take 6 (.take 7 (.alt 8 [0,1,2,3,4,5,6,7] (.done) (.yes)))) (.yes))))))) rfl (by kernel_rfl) ?_))
  refine qcg H hp ?_
  repeat (first|with_reducible (refine q9 H ?_;constructor)|simp only[rB,rP,rQ,q8,qa,q7,qb,reduceIte,reduceCtorEq,Nat.reduceAdd,Nat.reduceLT,Nat.reduceEqDiff,UInt8.reduceToNat,pe3,pf3,qT,YB,qC,QL,f6,l6,ia,u6,zf,em,Tryz.results144]|(with_reducible refine qy H (i:=9) (.take 0 (.take 1 (.take 2 (.take 3 (.take 4 (.alt 5 [4] (.take 6 (.take 7 (.alt 8 [0,1,2,3,4,5,6,7] (.done) (.yes)))) (.yes))))))) rfl (by kernel_rfl) ?_))
  exact hk _ ([],N) (((F4.trans F5).trans F6).trans (FrF.put (Or.inr rfl))) (qn B6 (B6 _ _ R6.k) _) HD R6.setK
 | true =>
  have rg:=qz6 R.n
  have hs:=hB _ _ R.n
  have hsk:=hB _ _ R.k
  have hsf:=hB _ _ R.f
  repeat (first|with_reducible (refine q9 H ?_;constructor)|simp only[rB,rP,rQ,q8,qa,q7,qb,reduceIte,reduceCtorEq,Nat.reduceAdd,Nat.reduceLT,Nat.reduceEqDiff,UInt8.reduceToNat,pe3,pf3,qT,YB,qC,QL,f1,l1,ia1,zD,g1,qnd,rg])
  have L0:LR { h:=(s.h.set s.nx (.miter nb [])).set nb (.rmap (zn agE N) s.nx (zB (zn agE N).length 0)),nx:=s.nx+1 } fb nb kb s.nx N (zB N.length 0) [] K:=by
   have el:(zn agE N).length=N.length:=by simp[zn]
   rw[el]
   exact⟨(qe R.fn).trans ((qe (by omega)).trans R.f),hs_same,(qe (by omega)).trans hs_same,(qe R.d.symm).trans ((qe (by omega)).trans R.k)⟩
  have F0:FrF nb kb s { h:=(s.h.set s.nx (.miter nb [])).set nb (.rmap (zn agE N) s.nx (zB (zn agE N).length 0)),nx:=s.nx+1 } :=
   ⟨Nat.le_succ _,fun i hi h1 _=>(qe h1).trans (qe (by omega))⟩
  have B0:qc { h:=(s.h.set s.nx (.miter nb [])).set nb (.rmap (zn agE N) s.nx (zB (zn agE N).length 0)),nx:=s.nx+1 }:=by
   have:=qx hB (.miter nb [])
   exact qn this (by show nb < s.nx+1;omega) _
  refine qB H (fun n t s'=>∃ l ix seen D,n=(zE seen (zn agE l) ix).length∧tg t 0=.ptr fb 0∧tg t 1=.str p∧tg t 16=.ptr s.nx 0∧LR s' fb nb kb s.nx l ix seen (Yy D K)∧FrF nb kb s s'∧qc s'∧GI N p l ix seen D∧∀ d∈l.map (·.1),d∈N.map (·.1)) (n:=(zE [] (zn agE N) (zB N.length 0)).length)
   ⟨N,zB N.length 0,[],[],rfl,by simp only[rB,rP,rQ,q8,qa,q7,qb,reduceIte,reduceCtorEq,Nat.reduceAdd,Nat.reduceLT,Nat.reduceEqDiff,UInt8.reduceToNat],by simp only[rB,rP,rQ,q8,qa,q7,qb,reduceIte,reduceCtorEq,Nat.reduceAdd,Nat.reduceLT,Nat.reduceEqDiff,UInt8.reduceToNat],by simp only[rB,rP,rQ,q8,qa,q7,qb,reduceIte,reduceCtorEq,Nat.reduceAdd,Nat.reduceLT,Nat.reduceEqDiff,UInt8.reduceToNat],L0,F0,B0,GI.init hN,fun _ h=>h⟩ ?_
  rintro n t s' ih ⟨l,ix,seen,D,hn,t0,t1,t16,L,hF,hB',G,hsub⟩
  cases hl:zE seen (zn agE l) ix with
  | nil =>
   have nk:=fun {k}=>qda (k:=k) L.i L.n hl
   have hfin:=G.fin hl
   have NE:=L.ne
   have R4:FR { s' with h:=s'.h.set nb (.map (zn agE l)) } fb nb kb l (Yy D K):=⟨(qe NE.1).trans L.f,hs_same,(qe NE.2.2.2.2.1.symm).trans L.k,NE.2.2.2.2.1⟩
   have B4:qc { s' with h:=s'.h.set nb (.map (zn agE l)) }:=qn hB' (hB' _ _ L.n) _
   have F4:FrF nb kb s { s' with h:=s'.h.set nb (.map (zn agE l)) }:=hF.trans (FrF.put (Or.inl rfl))
   have HD:GoneD N K p D l:=Or.inl ⟨by rw[g1];rfl,hfin.1,hfin.2⟩
   generalize ({ s' with h:=s'.h.set nb (.map (zn agE l)) }:St)=s4 at *
   repeat (first|with_reducible (refine q9 H ?_;constructor)|simp only[rB,rP,rQ,q8,qa,q7,qb,reduceIte,reduceCtorEq,Nat.reduceAdd,Nat.reduceLT,Nat.reduceEqDiff,UInt8.reduceToNat,pe3,pf3,qT,YB,qC,QL,t0,t1,t16,qic,nk])
   -- the tail
   obtain⟨s5,d5,R5,F5,B5⟩:=R4.delK (p:=p) B4
   have f4:=R4.f
   repeat (first|with_reducible (refine q9 H ?_;constructor)|simp only[rB,rP,rQ,q8,qa,q7,qb,reduceIte,reduceCtorEq,Nat.reduceAdd,Nat.reduceLT,Nat.reduceEqDiff,UInt8.reduceToNat,pe3,pf3,qT,YB,qC,QL,t0,t1,f4,d5])
   obtain⟨s6,d6,R6,F6,B6⟩:=R5.delN (p:=p) B5
   have f5:=R5.f
   repeat (first|with_reducible (refine q9 H ?_;constructor)|simp only[rB,rP,rQ,q8,qa,q7,qb,reduceIte,reduceCtorEq,Nat.reduceAdd,Nat.reduceLT,Nat.reduceEqDiff,UInt8.reduceToNat,pe3,pf3,qT,YB,qC,QL,t0,t1,f5,d6])
   have f6:=R6.f
   have u6:=qvx (p:=upE p) (j:=IntKind.i64.wrap ((qz (upE p) (Y0 p (Yy D K))).getD 0+(-1))) R6.k
   have l6:=qr9 (p:=upE p) R6.k
   have ia:∀ b,inO (s6.h.get kb) b=b:=fun b=>by rw[R6.k];rfl
   have em:∀ x:Int,x - 1=x+(-1):=fun x=>rfl
   repeat (first|with_reducible (refine q9 H ?_;constructor)|simp only[rB,rP,rQ,q8,qa,q7,qb,reduceIte,reduceCtorEq,Nat.reduceAdd,Nat.reduceLT,Nat.reduceEqDiff,UInt8.reduceToNat,pe3,pf3,qT,YB,qC,QL,t0,t1,f6,l6,ia]|(with_reducible refine qy H (i:=9) (.take 0 (.take 1 (.take 2 (.take 3 (.take 4 (.alt 5 [4] (.take 6 (.take 7 (.alt 8 [0,1,2,3,4,5,6,7] (.done) (.yes)))) (.yes))))))) rfl (by kernel_rfl) ?_))
   refine qcg H hp ?_
   repeat (first|with_reducible (refine q9 H ?_;constructor)|simp only[rB,rP,rQ,q8,qa,q7,qb,reduceIte,reduceCtorEq,Nat.reduceAdd,Nat.reduceLT,Nat.reduceEqDiff,UInt8.reduceToNat,pe3,pf3,qT,YB,qC,QL,t0,t1,f6,l6,ia,u6,zf,em,Tryz.results144]|(with_reducible refine qy H (i:=9) (.take 0 (.take 1 (.take 2 (.take 3 (.take 4 (.alt 5 [4] (.take 6 (.take 7 (.alt 8 [0,1,2,3,4,5,6,7] (.done) (.yes)))) (.yes))))))) rfl (by kernel_rfl) ?_))
   exact hk _ (D,l) (((F4.trans F5).trans F6).trans (FrF.put (Or.inr rfl))) (qn B6 (B6 _ _ R6.k) _) HD R6.setK
  | cons y0 ys =>
   have nk:=fun {k}=>qej (k:=k) L.i L.n (by rw[hl];simp)
   repeat (first|with_reducible (refine q9 H ?_;constructor)|simp only[rB,rP,rQ,q8,qa,q7,qb,reduceIte,reduceCtorEq,Nat.reduceAdd,Nat.reduceLT,Nat.reduceEqDiff,UInt8.reduceToNat,pe3,pf3,qT,YB,qC,QL,t0,t1,t16,qic,nk])
   refine List.all_eq_true.2 (fun q hq=>?_)
   obtain⟨j,j1,j2,j3⟩:=Xn hq
   obtain⟨i,kv⟩:=q
   simp only at j1 j2 j3 hq ⊢
   obtain⟨x,hx⟩:∃ x,l[j]?=some x:=by
    simp only[zn,List.getElem?_map] at j1
    cases hx:l[j]? with
    | none=>rw[hx] at j1;cases j1
    | some x=>exact⟨x,rfl⟩
   have hkv:kv=(.str x.1,agE x.2):=by
    simp only[zn,List.getElem?_map,hx,Option.map_some,Option.some.injEq] at j1
    exact j1.symm
   subst hkv
   have hlt:=qco hq
   have L1:=L.seen (seen':=i::seen)
   have B1:qc { s' with h:=s'.h.set s.nx (.miter nb (i::seen)) }:=qn hB' (hB' _ _ L.i) _
   have F1:FrF nb kb s { s' with h:=s'.h.set s.nx (.miter nb (i::seen)) }:=by
    refine hF.trans' ?_
    exact⟨rfl,fun z hz h1 h2=>qe (by omega)⟩
   generalize ({ s' with h:=s'.h.set s.nx (.miter nb (i::seen)) }:St)=s1 at *
   have en:=qix L1.i L1.n (qbc G.nd j1 j2)
   have ids:QB s1 [s.nx,nb]=true:=by simp[QB,L1.i,L1.n]
   have f1:qE .add (.str p) (.str [47])=some (.str (p++[47])):=JJ (by simp;omega)
   repeat (first|with_reducible (refine q9 H ?_;constructor)|simp only[rB,rP,rQ,q8,qa,q7,qb,reduceIte,reduceCtorEq,Nat.reduceAdd,Nat.reduceLT,Nat.reduceEqDiff,UInt8.reduceToNat,pe3,pf3,qT,YB,qC,QL,t0,t1,t16,qlp,en,q60,ids,cond_true,f1])
   refine qy7 H ?_
   have hb:hpB x.1 (p++[47])=Xj p x.1:=rfl
   rw[hb]
   cases hbel:Xj p x.1 with
   | false =>
    have G1:=G.keep j2 hx hbel
    repeat (first|with_reducible (refine q9 H ?_;constructor)|simp only[rB,rP,rQ,q8,qa,q7,qb,reduceIte,reduceCtorEq,Nat.reduceAdd,Nat.reduceLT,Nat.reduceEqDiff,UInt8.reduceToNat,pe3,pf3,qT,YB,qC,QL,t0,t1,t16])
    exact ih _ _ _ (by rw[hn];exact hlt) ⟨l,ix,i::seen,D,rfl,by simp only[rB,rP,rQ,q8,qa,q7,qb,reduceIte,reduceCtorEq,Nat.reduceAdd,Nat.reduceLT,Nat.reduceEqDiff,UInt8.reduceToNat,t0],by simp only[rB,rP,rQ,q8,qa,q7,qb,reduceIte,reduceCtorEq,Nat.reduceAdd,Nat.reduceLT,Nat.reduceEqDiff,UInt8.reduceToNat,t1],by simp only[rB,rP,rQ,q8,qa,q7,qb,reduceIte,reduceCtorEq,Nat.reduceAdd,Nat.reduceLT,Nat.reduceEqDiff,UInt8.reduceToNat,t16],L1,F1,B1,G1,hsub⟩
   | true =>
    have G1:=G.del hsub j2 hx hbel
    obtain⟨g2,g3,g4⟩:=XB G.kn (show l[j]?=some (x.1,x.2) from hx)
    have dn:=q7g (p:=x.1) L1.n
    rw[g3,g2,g4] at dn
    simp only at dn
    have L2:=L1.delN (l':=l.eraseIdx j) (ix':=eraseL ix j)
    have B2:qc { s1 with h:=s1.h.set nb (.rmap (zn agE (l.eraseIdx j)) s.nx (eraseL ix j)) }:=qn B1 (B1 _ _ L1.n) _
    have F2:FrF nb kb s { s1 with h:=s1.h.set nb (.rmap (zn agE (l.eraseIdx j)) s.nx (eraseL ix j)) }:=F1.trans (FrF.put (Or.inl rfl))
    have f1:=L1.f
    generalize ({ s1 with h:=s1.h.set nb (.rmap (zn agE (l.eraseIdx j)) s.nx (eraseL ix j)) }:St)=s2 at *
    repeat (first|with_reducible (refine q9 H ?_;constructor)|simp only[rB,rP,rQ,q8,qa,q7,qb,reduceIte,reduceCtorEq,Nat.reduceAdd,Nat.reduceLT,Nat.reduceEqDiff,UInt8.reduceToNat,pe3,pf3,qT,YB,qC,QL,t0,t1,t16,f1,dn])
    obtain⟨s3,d3,L3,F3,B3⟩:=L2.delK (p:=x.1) B2
    have f2:=L2.f
    repeat (first|with_reducible (refine q9 H ?_;constructor)|simp only[rB,rP,rQ,q8,qa,q7,qb,reduceIte,reduceCtorEq,Nat.reduceAdd,Nat.reduceLT,Nat.reduceEqDiff,UInt8.reduceToNat,pe3,pf3,qT,YB,qC,QL,t0,t1,t16,f2,d3])
    rw[Xu] at L3
    have hme:(zE (i::seen) (zn agE (l.eraseIdx j)) (ix.eraseIdx j)).length < n:=by
     have e1:zn agE (l.eraseIdx j)=eraseL (zn agE l) j:=by rw[Xu,zn,zn,J2]
     rw[e1,← Xu,hn]
     exact Nat.lt_of_le_of_lt Kq hlt
    have eD:Y0 x.1 (Yy D K)=Yy (D++[x.1]) K:=by simp[Yy,List.foldl_append]
    rw[eD] at L3
    exact ih _ _ _ hme ⟨l.eraseIdx j,ix.eraseIdx j,i::seen,D++[x.1],rfl,by simp only[rB,rP,rQ,q8,qa,q7,qb,reduceIte,reduceCtorEq,Nat.reduceAdd,Nat.reduceLT,Nat.reduceEqDiff,UInt8.reduceToNat,t0],by simp only[rB,rP,rQ,q8,qa,q7,qb,reduceIte,reduceCtorEq,Nat.reduceAdd,Nat.reduceLT,Nat.reduceEqDiff,UInt8.reduceToNat,t1],by simp only[rB,rP,rQ,q8,qa,q7,qb,reduceIte,reduceCtorEq,Nat.reduceAdd,Nat.reduceLT,Nat.reduceEqDiff,UInt8.reduceToNat,t16],L3,F2.trans F3,B3,G1,fun d hd=>hsub d (by rw[J2] at hd;exact (List.eraseIdx_sublist ..).mem hd)⟩
def kd5 (e:En):En:=(e.1,bif e.2.1==5 then 1 else e.2.1,e.2.2.1,e.2.2.2)
inductive ApR (N:List (List Nat × En)) (K:List (List Nat × Int)) (e:En):Bool→List (List Nat × En)→List (List Nat × Int)→Prop where
 | up:eqB (upE e.1) []=false→(((qz (upE e.1) N).getD enZ).2.1 != 1)=true→ApR N K e false N K
 | gone0:e.2.1=4→qz e.1 N=none→ApR N K e false N K
 | mode (old:En):(eqB (upE e.1) []=true∨(((qz (upE e.1) N).getD enZ).2.1 != 1)=false)→qz e.1 N=some old→e.2.1=1→old.2.1=1→ApR N K e true (Y5 e.1 (old.1,old.2.1,e.2.2.1,old.2.2.2) N) K
 | gone1 (old:En) (D:List (List Nat)) (N1:List (List Nat × En)):(eqB (upE e.1) []=true∨(((qz (upE e.1) N).getD enZ).2.1 != 1)=false)→qz e.1 N=some old→e.2.1=4→GoneD N K e.1 D N1→ApR N K e true (Y0 e.1 N1) (JX (upE e.1) (-1) (Y0 e.1 (Yy D K)))
 | over (old:En) (D:List (List Nat)) (N1:List (List Nat × En)):(eqB (upE e.1) []=true∨(((qz (upE e.1) N).getD enZ).2.1 != 1)=false)→qz e.1 N=some old→e.2.1≠4→(e.2.1=1→old.2.1≠1)→GoneD N K e.1 D N1→ApR N K e true (Y5 e.1 (kd5 e) (Y0 e.1 N1)) (JX (upE e.1) 1 (JX (upE e.1) (-1) (Y0 e.1 (Yy D K))))
 | new:(eqB (upE e.1) []=true∨(((qz (upE e.1) N).getD enZ).2.1 != 1)=false)→qz e.1 N=none→e.2.1≠4→ApR N K e true (Y5 e.1 (kd5 e) N) (JX (upE e.1) 1 K)
theorem qta {e:En}:qam TE 34 (agE e) 1=some (.raw (.int .i64 e.2.1)):=by kernel_rfl
theorem qkq {a0 a1 a2 a3:AV} {el fz:Nat}:ldG 4 (some (.cells [a0,a1,a2,a3] el fz))=some (.agg [a0,a1,a2,a3]):=(rfl)
theorem qt5:∀ {l:List (List Nat × En)},qt2 (zn agE l) (zn agE l)=true
 | []=>rfl
 | (q,e)::l=>by
  have ih:=qt5 (l:=l)
  simp only[zn] at ih
  have h:Zr (celE e) (celE e)=true:=qN
  have h2:beqA (agE e) (agE e)=true:=h
  simp only[zn,List.map_cons,qt2,ih,h2,qi0,Bool.and_self]
theorem qce {l:List (List Nat × En)}:WA (.map (zn agE l)) (.map (zn agE l))=true:=qt5
theorem qrr {s:St} (H:Ok TE Tryz.prog pr3) (hB:qc s) {fb nb kb:Nat} {N:List (List Nat × En)} {K:List (List Nat × Int)} (R:FR s fb nb kb N K) (hN:(N.map (·.1)).Nodup) {e:En} (hp:e.1.length≤1000000) {kr kp:AV→St→Bool}
  (hk:∀ (s':St) b N' K',FrF nb kb s s'→qc s'→ApR N K e b N' K'→FR s' fb nb kb N' K'→kr (.raw (.bool b)) s'=true) :
  (sem Tryz.prog).call 125 [.ptr fb 0,agE e] s kr kp=true:=by
 refine qp H 73 q2t rfl rfl ?_
 have hB1:qc (s.alloc (.cells (celE e) 34 0)):=qx hB _
 have hE1:Ext s (s.alloc (.cells (celE e) 34 0)):=Ext.alloc s _
 have R1:=R.ext hB hE1
 have c1:(s.alloc (.cells (celE e) 34 0)).h.get s.nx=some (.cells (celE e) 34 0):=qu
 have n1:(s.alloc (.cells (celE e) 34 0)).nx=s.nx+1:=rfl
 have hnb:=hB _ _ R.n
 have hkb:=hB _ _ R.k
 have hfb:=hB _ _ R.f
 have hag:agE e=.agg (celE e):=rfl
 rw[hag]
 repeat (first|with_reducible (refine q9 H ?_;constructor)|simp only[rB,rP,rQ,q8,qa,q7,qb,reduceIte,reduceCtorEq,Nat.reduceAdd,Nat.reduceLT,Nat.reduceEqDiff,UInt8.reduceToNat,pe3,pf3,qf])
 generalize s.alloc (.cells (celE e) 34 0)=s1 at *
 have F1:FrF nb kb s s1:=FrF.of hE1
 repeat (first|with_reducible (refine q9 H ?_;constructor)|simp only[rB,rP,rQ,q8,qa,q7,qb,reduceIte,reduceCtorEq,Nat.reduceAdd,Nat.reduceLT,Nat.reduceEqDiff,UInt8.reduceToNat,pe3,pf3,c1,qg,qh,qi,qj,qD,qK,zm,zR,ze,zo])
 refine qcg H hp ?_
 have f1:=R1.f
 have l1:=q6h (p:=upE e.1) R1.n
 have ia:∀ b,inO (s1.h.get nb) b=b:=fun b=>by rw[R1.n];rfl
 cases h1:eqB (upE e.1) [] with
 | false =>
  cases h2:((qz (upE e.1) N).getD enZ).2.1 != 1 with
  | true =>
   repeat (first|with_reducible (refine q9 H ?_;constructor)|simp only[rB,rP,rQ,q8,qa,q7,qb,reduceIte,reduceCtorEq,Nat.reduceAdd,Nat.reduceLT,Nat.reduceEqDiff,UInt8.reduceToNat,pe3,pf3,Z7,h1,Bool.not_false,f1,qT,qC,l1,ia,qta,qH,h2,Tryz.results125])
   exact hk s1 false N K F1 hB1 (.up h1 h2) R1
  | false =>
   repeat (first|with_reducible (refine q9 H ?_;constructor)|simp only[rB,rP,rQ,q8,qa,q7,qb,reduceIte,reduceCtorEq,Nat.reduceAdd,Nat.reduceLT,Nat.reduceEqDiff,UInt8.reduceToNat,pe3,pf3,Z7,h1,Bool.not_false,f1,qT,qC,l1,ia,qta,qH,h2])
   have n1':=R1.n
   have m1:(nb=s1.nx)=False:=by simp;omega
   have m2:(s.nx=s1.nx)=False:=by simp;omega
   have m3:(fb=s1.nx)=False:=by simp;omega
   have lt:=q27 (p:=e.1) R1.n
   cases hl:qz e.1 N with
   | none =>
    rw[hl] at lt
    simp only[Option.getD_none,Option.isSome_none] at lt
    have B2:qc { h:=(s1.alloc (.cells [.str [],.raw (.int .i64 0),.raw (.int .i64 0),.str []] 34 0)).h.set s1.nx (.cells (celE enZ) 34 0),nx:=s1.nx+1 }:=zy hB1
    have E2:Ext s1 { h:=(s1.alloc (.cells [.str [],.raw (.int .i64 0),.raw (.int .i64 0),.str []] 34 0)).h.set s1.nx (.cells (celE enZ) 34 0),nx:=s1.nx+1 }:=Q7
    have o2:({ h:=(s1.alloc (.cells [.str [],.raw (.int .i64 0),.raw (.int .i64 0),.str []] 34 0)).h.set s1.nx (.cells (celE enZ) 34 0),nx:=s1.nx+1 }:St).h.get s1.nx=some (.cells (celE enZ) 34 0):=hs_same
    have R2:=R1.ext hB1 E2
    have c2:=(E2.2 _ (hB1 _ _ c1)).trans c1
    have F2:FrF nb kb s _:=F1.trans (FrF.of E2)
    have n2:({ h:=(s1.alloc (.cells [.str [],.raw (.int .i64 0),.raw (.int .i64 0),.str []] 34 0)).h.set s1.nx (.cells (celE enZ) 34 0),nx:=s1.nx+1 }:St).nx=s1.nx+1:=rfl
    generalize hS2:({ h:=(s1.alloc (.cells [.str [],.raw (.int .i64 0),.raw (.int .i64 0),.str []] 34 0)).h.set s1.nx (.cells (celE enZ) 34 0),nx:=s1.nx+1 }:St)=s2 at *
    repeat (first|with_reducible (refine q9 H ?_;constructor)|simp only[rB,rP,rQ,q8,qa,q7,qb,reduceIte,reduceCtorEq,Nat.reduceAdd,Nat.reduceLT,Nat.reduceEqDiff,UInt8.reduceToNat,pe3,pf3,qT,qg,qh,qi,qj,qC,qD,qK,zm,zR,Qo,Qm,ze,zo,zM,zP,qr,f1,c1,lt,ia,YK,VN,YI,n1',m1,m2,m3,qce,qN,hS2]|(with_reducible refine qy H (i:=4) (.take 0 (.take 1 (.take 2 (.take 3 (.take 4 (.take 5 (.take 6 (.take 7 (.take 8 (.take 9 (.alt 10 [] (.alt 11 [0,1,2,3,4,5,6,7,8,10] (.take 12 (.done)) (.yes)) (.yes)))))))))))) rfl (by kernel_rfl) ?_))
    have f1:=R2.f
    have z1:(enZ.2.1==1)=false:=rfl
    cases k4:e.2.1==4 with
    | true =>
     repeat (first|with_reducible (refine q9 H ?_;constructor)|simp only[rB,rP,rQ,q8,qa,q7,qb,reduceIte,reduceCtorEq,Nat.reduceAdd,Nat.reduceLT,Nat.reduceEqDiff,UInt8.reduceToNat,pe3,pf3,qT,qg,qh,qi,qj,qC,qD,qK,zm,zR,Qo,Qm,ze,zo,zM,zP,qr,f1,c2,o2,k4,Bool.not_false,Tryz.results125])
     exact hk s2 false N K F2 B2 (.gone0 (by simpa using k4) hl) R2
    | false =>
     have k4':e.2.1≠4:=by simpa using k4
     cases k1:e.2.1==1 with
     | true =>
      have k5:(e.2.1==5)=false:=by
       have:e.2.1=1:=by simpa using k1
       rw[this];rfl
      repeat (first|with_reducible (refine q9 H ?_;constructor)|simp only[rB,rP,rQ,q8,qa,q7,qb,reduceIte,reduceCtorEq,Nat.reduceAdd,Nat.reduceLT,Nat.reduceEqDiff,UInt8.reduceToNat,pe3,pf3,qT,qg,qh,qi,qj,qC,qD,qK,zm,zR,Qo,Qm,ze,zo,zM,zP,qr,f1,c2,o2,k4,k1,z1])
      have e5:kd5 e=e:=by
       unfold kd5
       rw[k5]
       rfl
      repeat (first|with_reducible (refine q9 H ?_;constructor)|simp only[rB,rP,rQ,q8,qa,q7,qb,reduceIte,reduceCtorEq,Nat.reduceAdd,Nat.reduceLT,Nat.reduceEqDiff,UInt8.reduceToNat,pe3,pf3,qT,qg,qh,qi,qj,qC,qD,qK,zm,zR,Qo,Qm,ze,zo,zM,zP,qr,f1,c2,k4,k5,QM,Qe,qN])
      refine Ya H B2 R2 (e:=e) hp (fun s9 F9 B9 R9=>?_)
      repeat (first|with_reducible (refine q9 H ?_;constructor)|simp only[rB,rP,rQ,q8,qa,q7,qb,reduceIte,reduceCtorEq,Nat.reduceAdd,Nat.reduceLT,Nat.reduceEqDiff,UInt8.reduceToNat,pe3,pf3,qT,qg,qh,qi,qj,qC,qD,qK,zm,zR,Qo,Qm,ze,zo,zM,zP,qr,Tryz.results125])
      have A:=ApR.new (K:=K) (Or.inr h2) hl k4'
      rw[e5] at A
      exact hk s9 true _ _ (F2.trans F9) B9 A R9
     | false =>
      cases k5:e.2.1==5 with
      | false =>
       repeat (first|with_reducible (refine q9 H ?_;constructor)|simp only[rB,rP,rQ,q8,qa,q7,qb,reduceIte,reduceCtorEq,Nat.reduceAdd,Nat.reduceLT,Nat.reduceEqDiff,UInt8.reduceToNat,pe3,pf3,qT,qg,qh,qi,qj,qC,qD,qK,zm,zR,Qo,Qm,ze,zo,zM,zP,qr,f1,c2,o2,k4,k1])
       have e5:kd5 e=e:=by
        unfold kd5
        rw[k5]
        rfl
       repeat (first|with_reducible (refine q9 H ?_;constructor)|simp only[rB,rP,rQ,q8,qa,q7,qb,reduceIte,reduceCtorEq,Nat.reduceAdd,Nat.reduceLT,Nat.reduceEqDiff,UInt8.reduceToNat,pe3,pf3,qT,qg,qh,qi,qj,qC,qD,qK,zm,zR,Qo,Qm,ze,zo,zM,zP,qr,f1,c2,k4,k5,QM,Qe,qN])
       refine Ya H B2 R2 (e:=e) hp (fun s9 F9 B9 R9=>?_)
       repeat (first|with_reducible (refine q9 H ?_;constructor)|simp only[rB,rP,rQ,q8,qa,q7,qb,reduceIte,reduceCtorEq,Nat.reduceAdd,Nat.reduceLT,Nat.reduceEqDiff,UInt8.reduceToNat,pe3,pf3,qT,qg,qh,qi,qj,qC,qD,qK,zm,zR,Qo,Qm,ze,zo,zM,zP,qr,Tryz.results125])
       have A:=ApR.new (K:=K) (Or.inr h2) hl k4'
       rw[e5] at A
       exact hk s9 true _ _ (F2.trans F9) B9 A R9
      | true =>
       repeat (first|with_reducible (refine q9 H ?_;constructor)|simp only[rB,rP,rQ,q8,qa,q7,qb,reduceIte,reduceCtorEq,Nat.reduceAdd,Nat.reduceLT,Nat.reduceEqDiff,UInt8.reduceToNat,pe3,pf3,qT,qg,qh,qi,qj,qC,qD,qK,zm,zR,Qo,Qm,ze,zo,zM,zP,qr,f1,c2,o2,k4,k1])
       have cu:s2.h.get s.nx=some (.cells [.str e.1,.raw (.int .i64 e.2.1),.raw (.int .i64 e.2.2.1),.str e.2.2.2] 34 0):=c2
       have hp':(kd5 e).1.length≤1000000:=hp
       have hlt:=B2 _ _ c2
       have e5:kd5 e=(e.1,1,e.2.2.1,e.2.2.2):=by unfold kd5;rw[k5];rfl
       have Bq:qc { s2 with h:=s2.h.set s.nx (.cells [.str e.1,.raw (.int .i64 1),.raw (.int .i64 e.2.2.1),.str e.2.2.2] 34 0) }:=qn B2 hlt _
       have Rq:FR { s2 with h:=s2.h.set s.nx (.cells [.str e.1,.raw (.int .i64 1),.raw (.int .i64 e.2.2.1),.str e.2.2.2] 34 0) } fb nb kb N K:=⟨(qe (by omega)).trans R2.f,(qe (by omega)).trans R2.n,(qe (by omega)).trans R2.k,R2.d⟩
       have Fq:FrF nb kb s { s2 with h:=s2.h.set s.nx (.cells [.str e.1,.raw (.int .i64 1),.raw (.int .i64 e.2.2.1),.str e.2.2.2] 34 0) }:=F2.trans' ⟨rfl,fun z hz _ _=>qe (by omega)⟩
       repeat (first|with_reducible (refine q9 H ?_;constructor)|simp only[rB,rP,rQ,q8,qa,q7,qb,reduceIte,reduceCtorEq,Nat.reduceAdd,Nat.reduceLT,Nat.reduceEqDiff,UInt8.reduceToNat,pe3,pf3,qT,qg,qh,qi,qj,qC,qD,qK,zm,zR,Qo,Qm,ze,zo,zM,zP,qr,f1,cu,k4,k5,qlf,QM,qkq])
       refine Ya H Bq Rq (e:=(e.1,1,e.2.2.1,e.2.2.2)) hp (fun s9 F9 B9 R9=>?_)
       repeat (first|with_reducible (refine q9 H ?_;constructor)|simp only[rB,rP,rQ,q8,qa,q7,qb,reduceIte,reduceCtorEq,Nat.reduceAdd,Nat.reduceLT,Nat.reduceEqDiff,UInt8.reduceToNat,pe3,pf3,qT,qg,qh,qi,qj,qC,qD,qK,zm,zR,Qo,Qm,ze,zo,zM,zP,qr,Tryz.results125])
       have A:=ApR.new (K:=K) (Or.inr h2) hl k4'
       rw[e5] at A
       exact hk s9 true _ _ (Fq.trans F9) B9 A R9
   | some old =>
    rw[hl] at lt
    simp only[Option.getD_some,Option.isSome_some] at lt
    have B2:qc { h:=(s1.alloc (.cells [.str [],.raw (.int .i64 0),.raw (.int .i64 0),.str []] 34 0)).h.set s1.nx (.cells (celE old) 34 0),nx:=s1.nx+1 }:=zy hB1
    have E2:Ext s1 { h:=(s1.alloc (.cells [.str [],.raw (.int .i64 0),.raw (.int .i64 0),.str []] 34 0)).h.set s1.nx (.cells (celE old) 34 0),nx:=s1.nx+1 }:=Q7
    have o2:({ h:=(s1.alloc (.cells [.str [],.raw (.int .i64 0),.raw (.int .i64 0),.str []] 34 0)).h.set s1.nx (.cells (celE old) 34 0),nx:=s1.nx+1 }:St).h.get s1.nx=some (.cells (celE old) 34 0):=hs_same
    have R2:=R1.ext hB1 E2
    have c2:=(E2.2 _ (hB1 _ _ c1)).trans c1
    have F2:FrF nb kb s _:=F1.trans (FrF.of E2)
    have n2:({ h:=(s1.alloc (.cells [.str [],.raw (.int .i64 0),.raw (.int .i64 0),.str []] 34 0)).h.set s1.nx (.cells (celE old) 34 0),nx:=s1.nx+1 }:St).nx=s1.nx+1:=rfl
    generalize hS2:({ h:=(s1.alloc (.cells [.str [],.raw (.int .i64 0),.raw (.int .i64 0),.str []] 34 0)).h.set s1.nx (.cells (celE old) 34 0),nx:=s1.nx+1 }:St)=s2 at *
    repeat (first|with_reducible (refine q9 H ?_;constructor)|simp only[rB,rP,rQ,q8,qa,q7,qb,reduceIte,reduceCtorEq,Nat.reduceAdd,Nat.reduceLT,Nat.reduceEqDiff,UInt8.reduceToNat,pe3,pf3,qT,qg,qh,qi,qj,qC,qD,qK,zm,zR,Qo,Qm,ze,zo,zM,zP,qr,f1,c1,lt,ia,YK,VN,YI,n1',m1,m2,m3,qce,qN,hS2]|(with_reducible refine qy H (i:=4) (.take 0 (.take 1 (.take 2 (.take 3 (.take 4 (.take 5 (.take 6 (.take 7 (.take 8 (.take 9 (.alt 10 [] (.alt 11 [0,1,2,3,4,5,6,7,8,10] (.take 12 (.done)) (.yes)) (.yes)))))))))))) rfl (by kernel_rfl) ?_))
    have f1:=R2.f
    cases k4:e.2.1==4 with
    | true =>
     have k4':e.2.1=4:=by simpa using k4
     have k1:(e.2.1==1)=false:=by rw[k4'];rfl
     repeat (first|with_reducible (refine q9 H ?_;constructor)|simp only[rB,rP,rQ,q8,qa,q7,qb,reduceIte,reduceCtorEq,Nat.reduceAdd,Nat.reduceLT,Nat.reduceEqDiff,UInt8.reduceToNat,pe3,pf3,qT,qg,qh,qi,qj,qC,qD,qK,zm,zR,Qo,Qm,ze,zo,zM,zP,qr,f1,c2,o2,qr,k4,Bool.not_true,k1])
     refine YR H B2 R2 hN hp (fun s3 DN F3 B3 G3 R3=>?_)
     have c3:=(F3.2 _ (by omega) (by omega) (by omega)).trans c2
     have F23:=F2.trans F3
     repeat (first|with_reducible (refine q9 H ?_;constructor)|simp only[rB,rP,rQ,q8,qa,q7,qb,reduceIte,reduceCtorEq,Nat.reduceAdd,Nat.reduceLT,Nat.reduceEqDiff,UInt8.reduceToNat,pe3,pf3,qT,qg,qh,qi,qj,qC,qD,qK,zm,zR,Qo,Qm,ze,zo,zM,zP,qr,c3,k4,Tryz.results125])
     exact hk s3 true _ _ F23 B3 (.gone1 old DN.1 DN.2 (Or.inr h2) hl k4' G3) R3
    | false =>
     have k4':e.2.1≠4:=by simpa using k4
     cases k1:e.2.1==1 with
     | true =>
      have k1':e.2.1=1:=by simpa using k1
      have k5:(e.2.1==5)=false:=by rw[k1'];rfl
      cases z1:old.2.1==1 with
      | true =>
       have z1':old.2.1=1:=by simpa using z1
       have o2':s2.h.get s1.nx=some (.cells [.str old.1,.raw (.int .i64 old.2.1),.raw (.int .i64 old.2.2.1),.str old.2.2.2] 34 0):=o2
       have hlt:=B2 _ _ o2
       have B3:qc { s2 with h:=s2.h.set s1.nx (.cells [.str old.1,.raw (.int .i64 old.2.1),.raw (.int .i64 e.2.2.1),.str old.2.2.2] 34 0) }:=qn B2 hlt _
       have R3:FR { s2 with h:=s2.h.set s1.nx (.cells [.str old.1,.raw (.int .i64 old.2.1),.raw (.int .i64 e.2.2.1),.str old.2.2.2] 34 0) } fb nb kb N K:=⟨(qe (by omega)).trans R2.f,(qe (by omega)).trans R2.n,(qe (by omega)).trans R2.k,R2.d⟩
       have F3:FrF nb kb s { s2 with h:=s2.h.set s1.nx (.cells [.str old.1,.raw (.int .i64 old.2.1),.raw (.int .i64 e.2.2.1),.str old.2.2.2] 34 0) }:=F2.trans' ⟨rfl,fun z hz _ _=>qe (by omega)⟩
       have c3:({ s2 with h:=s2.h.set s1.nx (.cells [.str old.1,.raw (.int .i64 old.2.1),.raw (.int .i64 e.2.2.1),.str old.2.2.2] 34 0) }:St).h.get s.nx=some (.cells (celE e) 34 0):=(qe (by omega)).trans c2
       have o3:({ s2 with h:=s2.h.set s1.nx (.cells [.str old.1,.raw (.int .i64 old.2.1),.raw (.int .i64 e.2.2.1),.str old.2.2.2] 34 0) }:St).h.get s1.nx=some (.cells [.str old.1,.raw (.int .i64 old.2.1),.raw (.int .i64 e.2.2.1),.str old.2.2.2] 34 0):=hs_same
       generalize hS3:({ s2 with h:=s2.h.set s1.nx (.cells [.str old.1,.raw (.int .i64 old.2.1),.raw (.int .i64 e.2.2.1),.str old.2.2.2] 34 0) }:St)=s3 at *
       have f3:=R3.f
       have u3:za TE s3 180 (.map nb) (.str e.1) (.agg [.str old.1,.raw (.int .i64 old.2.1),.raw (.int .i64 e.2.2.1),.str old.2.2.2])=some { s3 with h:=s3.h.set nb (.map (zn agE (Y5 e.1 (old.1,old.2.1,e.2.2.1,old.2.2.2) N))) }:=qw7 (j:=(old.1,old.2.1,e.2.2.1,old.2.2.2)) R3.n
       repeat (first|with_reducible (refine q9 H ?_;constructor)|simp only[rB,rP,rQ,q8,qa,q7,qb,reduceIte,reduceCtorEq,Nat.reduceAdd,Nat.reduceLT,Nat.reduceEqDiff,UInt8.reduceToNat,pe3,pf3,qT,qg,qh,qi,qj,qC,qD,qK,zm,zR,Qo,Qm,ze,zo,zM,zP,qr,f1,c2,o2',k4,k1,z1,qlf,hS3,f3,c3,o3,QM,qkq,u3,Tryz.results125]|(with_reducible refine qy H (i:=9) (.take 0 (.take 1 (.take 2 (.take 3 (.take 4 (.take 5 (.take 6 (.alt 7 [0,1,2,3,4,5,6] (.done) (.yes))))))))) rfl (by kernel_rfl) ?_))
       exact hk _ true _ _ (F3.trans (FrF.put (Or.inl rfl))) (qn B3 (B3 _ _ R3.n) _) (.mode old (Or.inr h2) hl k1' z1') R3.setN
      | false =>
       have z1':old.2.1≠1:=by simpa using z1
       repeat (first|with_reducible (refine q9 H ?_;constructor)|simp only[rB,rP,rQ,q8,qa,q7,qb,reduceIte,reduceCtorEq,Nat.reduceAdd,Nat.reduceLT,Nat.reduceEqDiff,UInt8.reduceToNat,pe3,pf3,qT,qg,qh,qi,qj,qC,qD,qK,zm,zR,Qo,Qm,ze,zo,zM,zP,qr,f1,c2,o2,qr,k4,k1,z1])
       refine YR H B2 R2 hN hp (fun s3 DN F3 B3 G3 R3=>?_)
       have c3:=(F3.2 _ (by omega) (by omega) (by omega)).trans c2
       have F23:=F2.trans F3
       have e5:kd5 e=e:=by
        unfold kd5
        rw[k5]
        rfl
       repeat (first|with_reducible (refine q9 H ?_;constructor)|simp only[rB,rP,rQ,q8,qa,q7,qb,reduceIte,reduceCtorEq,Nat.reduceAdd,Nat.reduceLT,Nat.reduceEqDiff,UInt8.reduceToNat,pe3,pf3,qT,qg,qh,qi,qj,qC,qD,qK,zm,zR,Qo,Qm,ze,zo,zM,zP,qr,f1,c3,k4,k5,QM,Qe,qN])
       refine Ya H B3 R3 (e:=e) hp (fun s9 F9 B9 R9=>?_)
       repeat (first|with_reducible (refine q9 H ?_;constructor)|simp only[rB,rP,rQ,q8,qa,q7,qb,reduceIte,reduceCtorEq,Nat.reduceAdd,Nat.reduceLT,Nat.reduceEqDiff,UInt8.reduceToNat,pe3,pf3,qT,qg,qh,qi,qj,qC,qD,qK,zm,zR,Qo,Qm,ze,zo,zM,zP,qr,Tryz.results125])
       have A:=ApR.over old DN.1 DN.2 (Or.inr h2) hl k4' (fun _=>z1') G3
       rw[e5] at A
       exact hk s9 true _ _ (F23.trans F9) B9 A R9
     | false =>
      have k1':e.2.1≠1:=by simpa using k1
      cases k5:e.2.1==5 with
      | false =>
       repeat (first|with_reducible (refine q9 H ?_;constructor)|simp only[rB,rP,rQ,q8,qa,q7,qb,reduceIte,reduceCtorEq,Nat.reduceAdd,Nat.reduceLT,Nat.reduceEqDiff,UInt8.reduceToNat,pe3,pf3,qT,qg,qh,qi,qj,qC,qD,qK,zm,zR,Qo,Qm,ze,zo,zM,zP,qr,f1,c2,o2,qr,k4,k1])
       refine YR H B2 R2 hN hp (fun s3 DN F3 B3 G3 R3=>?_)
       have c3:=(F3.2 _ (by omega) (by omega) (by omega)).trans c2
       have F23:=F2.trans F3
       have e5:kd5 e=e:=by
        unfold kd5
        rw[k5]
        rfl
       repeat (first|with_reducible (refine q9 H ?_;constructor)|simp only[rB,rP,rQ,q8,qa,q7,qb,reduceIte,reduceCtorEq,Nat.reduceAdd,Nat.reduceLT,Nat.reduceEqDiff,UInt8.reduceToNat,pe3,pf3,qT,qg,qh,qi,qj,qC,qD,qK,zm,zR,Qo,Qm,ze,zo,zM,zP,qr,f1,c3,k4,k5,QM,Qe,qN])
       refine Ya H B3 R3 (e:=e) hp (fun s9 F9 B9 R9=>?_)
       repeat (first|with_reducible (refine q9 H ?_;constructor)|simp only[rB,rP,rQ,q8,qa,q7,qb,reduceIte,reduceCtorEq,Nat.reduceAdd,Nat.reduceLT,Nat.reduceEqDiff,UInt8.reduceToNat,pe3,pf3,qT,qg,qh,qi,qj,qC,qD,qK,zm,zR,Qo,Qm,ze,zo,zM,zP,qr,Tryz.results125])
       have A:=ApR.over old DN.1 DN.2 (Or.inr h2) hl k4' (fun h=>absurd h k1') G3
       rw[e5] at A
       exact hk s9 true _ _ (F23.trans F9) B9 A R9
      | true =>
       repeat (first|with_reducible (refine q9 H ?_;constructor)|simp only[rB,rP,rQ,q8,qa,q7,qb,reduceIte,reduceCtorEq,Nat.reduceAdd,Nat.reduceLT,Nat.reduceEqDiff,UInt8.reduceToNat,pe3,pf3,qT,qg,qh,qi,qj,qC,qD,qK,zm,zR,Qo,Qm,ze,zo,zM,zP,qr,f1,c2,o2,qr,k4,k1])
       refine YR H B2 R2 hN hp (fun s3 DN F3 B3 G3 R3=>?_)
       have c3:=(F3.2 _ (by omega) (by omega) (by omega)).trans c2
       have F23:=F2.trans F3
       have cu:s3.h.get s.nx=some (.cells [.str e.1,.raw (.int .i64 e.2.1),.raw (.int .i64 e.2.2.1),.str e.2.2.2] 34 0):=c3
       have hp':(kd5 e).1.length≤1000000:=hp
       have hlt:=B3 _ _ c3
       have e5:kd5 e=(e.1,1,e.2.2.1,e.2.2.2):=by unfold kd5;rw[k5];rfl
       have Bq:qc { s3 with h:=s3.h.set s.nx (.cells [.str e.1,.raw (.int .i64 1),.raw (.int .i64 e.2.2.1),.str e.2.2.2] 34 0) }:=qn B3 hlt _
       have Rq:FR { s3 with h:=s3.h.set s.nx (.cells [.str e.1,.raw (.int .i64 1),.raw (.int .i64 e.2.2.1),.str e.2.2.2] 34 0) } fb nb kb (Y0 e.1 DN.2) (JX (upE e.1) (-1) (Y0 e.1 (Yy DN.1 K))):=⟨(qe (by omega)).trans R3.f,(qe (by omega)).trans R3.n,(qe (by omega)).trans R3.k,R3.d⟩
       have Fq:FrF nb kb s { s3 with h:=s3.h.set s.nx (.cells [.str e.1,.raw (.int .i64 1),.raw (.int .i64 e.2.2.1),.str e.2.2.2] 34 0) }:=F23.trans' ⟨rfl,fun z hz _ _=>qe (by omega)⟩
       repeat (first|with_reducible (refine q9 H ?_;constructor)|simp only[rB,rP,rQ,q8,qa,q7,qb,reduceIte,reduceCtorEq,Nat.reduceAdd,Nat.reduceLT,Nat.reduceEqDiff,UInt8.reduceToNat,pe3,pf3,qT,qg,qh,qi,qj,qC,qD,qK,zm,zR,Qo,Qm,ze,zo,zM,zP,qr,f1,cu,k4,k5,qlf,QM,qkq])
       refine Ya H Bq Rq (e:=(e.1,1,e.2.2.1,e.2.2.2)) hp (fun s9 F9 B9 R9=>?_)
       repeat (first|with_reducible (refine q9 H ?_;constructor)|simp only[rB,rP,rQ,q8,qa,q7,qb,reduceIte,reduceCtorEq,Nat.reduceAdd,Nat.reduceLT,Nat.reduceEqDiff,UInt8.reduceToNat,pe3,pf3,qT,qg,qh,qi,qj,qC,qD,qK,zm,zR,Qo,Qm,ze,zo,zM,zP,qr,Tryz.results125])
       have A:=ApR.over old DN.1 DN.2 (Or.inr h2) hl k4' (fun h=>absurd h k1') G3
       rw[e5] at A
       exact hk s9 true _ _ (Fq.trans F9) B9 A R9
 | true =>
  repeat (first|with_reducible (refine q9 H ?_;constructor)|simp only[rB,rP,rQ,q8,qa,q7,qb,reduceIte,reduceCtorEq,Nat.reduceAdd,Nat.reduceLT,Nat.reduceEqDiff,UInt8.reduceToNat,pe3,pf3,Z7,h1,Bool.not_true])
  have n1':=R1.n
  have m1:(nb=s1.nx)=False:=by simp;omega
  have m2:(s.nx=s1.nx)=False:=by simp;omega
  have m3:(fb=s1.nx)=False:=by simp;omega
  have lt:=q27 (p:=e.1) R1.n
  cases hl:qz e.1 N with
  | none =>
   rw[hl] at lt
   simp only[Option.getD_none,Option.isSome_none] at lt
   have B2:qc { h:=(s1.alloc (.cells [.str [],.raw (.int .i64 0),.raw (.int .i64 0),.str []] 34 0)).h.set s1.nx (.cells (celE enZ) 34 0),nx:=s1.nx+1 }:=zy hB1
   have E2:Ext s1 { h:=(s1.alloc (.cells [.str [],.raw (.int .i64 0),.raw (.int .i64 0),.str []] 34 0)).h.set s1.nx (.cells (celE enZ) 34 0),nx:=s1.nx+1 }:=Q7
   have o2:({ h:=(s1.alloc (.cells [.str [],.raw (.int .i64 0),.raw (.int .i64 0),.str []] 34 0)).h.set s1.nx (.cells (celE enZ) 34 0),nx:=s1.nx+1 }:St).h.get s1.nx=some (.cells (celE enZ) 34 0):=hs_same
   have R2:=R1.ext hB1 E2
   have c2:=(E2.2 _ (hB1 _ _ c1)).trans c1
   have F2:FrF nb kb s _:=F1.trans (FrF.of E2)
   have n2:({ h:=(s1.alloc (.cells [.str [],.raw (.int .i64 0),.raw (.int .i64 0),.str []] 34 0)).h.set s1.nx (.cells (celE enZ) 34 0),nx:=s1.nx+1 }:St).nx=s1.nx+1:=rfl
   generalize hS2:({ h:=(s1.alloc (.cells [.str [],.raw (.int .i64 0),.raw (.int .i64 0),.str []] 34 0)).h.set s1.nx (.cells (celE enZ) 34 0),nx:=s1.nx+1 }:St)=s2 at *
   repeat (first|with_reducible (refine q9 H ?_;constructor)|simp only[rB,rP,rQ,q8,qa,q7,qb,reduceIte,reduceCtorEq,Nat.reduceAdd,Nat.reduceLT,Nat.reduceEqDiff,UInt8.reduceToNat,pe3,pf3,qT,qg,qh,qi,qj,qC,qD,qK,zm,zR,Qo,Qm,ze,zo,zM,zP,qr,f1,c1,lt,ia,YK,VN,YI,n1',m1,m2,m3,qce,qN,hS2]|(with_reducible refine qy H (i:=4) (.take 0 (.take 1 (.take 2 (.take 3 (.take 4 (.take 5 (.take 6 (.take 7 (.take 8 (.take 9 (.alt 10 [] (.alt 11 [0,1,2,3,4,5,6,7,8,10] (.take 12 (.done)) (.yes)) (.yes)))))))))))) rfl (by kernel_rfl) ?_))
   have f1:=R2.f
   have z1:(enZ.2.1==1)=false:=rfl
   cases k4:e.2.1==4 with
   | true =>
    repeat (first|with_reducible (refine q9 H ?_;constructor)|simp only[rB,rP,rQ,q8,qa,q7,qb,reduceIte,reduceCtorEq,Nat.reduceAdd,Nat.reduceLT,Nat.reduceEqDiff,UInt8.reduceToNat,pe3,pf3,qT,qg,qh,qi,qj,qC,qD,qK,zm,zR,Qo,Qm,ze,zo,zM,zP,qr,f1,c2,o2,k4,Bool.not_false,Tryz.results125])
    exact hk s2 false N K F2 B2 (.gone0 (by simpa using k4) hl) R2
   | false =>
    have k4':e.2.1≠4:=by simpa using k4
    cases k1:e.2.1==1 with
    | true =>
     have k5:(e.2.1==5)=false:=by
      have:e.2.1=1:=by simpa using k1
      rw[this];rfl
     repeat (first|with_reducible (refine q9 H ?_;constructor)|simp only[rB,rP,rQ,q8,qa,q7,qb,reduceIte,reduceCtorEq,Nat.reduceAdd,Nat.reduceLT,Nat.reduceEqDiff,UInt8.reduceToNat,pe3,pf3,qT,qg,qh,qi,qj,qC,qD,qK,zm,zR,Qo,Qm,ze,zo,zM,zP,qr,f1,c2,o2,k4,k1,z1])
     have e5:kd5 e=e:=by
      unfold kd5
      rw[k5]
      rfl
     repeat (first|with_reducible (refine q9 H ?_;constructor)|simp only[rB,rP,rQ,q8,qa,q7,qb,reduceIte,reduceCtorEq,Nat.reduceAdd,Nat.reduceLT,Nat.reduceEqDiff,UInt8.reduceToNat,pe3,pf3,qT,qg,qh,qi,qj,qC,qD,qK,zm,zR,Qo,Qm,ze,zo,zM,zP,qr,f1,c2,k4,k5,QM,Qe,qN])
     refine Ya H B2 R2 (e:=e) hp (fun s9 F9 B9 R9=>?_)
     repeat (first|with_reducible (refine q9 H ?_;constructor)|simp only[rB,rP,rQ,q8,qa,q7,qb,reduceIte,reduceCtorEq,Nat.reduceAdd,Nat.reduceLT,Nat.reduceEqDiff,UInt8.reduceToNat,pe3,pf3,qT,qg,qh,qi,qj,qC,qD,qK,zm,zR,Qo,Qm,ze,zo,zM,zP,qr,Tryz.results125])
     have A:=ApR.new (K:=K) (Or.inl h1) hl k4'
     rw[e5] at A
     exact hk s9 true _ _ (F2.trans F9) B9 A R9
    | false =>
     cases k5:e.2.1==5 with
     | false =>
      repeat (first|with_reducible (refine q9 H ?_;constructor)|simp only[rB,rP,rQ,q8,qa,q7,qb,reduceIte,reduceCtorEq,Nat.reduceAdd,Nat.reduceLT,Nat.reduceEqDiff,UInt8.reduceToNat,pe3,pf3,qT,qg,qh,qi,qj,qC,qD,qK,zm,zR,Qo,Qm,ze,zo,zM,zP,qr,f1,c2,o2,k4,k1])
      have e5:kd5 e=e:=by
       unfold kd5
       rw[k5]
       rfl
      repeat (first|with_reducible (refine q9 H ?_;constructor)|simp only[rB,rP,rQ,q8,qa,q7,qb,reduceIte,reduceCtorEq,Nat.reduceAdd,Nat.reduceLT,Nat.reduceEqDiff,UInt8.reduceToNat,pe3,pf3,qT,qg,qh,qi,qj,qC,qD,qK,zm,zR,Qo,Qm,ze,zo,zM,zP,qr,f1,c2,k4,k5,QM,Qe,qN])
      refine Ya H B2 R2 (e:=e) hp (fun s9 F9 B9 R9=>?_)
      repeat (first|with_reducible (refine q9 H ?_;constructor)|simp only[rB,rP,rQ,q8,qa,q7,qb,reduceIte,reduceCtorEq,Nat.reduceAdd,Nat.reduceLT,Nat.reduceEqDiff,UInt8.reduceToNat,pe3,pf3,qT,qg,qh,qi,qj,qC,qD,qK,zm,zR,Qo,Qm,ze,zo,zM,zP,qr,Tryz.results125])
      have A:=ApR.new (K:=K) (Or.inl h1) hl k4'
      rw[e5] at A
      exact hk s9 true _ _ (F2.trans F9) B9 A R9
     | true =>
      repeat (first|with_reducible (refine q9 H ?_;constructor)|simp only[rB,rP,rQ,q8,qa,q7,qb,reduceIte,reduceCtorEq,Nat.reduceAdd,Nat.reduceLT,Nat.reduceEqDiff,UInt8.reduceToNat,pe3,pf3,qT,qg,qh,qi,qj,qC,qD,qK,zm,zR,Qo,Qm,ze,zo,zM,zP,qr,f1,c2,o2,k4,k1])
      have cu:s2.h.get s.nx=some (.cells [.str e.1,.raw (.int .i64 e.2.1),.raw (.int .i64 e.2.2.1),.str e.2.2.2] 34 0):=c2
      have hp':(kd5 e).1.length≤1000000:=hp
      have hlt:=B2 _ _ c2
      have e5:kd5 e=(e.1,1,e.2.2.1,e.2.2.2):=by unfold kd5;rw[k5];rfl
      have Bq:qc { s2 with h:=s2.h.set s.nx (.cells [.str e.1,.raw (.int .i64 1),.raw (.int .i64 e.2.2.1),.str e.2.2.2] 34 0) }:=qn B2 hlt _
      have Rq:FR { s2 with h:=s2.h.set s.nx (.cells [.str e.1,.raw (.int .i64 1),.raw (.int .i64 e.2.2.1),.str e.2.2.2] 34 0) } fb nb kb N K:=⟨(qe (by omega)).trans R2.f,(qe (by omega)).trans R2.n,(qe (by omega)).trans R2.k,R2.d⟩
      have Fq:FrF nb kb s { s2 with h:=s2.h.set s.nx (.cells [.str e.1,.raw (.int .i64 1),.raw (.int .i64 e.2.2.1),.str e.2.2.2] 34 0) }:=F2.trans' ⟨rfl,fun z hz _ _=>qe (by omega)⟩
      repeat (first|with_reducible (refine q9 H ?_;constructor)|simp only[rB,rP,rQ,q8,qa,q7,qb,reduceIte,reduceCtorEq,Nat.reduceAdd,Nat.reduceLT,Nat.reduceEqDiff,UInt8.reduceToNat,pe3,pf3,qT,qg,qh,qi,qj,qC,qD,qK,zm,zR,Qo,Qm,ze,zo,zM,zP,qr,f1,cu,k4,k5,qlf,QM,qkq])
      refine Ya H Bq Rq (e:=(e.1,1,e.2.2.1,e.2.2.2)) hp (fun s9 F9 B9 R9=>?_)
      repeat (first|with_reducible (refine q9 H ?_;constructor)|simp only[rB,rP,rQ,q8,qa,q7,qb,reduceIte,reduceCtorEq,Nat.reduceAdd,Nat.reduceLT,Nat.reduceEqDiff,UInt8.reduceToNat,pe3,pf3,qT,qg,qh,qi,qj,qC,qD,qK,zm,zR,Qo,Qm,ze,zo,zM,zP,qr,Tryz.results125])
      have A:=ApR.new (K:=K) (Or.inl h1) hl k4'
      rw[e5] at A
      exact hk s9 true _ _ (Fq.trans F9) B9 A R9
  | some old =>
   rw[hl] at lt
   simp only[Option.getD_some,Option.isSome_some] at lt
   have B2:qc { h:=(s1.alloc (.cells [.str [],.raw (.int .i64 0),.raw (.int .i64 0),.str []] 34 0)).h.set s1.nx (.cells (celE old) 34 0),nx:=s1.nx+1 }:=zy hB1
   have E2:Ext s1 { h:=(s1.alloc (.cells [.str [],.raw (.int .i64 0),.raw (.int .i64 0),.str []] 34 0)).h.set s1.nx (.cells (celE old) 34 0),nx:=s1.nx+1 }:=Q7
   have o2:({ h:=(s1.alloc (.cells [.str [],.raw (.int .i64 0),.raw (.int .i64 0),.str []] 34 0)).h.set s1.nx (.cells (celE old) 34 0),nx:=s1.nx+1 }:St).h.get s1.nx=some (.cells (celE old) 34 0):=hs_same
   have R2:=R1.ext hB1 E2
   have c2:=(E2.2 _ (hB1 _ _ c1)).trans c1
   have F2:FrF nb kb s _:=F1.trans (FrF.of E2)
   have n2:({ h:=(s1.alloc (.cells [.str [],.raw (.int .i64 0),.raw (.int .i64 0),.str []] 34 0)).h.set s1.nx (.cells (celE old) 34 0),nx:=s1.nx+1 }:St).nx=s1.nx+1:=rfl
   generalize hS2:({ h:=(s1.alloc (.cells [.str [],.raw (.int .i64 0),.raw (.int .i64 0),.str []] 34 0)).h.set s1.nx (.cells (celE old) 34 0),nx:=s1.nx+1 }:St)=s2 at *
   repeat (first|with_reducible (refine q9 H ?_;constructor)|simp only[rB,rP,rQ,q8,qa,q7,qb,reduceIte,reduceCtorEq,Nat.reduceAdd,Nat.reduceLT,Nat.reduceEqDiff,UInt8.reduceToNat,pe3,pf3,qT,qg,qh,qi,qj,qC,qD,qK,zm,zR,Qo,Qm,ze,zo,zM,zP,qr,f1,c1,lt,ia,YK,VN,YI,n1',m1,m2,m3,qce,qN,hS2]|(with_reducible refine qy H (i:=4) (.take 0 (.take 1 (.take 2 (.take 3 (.take 4 (.take 5 (.take 6 (.take 7 (.take 8 (.take 9 (.alt 10 [] (.alt 11 [0,1,2,3,4,5,6,7,8,10] (.take 12 (.done)) (.yes)) (.yes)))))))))))) rfl (by kernel_rfl) ?_))
   have f1:=R2.f
   cases k4:e.2.1==4 with
   | true =>
    have k4':e.2.1=4:=by simpa using k4
    have k1:(e.2.1==1)=false:=by rw[k4'];rfl
    repeat (first|with_reducible (refine q9 H ?_;constructor)|simp only[rB,rP,rQ,q8,qa,q7,qb,reduceIte,reduceCtorEq,Nat.reduceAdd,Nat.reduceLT,Nat.reduceEqDiff,UInt8.reduceToNat,pe3,pf3,qT,qg,qh,qi,qj,qC,qD,qK,zm,zR,Qo,Qm,ze,zo,zM,zP,qr,f1,c2,o2,qr,k4,Bool.not_true,k1])
    refine YR H B2 R2 hN hp (fun s3 DN F3 B3 G3 R3=>?_)
    have c3:=(F3.2 _ (by omega) (by omega) (by omega)).trans c2
    have F23:=F2.trans F3
    repeat (first|with_reducible (refine q9 H ?_;constructor)|simp only[rB,rP,rQ,q8,qa,q7,qb,reduceIte,reduceCtorEq,Nat.reduceAdd,Nat.reduceLT,Nat.reduceEqDiff,UInt8.reduceToNat,pe3,pf3,qT,qg,qh,qi,qj,qC,qD,qK,zm,zR,Qo,Qm,ze,zo,zM,zP,qr,c3,k4,Tryz.results125])
    exact hk s3 true _ _ F23 B3 (.gone1 old DN.1 DN.2 (Or.inl h1) hl k4' G3) R3
   | false =>
    have k4':e.2.1≠4:=by simpa using k4
    cases k1:e.2.1==1 with
    | true =>
     have k1':e.2.1=1:=by simpa using k1
     have k5:(e.2.1==5)=false:=by rw[k1'];rfl
     cases z1:old.2.1==1 with
     | true =>
      have z1':old.2.1=1:=by simpa using z1
      have o2':s2.h.get s1.nx=some (.cells [.str old.1,.raw (.int .i64 old.2.1),.raw (.int .i64 old.2.2.1),.str old.2.2.2] 34 0):=o2
      have hlt:=B2 _ _ o2
      have B3:qc { s2 with h:=s2.h.set s1.nx (.cells [.str old.1,.raw (.int .i64 old.2.1),.raw (.int .i64 e.2.2.1),.str old.2.2.2] 34 0) }:=qn B2 hlt _
      have R3:FR { s2 with h:=s2.h.set s1.nx (.cells [.str old.1,.raw (.int .i64 old.2.1),.raw (.int .i64 e.2.2.1),.str old.2.2.2] 34 0) } fb nb kb N K:=⟨(qe (by omega)).trans R2.f,(qe (by omega)).trans R2.n,(qe (by omega)).trans R2.k,R2.d⟩
      have F3:FrF nb kb s { s2 with h:=s2.h.set s1.nx (.cells [.str old.1,.raw (.int .i64 old.2.1),.raw (.int .i64 e.2.2.1),.str old.2.2.2] 34 0) }:=F2.trans' ⟨rfl,fun z hz _ _=>qe (by omega)⟩
      have c3:({ s2 with h:=s2.h.set s1.nx (.cells [.str old.1,.raw (.int .i64 old.2.1),.raw (.int .i64 e.2.2.1),.str old.2.2.2] 34 0) }:St).h.get s.nx=some (.cells (celE e) 34 0):=(qe (by omega)).trans c2
      have o3:({ s2 with h:=s2.h.set s1.nx (.cells [.str old.1,.raw (.int .i64 old.2.1),.raw (.int .i64 e.2.2.1),.str old.2.2.2] 34 0) }:St).h.get s1.nx=some (.cells [.str old.1,.raw (.int .i64 old.2.1),.raw (.int .i64 e.2.2.1),.str old.2.2.2] 34 0):=hs_same
      generalize hS3:({ s2 with h:=s2.h.set s1.nx (.cells [.str old.1,.raw (.int .i64 old.2.1),.raw (.int .i64 e.2.2.1),.str old.2.2.2] 34 0) }:St)=s3 at *
      have f3:=R3.f
      have u3:za TE s3 180 (.map nb) (.str e.1) (.agg [.str old.1,.raw (.int .i64 old.2.1),.raw (.int .i64 e.2.2.1),.str old.2.2.2])=some { s3 with h:=s3.h.set nb (.map (zn agE (Y5 e.1 (old.1,old.2.1,e.2.2.1,old.2.2.2) N))) }:=qw7 (j:=(old.1,old.2.1,e.2.2.1,old.2.2.2)) R3.n
      repeat (first|with_reducible (refine q9 H ?_;constructor)|simp only[rB,rP,rQ,q8,qa,q7,qb,reduceIte,reduceCtorEq,Nat.reduceAdd,Nat.reduceLT,Nat.reduceEqDiff,UInt8.reduceToNat,pe3,pf3,qT,qg,qh,qi,qj,qC,qD,qK,zm,zR,Qo,Qm,ze,zo,zM,zP,qr,f1,c2,o2',k4,k1,z1,qlf,hS3,f3,c3,o3,QM,qkq,u3,Tryz.results125]|(with_reducible refine qy H (i:=9) (.take 0 (.take 1 (.take 2 (.take 3 (.take 4 (.take 5 (.take 6 (.alt 7 [0,1,2,3,4,5,6] (.done) (.yes))))))))) rfl (by kernel_rfl) ?_))
      exact hk _ true _ _ (F3.trans (FrF.put (Or.inl rfl))) (qn B3 (B3 _ _ R3.n) _) (.mode old (Or.inl h1) hl k1' z1') R3.setN
     | false =>
      have z1':old.2.1≠1:=by simpa using z1
      repeat (first|with_reducible (refine q9 H ?_;constructor)|simp only[rB,rP,rQ,q8,qa,q7,qb,reduceIte,reduceCtorEq,Nat.reduceAdd,Nat.reduceLT,Nat.reduceEqDiff,UInt8.reduceToNat,pe3,pf3,qT,qg,qh,qi,qj,qC,qD,qK,zm,zR,Qo,Qm,ze,zo,zM,zP,qr,f1,c2,o2,qr,k4,k1,z1])
      refine YR H B2 R2 hN hp (fun s3 DN F3 B3 G3 R3=>?_)
      have c3:=(F3.2 _ (by omega) (by omega) (by omega)).trans c2
      have F23:=F2.trans F3
      have e5:kd5 e=e:=by
       unfold kd5
       rw[k5]
       rfl
      repeat (first|with_reducible (refine q9 H ?_;constructor)|simp only[rB,rP,rQ,q8,qa,q7,qb,reduceIte,reduceCtorEq,Nat.reduceAdd,Nat.reduceLT,Nat.reduceEqDiff,UInt8.reduceToNat,pe3,pf3,qT,qg,qh,qi,qj,qC,qD,qK,zm,zR,Qo,Qm,ze,zo,zM,zP,qr,f1,c3,k4,k5,QM,Qe,qN])
      refine Ya H B3 R3 (e:=e) hp (fun s9 F9 B9 R9=>?_)
      repeat (first|with_reducible (refine q9 H ?_;constructor)|simp only[rB,rP,rQ,q8,qa,q7,qb,reduceIte,reduceCtorEq,Nat.reduceAdd,Nat.reduceLT,Nat.reduceEqDiff,UInt8.reduceToNat,pe3,pf3,qT,qg,qh,qi,qj,qC,qD,qK,zm,zR,Qo,Qm,ze,zo,zM,zP,qr,Tryz.results125])
      have A:=ApR.over old DN.1 DN.2 (Or.inl h1) hl k4' (fun _=>z1') G3
      rw[e5] at A
      exact hk s9 true _ _ (F23.trans F9) B9 A R9
    | false =>
     have k1':e.2.1≠1:=by simpa using k1
     cases k5:e.2.1==5 with
     | false =>
      repeat (first|with_reducible (refine q9 H ?_;constructor)|simp only[rB,rP,rQ,q8,qa,q7,qb,reduceIte,reduceCtorEq,Nat.reduceAdd,Nat.reduceLT,Nat.reduceEqDiff,UInt8.reduceToNat,pe3,pf3,qT,qg,qh,qi,qj,qC,qD,qK,zm,zR,Qo,Qm,ze,zo,zM,zP,qr,f1,c2,o2,qr,k4,k1])
      refine YR H B2 R2 hN hp (fun s3 DN F3 B3 G3 R3=>?_)
      have c3:=(F3.2 _ (by omega) (by omega) (by omega)).trans c2
      have F23:=F2.trans F3
      have e5:kd5 e=e:=by
       unfold kd5
       rw[k5]
       rfl
      repeat (first|with_reducible (refine q9 H ?_;constructor)|simp only[rB,rP,rQ,q8,qa,q7,qb,reduceIte,reduceCtorEq,Nat.reduceAdd,Nat.reduceLT,Nat.reduceEqDiff,UInt8.reduceToNat,pe3,pf3,qT,qg,qh,qi,qj,qC,qD,qK,zm,zR,Qo,Qm,ze,zo,zM,zP,qr,f1,c3,k4,k5,QM,Qe,qN])
      refine Ya H B3 R3 (e:=e) hp (fun s9 F9 B9 R9=>?_)
      repeat (first|with_reducible (refine q9 H ?_;constructor)|simp only[rB,rP,rQ,q8,qa,q7,qb,reduceIte,reduceCtorEq,Nat.reduceAdd,Nat.reduceLT,Nat.reduceEqDiff,UInt8.reduceToNat,pe3,pf3,qT,qg,qh,qi,qj,qC,qD,qK,zm,zR,Qo,Qm,ze,zo,zM,zP,qr,Tryz.results125])
      have A:=ApR.over old DN.1 DN.2 (Or.inl h1) hl k4' (fun h=>absurd h k1') G3
      rw[e5] at A
      exact hk s9 true _ _ (F23.trans F9) B9 A R9
     | true =>
      repeat (first|with_reducible (refine q9 H ?_;constructor)|simp only[rB,rP,rQ,q8,qa,q7,qb,reduceIte,reduceCtorEq,Nat.reduceAdd,Nat.reduceLT,Nat.reduceEqDiff,UInt8.reduceToNat,pe3,pf3,qT,qg,qh,qi,qj,qC,qD,qK,zm,zR,Qo,Qm,ze,zo,zM,zP,qr,f1,c2,o2,qr,k4,k1])
      refine YR H B2 R2 hN hp (fun s3 DN F3 B3 G3 R3=>?_)
      have c3:=(F3.2 _ (by omega) (by omega) (by omega)).trans c2
      have F23:=F2.trans F3
      have cu:s3.h.get s.nx=some (.cells [.str e.1,.raw (.int .i64 e.2.1),.raw (.int .i64 e.2.2.1),.str e.2.2.2] 34 0):=c3
      have hp':(kd5 e).1.length≤1000000:=hp
      have hlt:=B3 _ _ c3
      have e5:kd5 e=(e.1,1,e.2.2.1,e.2.2.2):=by unfold kd5;rw[k5];rfl
      have Bq:qc { s3 with h:=s3.h.set s.nx (.cells [.str e.1,.raw (.int .i64 1),.raw (.int .i64 e.2.2.1),.str e.2.2.2] 34 0) }:=qn B3 hlt _
      have Rq:FR { s3 with h:=s3.h.set s.nx (.cells [.str e.1,.raw (.int .i64 1),.raw (.int .i64 e.2.2.1),.str e.2.2.2] 34 0) } fb nb kb (Y0 e.1 DN.2) (JX (upE e.1) (-1) (Y0 e.1 (Yy DN.1 K))):=⟨(qe (by omega)).trans R3.f,(qe (by omega)).trans R3.n,(qe (by omega)).trans R3.k,R3.d⟩
      have Fq:FrF nb kb s { s3 with h:=s3.h.set s.nx (.cells [.str e.1,.raw (.int .i64 1),.raw (.int .i64 e.2.2.1),.str e.2.2.2] 34 0) }:=F23.trans' ⟨rfl,fun z hz _ _=>qe (by omega)⟩
      repeat (first|with_reducible (refine q9 H ?_;constructor)|simp only[rB,rP,rQ,q8,qa,q7,qb,reduceIte,reduceCtorEq,Nat.reduceAdd,Nat.reduceLT,Nat.reduceEqDiff,UInt8.reduceToNat,pe3,pf3,qT,qg,qh,qi,qj,qC,qD,qK,zm,zR,Qo,Qm,ze,zo,zM,zP,qr,f1,cu,k4,k5,qlf,QM,qkq])
      refine Ya H Bq Rq (e:=(e.1,1,e.2.2.1,e.2.2.2)) hp (fun s9 F9 B9 R9=>?_)
      repeat (first|with_reducible (refine q9 H ?_;constructor)|simp only[rB,rP,rQ,q8,qa,q7,qb,reduceIte,reduceCtorEq,Nat.reduceAdd,Nat.reduceLT,Nat.reduceEqDiff,UInt8.reduceToNat,pe3,pf3,qT,qg,qh,qi,qj,qC,qD,qK,zm,zR,Qo,Qm,ze,zo,zM,zP,qr,Tryz.results125])
      have A:=ApR.over old DN.1 DN.2 (Or.inl h1) hl k4' (fun h=>absurd h k1') G3
      rw[e5] at A
      exact hk s9 true _ _ (Fq.trans F9) B9 A R9
end Go.AX
