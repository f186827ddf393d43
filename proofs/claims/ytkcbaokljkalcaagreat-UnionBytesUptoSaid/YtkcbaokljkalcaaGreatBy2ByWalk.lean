import Derived.Test.YtkcbaokljkalcaaGreatBy2H3
import Derived.Test.YtkcbaokljkalcaaGreatBy2G1
import Derived.Test.YtkcbaokljkalcaaGreatBy2H5
import Derived.Test.YtkcbaokljkalcaaGreatBy2G3
import Derived.Test.YtkcbaokljkalcaaGreatBy2H6
import Derived.Test.YtkcbaokljkalcaaGreatBy2H8
import Derived.Test.YtkcbaokljkalcaaGreatBy2B3
set_option linter.unusedVariables false
set_option linter.unusedSimpArgs false
set_option linter.defProp false
namespace Go.AX
open Go.Proofs Go.RowKit
set_option maxRecDepth 1000000
set_option maxHeartbeats 400000000
set_option linter.unusedSimpArgs false
set_option linter.unusedVariables false
theorem qvf {s:St} (H:Ok TE Tryz.prog pr3) (hB:qc s) {e:En} {kr kp:AV→St→Bool} (hk:∀ s',Ext s s'→qc s'→kr (.raw (.bool (Jd e))) s'=true) :
  (sem Tryz.prog).call 115 [agE e] s kr kp=true:=by
 refine qp H 23 q34 rfl rfl ?_
 obtain⟨p,kd,md,d⟩:=e
 have hk:=hk (s.alloc (.cells [.str p,.raw (.int .i64 kd),.raw (.int .i64 md),.str d] 34 0)) (Ext.alloc s _) (qx hB _)
 unfold Jd at hk
 simp only at hk
 unfold agE
 cases h1:kd==3 with
 | true =>
  rw[h1] at hk
  repeat (first|with_reducible (refine q9 H ?_;constructor)|simp only[rB,rP,rQ,q8,qa,q7,qb,reduceIte,reduceCtorEq,Nat.reduceAdd,Nat.reduceLT,Nat.reduceEqDiff,UInt8.reduceToNat,pe3,pf3,qf,qg,qh,qi,qj,qD,qK,qr,h1,Tryz.results115])
  exact hk
 | false =>
  rw[h1] at hk
  cases h2:kd==4 with
  | true =>
   rw[h2] at hk
   repeat (first|with_reducible (refine q9 H ?_;constructor)|simp only[rB,rP,rQ,q8,qa,q7,qb,reduceIte,reduceCtorEq,Nat.reduceAdd,Nat.reduceLT,Nat.reduceEqDiff,UInt8.reduceToNat,pe3,pf3,qf,qg,qh,qi,qj,qD,qK,qr,h1,h2,Tryz.results115])
   exact hk
  | false =>
   rw[h2] at hk
   cases h3:decide (md ≥ 0) with
   | true =>
    rw[h3] at hk
    repeat (first|with_reducible (refine q9 H ?_;constructor)|simp only[rB,rP,rQ,q8,qa,q7,qb,reduceIte,reduceCtorEq,Nat.reduceAdd,Nat.reduceLT,Nat.reduceEqDiff,UInt8.reduceToNat,pe3,pf3,qf,qg,qh,qi,qj,qD,qK,qr,Y3,YL,h1,h2,h3,Tryz.results115])
    exact hk
   | false =>
    rw[h3] at hk
    repeat (first|with_reducible (refine q9 H ?_;constructor)|simp only[rB,rP,rQ,q8,qa,q7,qb,reduceIte,reduceCtorEq,Nat.reduceAdd,Nat.reduceLT,Nat.reduceEqDiff,UInt8.reduceToNat,pe3,pf3,qf,qg,qh,qi,qj,qD,qK,qr,Y3,YL,h1,h2,h3,Tryz.results115])
    exact hk
theorem qml {s:St} (H:Ok TE Tryz.prog pr3) {k n:Int} {kr kp:AV→St→Bool} (hk:kr (.raw (.bool (Yh k n))) s=true) :
  (sem Tryz.prog).call 116 [.raw (.int .i64 k),.raw (.int .i64 n)] s kr kp=true:=by
 refine qp H 20 qzl rfl rfl ?_
 unfold Yh at hk
 cases h1:k==2 with
 | true =>
  rw[h1] at hk
  repeat (first|with_reducible (refine q9 H ?_;constructor)|simp only[rB,rP,rQ,q8,qa,q7,qb,reduceIte,reduceCtorEq,Nat.reduceAdd,Nat.reduceLT,Nat.reduceEqDiff,UInt8.reduceToNat,pe3,pf3,qr,YL,h1,Tryz.results116])
  exact hk
 | false =>
  rw[h1] at hk
  cases h2:k==3 with
  | true =>
   rw[h2] at hk
   cases h3:decide (n ≥ 1) with
   | true =>
    rw[h3] at hk
    repeat (first|with_reducible (refine q9 H ?_;constructor)|simp only[rB,rP,rQ,q8,qa,q7,qb,reduceIte,reduceCtorEq,Nat.reduceAdd,Nat.reduceLT,Nat.reduceEqDiff,UInt8.reduceToNat,pe3,pf3,qr,Y3,YL,h1,h2,h3,Tryz.results116])
    exact hk
   | false =>
    rw[h3] at hk
    repeat (first|with_reducible (refine q9 H ?_;constructor)|simp only[rB,rP,rQ,q8,qa,q7,qb,reduceIte,reduceCtorEq,Nat.reduceAdd,Nat.reduceLT,Nat.reduceEqDiff,UInt8.reduceToNat,pe3,pf3,qr,Y3,YL,h1,h2,h3,Tryz.results116])
    exact hk
  | false =>
   rw[h2] at hk
   repeat (first|with_reducible (refine q9 H ?_;constructor)|simp only[rB,rP,rQ,q8,qa,q7,qb,reduceIte,reduceCtorEq,Nat.reduceAdd,Nat.reduceLT,Nat.reduceEqDiff,UInt8.reduceToNat,pe3,pf3,qr,h1,h2,Tryz.results116])
   exact hk
theorem qm6 {s:St} (H:Ok TE Tryz.prog pr3) {b:List Nat} (hb:b.length≤1048576) {kr kp:AV→St→Bool} (hk:kr (.raw (.bool (qjx b))) s=true):(sem Tryz.prog).call 117 [.str b] s kr kp=true:=by
 refine qp H 14 q06 rfl rfl ?_
 repeat (first|with_reducible (refine q9 H ?_;constructor)|simp only[rB,rP,rQ,q8,qa,q7,qb,reduceIte,reduceCtorEq,Nat.reduceAdd,Nat.reduceLT,Nat.reduceEqDiff,UInt8.reduceToNat,pe3,pf3,ql])
 refine qB H (fun n t s'=>∃ k:Nat,n+k=b.length∧s'=s∧tg t 0=.str b∧tg t 3=.raw (.int .i64 (k:Int))∧qjx b=qjx (b.drop k)) (n:=b.length)
  ⟨0,rfl,rfl,by simp only[rB,rP,rQ,q8,qa,q7,qb,reduceIte,reduceCtorEq,Nat.reduceAdd,Nat.reduceLT,Nat.reduceEqDiff,UInt8.reduceToNat],by simp only[rB,rP,rQ,q8,qa,q7,qb,reduceIte,reduceCtorEq,Nat.reduceAdd,Nat.reduceLT,Nat.reduceEqDiff,UInt8.reduceToNat];rfl,rfl⟩ ?_
 rintro n t s' ih ⟨k,hn,rfl,t0,t3,hrun⟩
 cases n with
 | zero =>
  have g0:=QO (a:=k) (b:=b.length) (by omega)
  rw[List.drop_eq_nil_of_le (by omega)] at hrun
  rw[hrun] at hk
  repeat (first|with_reducible (refine q9 H ?_;constructor)|simp only[rB,rP,rQ,q8,qa,q7,qb,reduceIte,reduceCtorEq,Nat.reduceAdd,Nat.reduceLT,Nat.reduceEqDiff,UInt8.reduceToNat,pe3,pf3,t0,t3,ql,zJ,g0,Tryz.results117])
  exact hk
 | succ n =>
  have hlt:k < b.length:=by omega
  have g0:=Yd hlt
  have ew:=zL (k:=k) (by omega)
  rw[List.drop_eq_getElem_cons hlt] at hrun
  have hx:b[k]?=some b[k]:=List.getElem?_eq_getElem hlt
  generalize b[k]=x at hx hrun
  have ix:=qq7 hx
  have gz:((x:Int)==0)=Nat.beq x 0:=Wt
  simp only[qjx] at hrun
  cases hz:Nat.beq x 0 with
  | true =>
   rw[hz,cond_true] at hrun
   rw[hrun] at hk
   repeat (first|with_reducible (refine q9 H ?_;constructor)|simp only[rB,rP,rQ,q8,qa,q7,qb,reduceIte,reduceCtorEq,Nat.reduceAdd,Nat.reduceLT,Nat.reduceEqDiff,UInt8.reduceToNat,pe3,pf3,t0,t3,ql,zJ,g0,ix,qr,gz,hz,Tryz.results117])
   exact hk
  | false =>
   rw[hz,cond_false] at hrun
   repeat (first|with_reducible (refine q9 H ?_;constructor)|simp only[rB,rP,rQ,q8,qa,q7,qb,reduceIte,reduceCtorEq,Nat.reduceAdd,Nat.reduceLT,Nat.reduceEqDiff,UInt8.reduceToNat,pe3,pf3,t0,t3,ql,zJ,g0,ix,qr,gz,hz,qI,ew])
   exact ih n _ _ (Nat.lt_succ_self n) ⟨k+1,by omega,rfl,by simp only[rB,rP,rQ,q8,qa,q7,qb,reduceIte,reduceCtorEq,Nat.reduceAdd,Nat.reduceLT,Nat.reduceEqDiff,UInt8.reduceToNat,t0],by simp only[rB,rP,rQ,q8,qa,q7,qb,reduceIte,reduceCtorEq,Nat.reduceAdd,Nat.reduceLT,Nat.reduceEqDiff,UInt8.reduceToNat],hrun⟩
def qzw (p q:List Nat):Bool:=bif eqB q [] then true else bif eqB p q then true else bif decide ((p.length:Int) > (q.length:Int)) then (bif eqB (p.take q.length) q then Nat.beq (p.getD q.length 0) 47 else false) else false
theorem qs3 {s:St} (H:Ok TE Tryz.prog pr3) {p q:List Nat} {kr kp:AV→St→Bool} (hk:kr (.raw (.bool (qzw p q))) s=true) :
  (sem Tryz.prog).call 139 [.str p,.str q] s kr kp=true:=by
 refine qp H 34 q22 rfl rfl ?_
 unfold qzw at hk
 cases h1:eqB q [] with
 | true =>
  rw[h1] at hk
  repeat (first|with_reducible (refine q9 H ?_;constructor)|simp only[rB,rP,rQ,q8,qa,q7,qb,reduceIte,reduceCtorEq,Nat.reduceAdd,Nat.reduceLT,Nat.reduceEqDiff,UInt8.reduceToNat,pe3,pf3,zz,h1,Tryz.results139])
  exact hk
 | false =>
 rw[h1,cond_false] at hk
 cases h2:eqB p q with
 | true =>
  rw[h2] at hk
  repeat (first|with_reducible (refine q9 H ?_;constructor)|simp only[rB,rP,rQ,q8,qa,q7,qb,reduceIte,reduceCtorEq,Nat.reduceAdd,Nat.reduceLT,Nat.reduceEqDiff,UInt8.reduceToNat,pe3,pf3,zz,h1,h2,Tryz.results139])
  exact hk
 | false =>
 rw[h2,cond_false] at hk
 cases h3:decide ((p.length:Int) > (q.length:Int)) with
 | false =>
  rw[h3] at hk
  repeat (first|with_reducible (refine q9 H ?_;constructor)|simp only[rB,rP,rQ,q8,qa,q7,qb,reduceIte,reduceCtorEq,Nat.reduceAdd,Nat.reduceLT,Nat.reduceEqDiff,UInt8.reduceToNat,pe3,pf3,zz,h1,h2,ql,zD,h3,Tryz.results139])
  exact hk
 | true =>
 rw[h3,cond_true] at hk
 have hlt:q.length < p.length:=by have:=of_decide_eq_true h3;omega
 have sl:qF TE 9 (.str p) none (some (.raw (.int .i64 (q.length:Int)))) none=some (.str (p.take q.length)):=by
  rw[Ym,Xz zC (by omega)]
  simp
 cases h4:eqB (p.take q.length) q with
 | false =>
  rw[h4] at hk
  repeat (first|with_reducible (refine q9 H ?_;constructor)|simp only[rB,rP,rQ,q8,qa,q7,qb,reduceIte,reduceCtorEq,Nat.reduceAdd,Nat.reduceLT,Nat.reduceEqDiff,UInt8.reduceToNat,pe3,pf3,zz,h1,h2,ql,zD,h3,sl,h4,Tryz.results139])
  exact hk
 | true =>
 rw[h4,cond_true] at hk
 have hx:p[q.length]?=some p[q.length]:=List.getElem?_eq_getElem hlt
 have hd:p.getD q.length 0=p[q.length]:=by rw[List.getD_eq_getElem?_getD,hx];rfl
 rw[hd] at hk
 generalize p[q.length]=x at hx hk
 have ix:=qq7 hx
 have gz:((x:Int)==47)=Nat.beq x 47:=Wt
 repeat (first|with_reducible (refine q9 H ?_;constructor)|simp only[rB,rP,rQ,q8,qa,q7,qb,reduceIte,reduceCtorEq,Nat.reduceAdd,Nat.reduceLT,Nat.reduceEqDiff,UInt8.reduceToNat,pe3,pf3,zz,qr,h1,h2,ql,zD,h3,sl,h4,ix,gz,Tryz.results139])
 exact hk
theorem qm8:∀ {o:Nat} {cs l:List AV},ZB o cs=some l→∀ r,l[r]?=cs[o+r]?
 | 0,cs,l,h,r=>by
  simp only[ZB] at h
  cases h
  rw[Nat.zero_add]
 | o+1,[],l,h,r=>by cases h
 | o+1,x::cs,l,h,r=>by
  have:=qm8 (o:=o) (cs:=cs) (l:=l) h r
  rw[this,show o+1+r=(o+r)+1 from by omega,List.getElem?_cons_succ]
theorem qpc:∀ {n:Nat} {cs l:List AV},ZJ n cs=some l→∀ r,r < n→l[r]?=cs[r]?
 | 0,cs,l,h,r,hr=>absurd hr (Nat.not_lt_zero r)
 | n+1,[],l,h,r,hr=>by cases h
 | n+1,x::cs,l,h,r,hr=>by
  simp only[ZJ] at h
  cases ht:ZJ n cs with
  | none=>rw[ht] at h;cases h
  | some m =>
   rw[ht] at h
   cases h
   cases r with
   | zero=>rfl
   | succ r=>simpa using qpc ht r (by omega)
theorem qus {o n:Nat} {cs l:List AV} (h:ZF o n cs=some l) (r:Nat) (hr:r < n):cs[o+r]?=l[r]?:=by
 unfold ZF at h
 cases hd:ZB o cs with
 | none=>rw[hd] at h;cases h
 | some m =>
  rw[hd] at h
  rw[← qm8 hd r]
  exact (qpc h r hr).symm
theorem EsV.idx4 {s:St} {V:AV} {es:List En} (h:EsV s V es) {k:Nat} {e:En} (hk:es[k]?=some e):∃ id o,qL TE 29 V (.raw (.int .i64 (k:Int)))=some (.ptr id o)∧Q3 TE s 34 (.ptr id o)=some (agE e)∧ldO (s.h.get id) (o+0)=some (.str e.1)∧ldO (s.h.get id) (o+1)=some (.raw (.int .i64 e.2.1))∧(∀ b,inO (s.h.get id) b=b)∧∃ ob,s.h.get id=some ob∧WA ob ob=true:=by
 obtain⟨id,o,a1,a2,a3,a4,a5⟩:=h.idx hk
 refine⟨id,o,a1,a2,a3,?_,a4,a5⟩
 rcases h with⟨⟨a,c,rfl⟩,rfl⟩|⟨id',off,ci,l,z,rfl,rfl⟩|⟨id',off,ci,cap,ex,cs,ob,rfl,hg,ho,hbq,hc⟩
 ·simp at hk
 ·simp at hk
 ·have hlt:=(List.getElem?_eq_some_iff.mp hk).1
  rw[q2r hlt] at a1
  cases a1
  have hcut:=hc k e hk
  have h1:=qus hcut 1 (by omega)
  rcases ho with⟨fz,rfl⟩|rfl
  ·rw[hg]
   exact h1
  ·rw[hg]
   exact h1
theorem KV {x o:Nat}:qk TE 34 (.ptr x o) 1=some (.ptr x (o+1)):=by kernel_rfl
def q43 (e a:En):Bool:=bif a.2.1 != 1 then (bif a.2.1 != 5 then qzw e.1 a.1 else false) else false
def qsl (e:En) (pre:List En):Bool:=match pre[pre.length - 1]? with|none=>false|some a=>!QW a.1 e.1
def qav (e:En) (pre:List En):Int:=bif qsl e pre then 1304 else bif pre.any (q43 e) then 1305 else 0
theorem qrw {s:St} (H:Ok TE Tryz.prog pr3) (hB:qc s) {V:AV} {e:En} {pre:List En} (hV:EsV s V pre) (hpre:∀ a∈pre,a.1.length≤1048575) (hlen:pre.length≤1000000) {kr kp:AV→St→Bool} (hk:∀ s',Ext s s'→qc s'→kr (.raw (.int .i64 (qav e pre))) s'=true) :
  (sem Tryz.prog).call 114 [V,agE e] s kr kp=true:=by
 refine qp H 52 q09 rfl rfl ?_
 have hB1:qc (s.alloc (.cells (celE e) 34 0)):=qx hB _
 have hE1:Ext s (s.alloc (.cells (celE e) 34 0)):=Ext.alloc s _
 have hV1:=hV.ext hB hE1
 have c1:(s.alloc (.cells (celE e) 34 0)).h.get s.nx=some (.cells (celE e) 34 0):=qu
 have hag:agE e=.agg (celE e):=rfl
 have hk:=hk _ hE1 hB1
 unfold qav at hk
 rw[hag]
 have vl:=hV.len
 have vi:=hV.ids
 repeat (first|with_reducible (refine q9 H ?_;constructor)|simp only[rB,rP,rQ,q8,qa,q7,qb,reduceIte,reduceCtorEq,Nat.reduceAdd,Nat.reduceLT,Nat.reduceEqDiff,UInt8.reduceToNat,pe3,pf3,qf])
 generalize s.alloc (.cells (celE e) 34 0)=s1 at *
 cases hz:pre with
 | nil =>
  subst hz
  have g1:decide ((([]:List En).length:Int) > 0)=false:=rfl
  have e0:qsl e []=false:=rfl
  rw[e0,cond_false] at hk
  have g2:decide ((0:Int) < (([]:List En).length:Int))=false:=rfl
  repeat (first|with_reducible (refine q9 H ?_;constructor)|simp only[rB,rP,rQ,q8,qa,q7,qb,reduceIte,reduceCtorEq,Nat.reduceAdd,Nat.reduceLT,Nat.reduceEqDiff,UInt8.reduceToNat,pe3,pf3,vl,vi,zD,g1]|(with_reducible refine qy H (i:=1) (.take 0 (.take 1 (.take 2 (.take 3 (.take 4 (.take 5 (.take 6 (.take 7 (.take 8 (.take 9 (.take 10 (.take 11 (.take 12 (.alt 13 [0,1,2,3,4,5,6,7,8,9,10,11,12] (.take 14 (.take 15 (.done))) (.yes))))))))))))))) rfl (by kernel_rfl) ?_))
  refine qfp H ?_
  repeat (first|with_reducible (refine q9 H ?_;constructor)|simp only[rB,rP,rQ,q8,qa,q7,qb,reduceIte,reduceCtorEq,Nat.reduceAdd,Nat.reduceLT,Nat.reduceEqDiff,UInt8.reduceToNat,pe3,pf3,vl,vi,zJ,g2,Tryz.results114])
  exact hk
 | cons p0 pr =>
  have hpos:0 < pre.length:=by rw[hz];simp
  have g1:decide ((pre.length:Int) > 0)=true:=by rw[decide_eq_true_eq];omega
  have hl:pre.length - 1 < pre.length:=by omega
  have hke:pre[pre.length - 1]?=some pre[pre.length - 1]:=List.getElem?_eq_getElem hl
  have hmem:=List.getElem_mem hl
  have hlate:qsl e pre=!QW (pre[pre.length - 1]).1 e.1:=by
   unfold qsl
   rw[hke]
  rw[hlate] at hk
  generalize pre[pre.length - 1]=a at hke hmem hk
  obtain⟨id,o,y1,y2,y3,y5,y4,-⟩:=hV1.idx4 hke
  have ew:IntKind.i64.wrap ((pre.length:Int) - 1)=((pre.length - 1:Nat):Int):=by
   rw[show ((pre.length:Int) - 1)=((pre.length - 1:Nat):Int) from by omega]
   exact qU (by omega)
  repeat (first|with_reducible (refine q9 H ?_;constructor)|simp only[rB,rP,rQ,q8,qa,q7,qb,reduceIte,reduceCtorEq,Nat.reduceAdd,Nat.reduceLT,Nat.reduceEqDiff,UInt8.reduceToNat,pe3,pf3,vl,vi,zD,g1,zf,ew,y1,y3,y4,c1,Q6,qg,qD,zm,ze]|(with_reducible refine qy H (i:=1) (.take 0 (.take 1 (.take 2 (.take 3 (.take 4 (.take 5 (.take 6 (.take 7 (.take 8 (.take 9 (.take 10 (.take 11 (.take 12 (.alt 13 [0,1,2,3,4,5,6,7,8,9,10,11,12] (.take 14 (.take 15 (.done))) (.yes))))))))))))))) rfl (by kernel_rfl) ?_))
  refine qf9 H (hpre _ hmem) ?_
  cases hles:QW a.1 e.1 with
  | false =>
   rw[hles] at hk
   repeat (first|with_reducible (refine q9 H ?_;constructor)|simp only[rB,rP,rQ,q8,qa,q7,qb,reduceIte,reduceCtorEq,Nat.reduceAdd,Nat.reduceLT,Nat.reduceEqDiff,UInt8.reduceToNat,pe3,pf3,vl,vi,y1,y3,y4,c1,Q6,qg,qD,zm,ze,Bool.not_false,Tryz.results114])
   exact hk
  | true =>
   rw[hles,Bool.not_true,cond_false] at hk
   repeat (first|with_reducible (refine q9 H ?_;constructor)|simp only[rB,rP,rQ,q8,qa,q7,qb,reduceIte,reduceCtorEq,Nat.reduceAdd,Nat.reduceLT,Nat.reduceEqDiff,UInt8.reduceToNat,pe3,pf3,vl,vi,y1,y3,y4,c1,Q6,qg,qD,zm,ze,Bool.not_true])
   refine qB H (fun n t s'=>∃ k:Nat,n+k=pre.length∧s'=s1∧tg t 0=V∧tg t 3=.ptr s.nx 0∧tg t 5=.raw (.int .i64 (k:Int))∧pre.any (q43 e)=(pre.drop k).any (q43 e)) (n:=pre.length)
    (by
     refine⟨0,rfl,rfl,?_,?_,?_,rfl⟩
     ·simp only[rB,rP,rQ,q8,qa,q7,qb,reduceIte,reduceCtorEq,Nat.reduceAdd,Nat.reduceLT,Nat.reduceEqDiff,UInt8.reduceToNat]
     ·simp only[rB,rP,rQ,q8,qa,q7,qb,reduceIte,reduceCtorEq,Nat.reduceAdd,Nat.reduceLT,Nat.reduceEqDiff,UInt8.reduceToNat]
     ·simp only[rB,rP,rQ,q8,qa,q7,qb,reduceIte,reduceCtorEq,Nat.reduceAdd,Nat.reduceLT,Nat.reduceEqDiff,UInt8.reduceToNat]
      rfl) ?_
   rintro n t s' ih ⟨k,hn,rfl,t0,t3,t5,hany⟩
   cases n with
   | zero =>
    have g0:decide ((k:Int) < (pre.length:Int))=false:=by rw[decide_eq_false_iff_not];omega
    rw[List.drop_eq_nil_of_le (by omega)] at hany
    rw[hany] at hk
    repeat (first|with_reducible (refine q9 H ?_;constructor)|simp only[rB,rP,rQ,q8,qa,q7,qb,reduceIte,reduceCtorEq,Nat.reduceAdd,Nat.reduceLT,Nat.reduceEqDiff,UInt8.reduceToNat,pe3,pf3,t0,t3,t5,vl,vi,zJ,g0,Tryz.results114])
    exact hk
   | succ n =>
    have hlt:k < pre.length:=by omega
    have g0:decide ((k:Int) < (pre.length:Int))=true:=by rw[decide_eq_true_eq];omega
    have e2:IntKind.i64.wrap ((k:Int)+1)=((k+1:Nat):Int):=by
     rw[show (k:Int)+1=((k+1:Nat):Int) from by simp]
     exact qU (by omega)
    have hkk:pre[k]?=some pre[k]:=List.getElem?_eq_getElem hlt
    rw[List.drop_eq_getElem_cons hlt,List.any_cons] at hany
    generalize pre[k]=b at hkk hany
    obtain⟨id2,o2,x1,x2,x3,x5,x4,-⟩:=hV1.idx4 hkk
    have hb:q43 e b=(bif b.2.1 != 1 then (bif b.2.1 != 5 then qzw e.1 b.1 else false) else false):=rfl
    cases k1:b.2.1 != 1 with
    | false =>
     rw[hb,k1,cond_false,Bool.false_or] at hany
     repeat (first|with_reducible (refine q9 H ?_;constructor)|simp only[rB,rP,rQ,q8,qa,q7,qb,reduceIte,reduceCtorEq,Nat.reduceAdd,Nat.reduceLT,Nat.reduceEqDiff,UInt8.reduceToNat,pe3,pf3,t0,t3,t5,vl,vi,zJ,g0,x1,x3,x5,x4,c1,Q6,KV,qg,qD,qK,zm,ze,qH,k1,qI,e2]|(with_reducible refine qy H (i:=6) (.take 0 (.take 1 (.take 2 (.take 3 (.take 4 (.take 5 (.take 6 (.take 7 (.take 8 (.take 9 (.take 10 (.take 11 (.take 12 (.take 13 (.take 14 (.take 15 (.take 16 (.take 17 (.take 18 (.take 19 (.take 20 (.take 21 (.alt 22 [0,1,2,3,4,5,6,7,8,9,10,11,12,13,14,15,16,17,18,19,20,21] (.take 23 (.done)) (.yes)))))))))))))))))))))))) rfl (by kernel_rfl) ?_))
     refine ih n _ _ (Nat.lt_succ_self n) ?_
     refine⟨k+1,by omega,rfl,?_,?_,?_,hany⟩
     ·simp only[rB,rP,rQ,q8,qa,q7,qb,reduceIte,reduceCtorEq,Nat.reduceAdd,Nat.reduceLT,Nat.reduceEqDiff,UInt8.reduceToNat,t0]
     ·simp only[rB,rP,rQ,q8,qa,q7,qb,reduceIte,reduceCtorEq,Nat.reduceAdd,Nat.reduceLT,Nat.reduceEqDiff,UInt8.reduceToNat,t3]
     ·simp only[rB,rP,rQ,q8,qa,q7,qb,reduceIte,reduceCtorEq,Nat.reduceAdd,Nat.reduceLT,Nat.reduceEqDiff,UInt8.reduceToNat]
    | true =>
     cases k2:b.2.1 != 5 with
     | false =>
      rw[hb,k1,k2,cond_true,cond_false,Bool.false_or] at hany
      repeat (first|with_reducible (refine q9 H ?_;constructor)|simp only[rB,rP,rQ,q8,qa,q7,qb,reduceIte,reduceCtorEq,Nat.reduceAdd,Nat.reduceLT,Nat.reduceEqDiff,UInt8.reduceToNat,pe3,pf3,t0,t3,t5,vl,vi,zJ,g0,x1,x3,x5,x4,c1,Q6,KV,qg,qD,qK,zm,ze,qH,k1,k2,qI,e2]|(with_reducible refine qy H (i:=6) (.take 0 (.take 1 (.take 2 (.take 3 (.take 4 (.take 5 (.take 6 (.take 7 (.take 8 (.take 9 (.take 10 (.take 11 (.take 12 (.take 13 (.take 14 (.take 15 (.take 16 (.take 17 (.take 18 (.take 19 (.take 20 (.take 21 (.alt 22 [0,1,2,3,4,5,6,7,8,9,10,11,12,13,14,15,16,17,18,19,20,21] (.take 23 (.done)) (.yes)))))))))))))))))))))))) rfl (by kernel_rfl) ?_))
      refine ih n _ _ (Nat.lt_succ_self n) ?_
      refine⟨k+1,by omega,rfl,?_,?_,?_,hany⟩
      ·simp only[rB,rP,rQ,q8,qa,q7,qb,reduceIte,reduceCtorEq,Nat.reduceAdd,Nat.reduceLT,Nat.reduceEqDiff,UInt8.reduceToNat,t0]
      ·simp only[rB,rP,rQ,q8,qa,q7,qb,reduceIte,reduceCtorEq,Nat.reduceAdd,Nat.reduceLT,Nat.reduceEqDiff,UInt8.reduceToNat,t3]
      ·simp only[rB,rP,rQ,q8,qa,q7,qb,reduceIte,reduceCtorEq,Nat.reduceAdd,Nat.reduceLT,Nat.reduceEqDiff,UInt8.reduceToNat]
     | true =>
      rw[hb,k1,k2,cond_true,cond_true] at hany
      repeat (first|with_reducible (refine q9 H ?_;constructor)|simp only[rB,rP,rQ,q8,qa,q7,qb,reduceIte,reduceCtorEq,Nat.reduceAdd,Nat.reduceLT,Nat.reduceEqDiff,UInt8.reduceToNat,pe3,pf3,t0,t3,t5,vl,vi,zJ,g0,x1,x3,x5,x4,c1,Q6,KV,qg,qD,qK,zm,ze,qH,k1,k2]|(with_reducible refine qy H (i:=6) (.take 0 (.take 1 (.take 2 (.take 3 (.take 4 (.take 5 (.take 6 (.take 7 (.take 8 (.take 9 (.take 10 (.take 11 (.take 12 (.take 13 (.take 14 (.take 15 (.take 16 (.take 17 (.take 18 (.take 19 (.take 20 (.take 21 (.alt 22 [0,1,2,3,4,5,6,7,8,9,10,11,12,13,14,15,16,17,18,19,20,21] (.take 23 (.done)) (.yes)))))))))))))))))))))))) rfl (by kernel_rfl) ?_))
      refine qs3 H ?_
      cases k3:qzw e.1 b.1 with
      | true =>
       rw[k3,Bool.true_or] at hany
       rw[hany] at hk
       repeat (first|with_reducible (refine q9 H ?_;constructor)|simp only[rB,rP,rQ,q8,qa,q7,qb,reduceIte,reduceCtorEq,Nat.reduceAdd,Nat.reduceLT,Nat.reduceEqDiff,UInt8.reduceToNat,pe3,pf3,t0,t3,t5,vl,vi,x1,x3,x5,x4,c1,Q6,KV,qg,qD,qK,zm,ze,k1,k2,Tryz.results114])
       exact hk
      | false =>
       rw[k3,Bool.false_or] at hany
       repeat (first|with_reducible (refine q9 H ?_;constructor)|simp only[rB,rP,rQ,q8,qa,q7,qb,reduceIte,reduceCtorEq,Nat.reduceAdd,Nat.reduceLT,Nat.reduceEqDiff,UInt8.reduceToNat,pe3,pf3,t0,t3,t5,vl,vi,x1,x3,x5,x4,c1,Q6,KV,qg,qD,qK,zm,ze,k1,k2,qI,e2])
       refine ih n _ _ (Nat.lt_succ_self n) ?_
       refine⟨k+1,by omega,rfl,?_,?_,?_,hany⟩
       ·simp only[rB,rP,rQ,q8,qa,q7,qb,reduceIte,reduceCtorEq,Nat.reduceAdd,Nat.reduceLT,Nat.reduceEqDiff,UInt8.reduceToNat,t0]
       ·simp only[rB,rP,rQ,q8,qa,q7,qb,reduceIte,reduceCtorEq,Nat.reduceAdd,Nat.reduceLT,Nat.reduceEqDiff,UInt8.reduceToNat,t3]
       ·simp only[rB,rP,rQ,q8,qa,q7,qb,reduceIte,reduceCtorEq,Nat.reduceAdd,Nat.reduceLT,Nat.reduceEqDiff,UInt8.reduceToNat]
def qdg (k:Int):Bool:=bif decide (k < 1) then true else decide (k > 5)
def qd3 (e:En) (pre:List En):Int:=bif qdg e.2.1 then 1302 else bif eqB e.1 [] then 1303 else bif Q4 e.1 then (bif qav e pre != 0 then qav e pre else bif Jd e then (bif Yh e.2.1 (e.2.2.2.length:Int) then (bif e.2.1==3 then (bif qjx e.2.2.2 then 0 else 1308) else 0) else 1307) else 1306) else 1303
theorem qx8 {s:St} (H:Ok TE Tryz.prog pr3) (hB:qc s) {V:AV} {e:En} {pre:List En} (hV:EsV s V pre) (hp:e.1.length≤1048575) (hpre:∀ a∈pre,a.1.length≤1048575) (hlen:pre.length≤1000000) {kr kp:AV→St→Bool} (hk:∀ s',Ext s s'→qc s'→kr (.raw (.int .i64 (qd3 e pre))) s'=true) :
  (sem Tryz.prog).call 79 [V,agE e] s kr kp=true:=by
 refine qp H 53 q5a rfl rfl ?_
 have hB1:qc (s.alloc (.cells (celE e) 34 0)):=qx hB _
 have hE1:Ext s (s.alloc (.cells (celE e) 34 0)):=Ext.alloc s _
 have hV1:=hV.ext hB hE1
 have c1:(s.alloc (.cells (celE e) 34 0)).h.get s.nx=some (.cells (celE e) 34 0):=qu
 have hag:agE e=.agg (celE e):=rfl
 unfold qd3 at hk
 rw[hag]
 repeat (first|with_reducible (refine q9 H ?_;constructor)|simp only[rB,rP,rQ,q8,qa,q7,qb,reduceIte,reduceCtorEq,Nat.reduceAdd,Nat.reduceLT,Nat.reduceEqDiff,UInt8.reduceToNat,pe3,pf3,qf])
 generalize s.alloc (.cells (celE e) 34 0)=s1 at *
 cases k1:decide (e.2.1 < 1) with
 | true =>
  have hkd:qdg e.2.1=true:=by unfold qdg;rw[k1];rfl
  rw[hkd] at hk
  repeat (first|with_reducible (refine q9 H ?_;constructor)|simp only[rB,rP,rQ,q8,qa,q7,qb,reduceIte,reduceCtorEq,Nat.reduceAdd,Nat.reduceLT,Nat.reduceEqDiff,UInt8.reduceToNat,pe3,pf3,c1,qg,qh,qi,qj,qD,qK,zm,zR,Qo,Qm,ze,zo,zJ,k1,Tryz.results79])
  exact hk s1 hE1 hB1
 | false =>
 cases k2:decide (e.2.1 > 5) with
 | true =>
  have hkd:qdg e.2.1=true:=by unfold qdg;rw[k1,k2];rfl
  rw[hkd] at hk
  repeat (first|with_reducible (refine q9 H ?_;constructor)|simp only[rB,rP,rQ,q8,qa,q7,qb,reduceIte,reduceCtorEq,Nat.reduceAdd,Nat.reduceLT,Nat.reduceEqDiff,UInt8.reduceToNat,pe3,pf3,c1,qg,qh,qi,qj,qD,qK,zm,zR,Qo,Qm,ze,zo,zJ,zD,k1,k2,Tryz.results79])
  exact hk s1 hE1 hB1
 | false =>
 have hkd:qdg e.2.1=false:=by unfold qdg;rw[k1,k2];rfl
 rw[hkd,cond_false] at hk
 cases k3:eqB e.1 [] with
 | true =>
  rw[k3] at hk
  repeat (first|with_reducible (refine q9 H ?_;constructor)|simp only[rB,rP,rQ,q8,qa,q7,qb,reduceIte,reduceCtorEq,Nat.reduceAdd,Nat.reduceLT,Nat.reduceEqDiff,UInt8.reduceToNat,pe3,pf3,c1,qg,qh,qi,qj,qD,qK,zm,zR,Qo,Qm,ze,zo,zJ,zD,k1,k2,zz,k3,Tryz.results79])
  exact hk s1 hE1 hB1
 | false =>
 rw[k3,cond_false] at hk
 repeat (first|with_reducible (refine q9 H ?_;constructor)|simp only[rB,rP,rQ,q8,qa,q7,qb,reduceIte,reduceCtorEq,Nat.reduceAdd,Nat.reduceLT,Nat.reduceEqDiff,UInt8.reduceToNat,pe3,pf3,c1,qg,qh,qi,qj,qD,qK,zm,zR,Qo,Qm,ze,zo,zJ,zD,k1,k2,zz,k3])
 refine Vc H hp ?_
 cases k4:Q4 e.1 with
 | false =>
  rw[k4] at hk
  repeat (first|with_reducible (refine q9 H ?_;constructor)|simp only[rB,rP,rQ,q8,qa,q7,qb,reduceIte,reduceCtorEq,Nat.reduceAdd,Nat.reduceLT,Nat.reduceEqDiff,UInt8.reduceToNat,pe3,pf3,Bool.not_false,Tryz.results79])
  exact hk s1 hE1 hB1
 | true =>
 rw[k4,cond_true] at hk
 repeat (first|with_reducible (refine q9 H ?_;constructor)|simp only[rB,rP,rQ,q8,qa,q7,qb,reduceIte,reduceCtorEq,Nat.reduceAdd,Nat.reduceLT,Nat.reduceEqDiff,UInt8.reduceToNat,pe3,pf3,Bool.not_true,c1,QM,Qe,qN])
 refine qrw H hB1 hV1 hpre hlen (fun s2 hE2 hB2=>?_)
 have c2:=(hE2.2 _ (hB1 _ _ c1)).trans c1
 have hEs2:=hE1.trans hE2
 cases h2:qav e pre != 0 with
 | true =>
  rw[h2,cond_true] at hk
  repeat (first|with_reducible (refine q9 H ?_;constructor)|simp only[rB,rP,rQ,q8,qa,q7,qb,reduceIte,reduceCtorEq,Nat.reduceAdd,Nat.reduceLT,Nat.reduceEqDiff,UInt8.reduceToNat,pe3,pf3,qH,h2,Tryz.results79])
  exact hk s2 hEs2 hB2
 | false =>
 rw[h2,cond_false] at hk
 repeat (first|with_reducible (refine q9 H ?_;constructor)|simp only[rB,rP,rQ,q8,qa,q7,qb,reduceIte,reduceCtorEq,Nat.reduceAdd,Nat.reduceLT,Nat.reduceEqDiff,UInt8.reduceToNat,pe3,pf3,qH,h2,c2,QM,Qe,qN])
 refine qvf H hB2 (fun s3 hE3 hB3=>?_)
 have c3:=(hE3.2 _ (hB2 _ _ c2)).trans c2
 have hEs3:=hEs2.trans hE3
 cases h3:Jd e with
 | false =>
  rw[h3,cond_false] at hk
  repeat (first|with_reducible (refine q9 H ?_;constructor)|simp only[rB,rP,rQ,q8,qa,q7,qb,reduceIte,reduceCtorEq,Nat.reduceAdd,Nat.reduceLT,Nat.reduceEqDiff,UInt8.reduceToNat,pe3,pf3,Bool.not_false,Tryz.results79])
  exact hk s3 hEs3 hB3
 | true =>
 rw[h3,cond_true] at hk
 repeat (first|with_reducible (refine q9 H ?_;constructor)|simp only[rB,rP,rQ,q8,qa,q7,qb,reduceIte,reduceCtorEq,Nat.reduceAdd,Nat.reduceLT,Nat.reduceEqDiff,UInt8.reduceToNat,pe3,pf3,Bool.not_true,c3,qg,qh,qi,qj,qD,qK,zm,zR,Qo,Qm,ze,zo,zM,zP,ql])
 refine qml H ?_
 cases h4:Yh e.2.1 (e.2.2.2.length:Int) with
 | false =>
  rw[h4,cond_false] at hk
  repeat (first|with_reducible (refine q9 H ?_;constructor)|simp only[rB,rP,rQ,q8,qa,q7,qb,reduceIte,reduceCtorEq,Nat.reduceAdd,Nat.reduceLT,Nat.reduceEqDiff,UInt8.reduceToNat,pe3,pf3,Bool.not_false,Tryz.results79])
  exact hk s3 hEs3 hB3
 | true =>
 rw[h4,cond_true] at hk
 cases h5:e.2.1==3 with
 | false =>
  rw[h5,cond_false] at hk
  repeat (first|with_reducible (refine q9 H ?_;constructor)|simp only[rB,rP,rQ,q8,qa,q7,qb,reduceIte,reduceCtorEq,Nat.reduceAdd,Nat.reduceLT,Nat.reduceEqDiff,UInt8.reduceToNat,pe3,pf3,Bool.not_true,c3,qg,qh,qi,qj,qD,qK,zm,zR,Qo,Qm,ze,zo,zM,zP,qr,h5,Tryz.results79])
  exact hk s3 hEs3 hB3
 | true =>
 rw[h5,cond_true] at hk
 have hd64:e.2.2.2.length≤1048576:=by
  have hk3:e.2.1=3:=by simpa using h5
  have hne:((3:Int)==2)=false:=rfl
  have heq:((3:Int)==3)=true:=rfl
  unfold Yh at h4
  rw[hk3,hne,heq,cond_false,cond_true] at h4
  cases h7:decide ((e.2.2.2.length:Int) ≥ 1) with
  | false=>rw[h7] at h4;cases h4
  | true =>
   rw[h7,cond_true] at h4
   have:=of_decide_eq_true h4
   omega
 repeat (first|with_reducible (refine q9 H ?_;constructor)|simp only[rB,rP,rQ,q8,qa,q7,qb,reduceIte,reduceCtorEq,Nat.reduceAdd,Nat.reduceLT,Nat.reduceEqDiff,UInt8.reduceToNat,pe3,pf3,Bool.not_true,c3,qg,qh,qi,qj,qD,qK,zm,zR,Qo,Qm,ze,zo,zM,zP,qr,h5])
 refine qm6 H hd64 ?_
 cases h6:qjx e.2.2.2 with
 | false =>
  rw[h6,cond_false] at hk
  repeat (first|with_reducible (refine q9 H ?_;constructor)|simp only[rB,rP,rQ,q8,qa,q7,qb,reduceIte,reduceCtorEq,Nat.reduceAdd,Nat.reduceLT,Nat.reduceEqDiff,UInt8.reduceToNat,pe3,pf3,Bool.not_false,Tryz.results79])
  exact hk s3 hEs3 hB3
 | true =>
  rw[h6,cond_true] at hk
  repeat (first|with_reducible (refine q9 H ?_;constructor)|simp only[rB,rP,rQ,q8,qa,q7,qb,reduceIte,reduceCtorEq,Nat.reduceAdd,Nat.reduceLT,Nat.reduceEqDiff,UInt8.reduceToNat,pe3,pf3,Bool.not_true,Tryz.results79])
  exact hk s3 hEs3 hB3
def Kc (es:List En):Nat→List En→Int × Int
 | _,[]=>(0,0)
 | k,e::l=>bif qd3 e (es.take k) != 0 then ((k:Int),qd3 e (es.take k)) else Kc es (k+1) l
def qbv (es:List En):Int × Int:=bif decide ((es.length:Int) > 256) then (0,1309) else Kc es 0 es
theorem qdo {s:St} (H:Ok TE Tryz.prog pr3) (hB:qc s) {V:AV} {es:List En} (hV:EsV s V es) (hc:qp4 V) (hp:∀ e∈es,e.1.length≤1048575) (h1:V.cells=[V]) (h2:V.one=true) {kr kp:AV→St→Bool}
  (hk:∀ s',Ext s s'→qc s'→kr (.tuple [.raw (.int .i64 (qbv es).1),.raw (.int .i64 (qbv es).2)]) s'=true) :
  (sem Tryz.prog).call 40 [.agg [V]] s kr kp=true:=by
 refine qp H 31 q8j rfl rfl ?_
 have hB1:qc (s.alloc (.cells [V] 49 0)):=qx hB _
 have hE1:Ext s (s.alloc (.cells [V] 49 0)):=Ext.alloc s _
 have c1:(s.alloc (.cells [V] 49 0)).h.get s.nx=some (.cells [V] 49 0):=qu
 unfold qbv at hk
 have vl:=hV.len
 have vi:=hV.ids
 repeat (first|with_reducible (refine q9 H ?_;constructor)|simp only[rB,rP,rQ,q8,qa,q7,qb,reduceIte,reduceCtorEq,Nat.reduceAdd,Nat.reduceLT,Nat.reduceEqDiff,UInt8.reduceToNat,pe3,pf3,qf])
 generalize s.alloc (.cells [V] 49 0)=s1 at *
 cases hl:decide ((es.length:Int) > 256) with
 | true =>
  rw[hl,cond_true] at hk
  repeat (first|with_reducible (refine q9 H ?_;constructor)|simp only[rB,rP,rQ,q8,qa,q7,qb,reduceIte,reduceCtorEq,Nat.reduceAdd,Nat.reduceLT,Nat.reduceEqDiff,UInt8.reduceToNat,pe3,pf3,c1,YM,VO,vl,vi,zD,hl,Tryz.results40])
  exact hk s1 hE1 hB1
 | false =>
 rw[hl,cond_false] at hk
 have hl:=of_decide_eq_false hl
 have hl':decide ((es.length:Int) > 256)=false:=decide_eq_false hl
 repeat (first|with_reducible (refine q9 H ?_;constructor)|simp only[rB,rP,rQ,q8,qa,q7,qb,reduceIte,reduceCtorEq,Nat.reduceAdd,Nat.reduceLT,Nat.reduceEqDiff,UInt8.reduceToNat,pe3,pf3,c1,YM,VO,vl,vi,zD,hl'])
 refine qB H (fun n t s'=>∃ k:Nat,n+k=es.length∧tg t 1=.ptr s.nx 0∧tg t 4=.raw (.int .i64 (k:Int))∧Ext s s'∧qc s'∧s'.h.get s.nx=some (.cells [V] 49 0)∧Kc es 0 es=Kc es k (es.drop k)) (n:=es.length)
  ⟨0,rfl,by simp only[rB,rP,rQ,q8,qa,q7,qb,reduceIte,reduceCtorEq,Nat.reduceAdd,Nat.reduceLT,Nat.reduceEqDiff,UInt8.reduceToNat],by simp only[rB,rP,rQ,q8,qa,q7,qb,reduceIte,reduceCtorEq,Nat.reduceAdd,Nat.reduceLT,Nat.reduceEqDiff,UInt8.reduceToNat];rfl,hE1,hB1,c1,rfl⟩ ?_
 rintro n t s' ih ⟨k,hn,t1,t4,hE,hB',hc1,hm⟩
 cases n with
 | zero =>
  have g0:decide ((k:Int) < (es.length:Int))=false:=by rw[decide_eq_false_iff_not];omega
  rw[List.drop_eq_nil_of_le (by omega)] at hm
  rw[hm] at hk
  repeat (first|with_reducible (refine q9 H ?_;constructor)|simp only[rB,rP,rQ,q8,qa,q7,qb,reduceIte,reduceCtorEq,Nat.reduceAdd,Nat.reduceLT,Nat.reduceEqDiff,UInt8.reduceToNat,pe3,pf3,t1,t4,hc1,YM,VO,vl,vi,zJ,g0,Tryz.results40])
  exact hk s' hE hB'
 | succ n =>
  have g0:decide ((k:Int) < (es.length:Int))=true:=by rw[decide_eq_true_eq];omega
  have hlt:k < es.length:=by omega
  have hke:es[k]?=some es[k]:=List.getElem?_eq_getElem hlt
  have hmem:es[k]∈es:=List.getElem_mem hlt
  rw[List.drop_eq_getElem_cons hlt] at hm
  generalize es[k]=e at hke hmem hm
  have hV':=hV.ext hB hE
  obtain⟨id,o,y1,y2,y3,y4,ob,y5,y6⟩:=hV'.idx hke
  obtain⟨V',z1,z2⟩:=hV'.upto hc hlt
  have z4:=z2.ids
  have ew:IntKind.i64.wrap ((k:Int)+1)=((k+1:Nat):Int):=by
   rw[show (k:Int)+1=((k+1:Nat):Int) from by simp]
   exact qU (by omega)
  repeat (first|with_reducible (refine q9 H ?_;constructor)|simp only[rB,rP,rQ,q8,qa,q7,qb,reduceIte,reduceCtorEq,Nat.reduceAdd,Nat.reduceLT,Nat.reduceEqDiff,UInt8.reduceToNat,pe3,pf3,t1,t4,hc1,YM,VO,vl,vi,zJ,g0,y1,y2,y4,z1,z4]|(with_reducible refine qy H (i:=6) (.take 0 (.take 1 (.take 2 (.take 3 (.take 4 (.take 5 (.take 6 (.take 7 (.take 8 (.alt 9 [0,1,2,3,4,5,6,7,8] (.take 10 (.done)) (.yes))))))))))) rfl (by kernel_rfl) ?_))
  refine qx8 H hB' z2 (hp e hmem) (fun a ha=>hp a (List.mem_of_mem_take ha)) (by rw[List.length_take];omega) (fun s4 hE4 hB4=>?_)
  have c5:=(hE4.2 _ (hB' _ _ hc1)).trans hc1
  have y7:=(hE4.2 _ (hB' _ _ y5)).trans y5
  have bv:Zr [V] [V]=true:=by
   rcases hV with⟨_,h⟩|⟨_,_,_,_,_,_,h⟩|⟨id',off,ci,cap,ex,cs,fz,rfl,_⟩
   ·rw[h] at hlt
    exact absurd hlt (Nat.not_lt_zero _)
   ·rw[h] at hlt
    exact absurd hlt (Nat.not_lt_zero _)
   ·simp[Zr,beqA]
  simp only[Kc] at hm
  cases hf:qd3 e (es.take k) != 0 with
  | true =>
   rw[hf,cond_true] at hm
   rw[hm] at hk
   repeat (first|with_reducible (refine q9 H ?_;constructor)|simp only[rB,rP,rQ,q8,qa,q7,qb,reduceIte,reduceCtorEq,Nat.reduceAdd,Nat.reduceLT,Nat.reduceEqDiff,UInt8.reduceToNat,pe3,pf3,t1,t4,hc1,c5,y5,y7,y6,bv,YM,VO,y1,y2,y4,z1,z4,vi,qH,hf,Tryz.results40])
   exact hk s4 (hE.trans hE4) hB4
  | false =>
   rw[hf,cond_false] at hm
   repeat (first|with_reducible (refine q9 H ?_;constructor)|simp only[rB,rP,rQ,q8,qa,q7,qb,reduceIte,reduceCtorEq,Nat.reduceAdd,Nat.reduceLT,Nat.reduceEqDiff,UInt8.reduceToNat,pe3,pf3,t1,t4,hc1,c5,y5,y7,y6,bv,YM,VO,y1,y2,y4,z1,z4,vi,qH,hf,qI,ew])
   refine ih n _ _ (Nat.lt_succ_self n) ?_
   refine⟨k+1,by omega,?_,?_,hE.trans hE4,hB4,c5,hm⟩
   ·simp only[rB,rP,rQ,q8,qa,q7,qb,reduceIte,reduceCtorEq,Nat.reduceAdd,Nat.reduceLT,Nat.reduceEqDiff,UInt8.reduceToNat,t1]
   ·simp only[rB,rP,rQ,q8,qa,q7,qb,reduceIte,reduceCtorEq,Nat.reduceAdd,Nat.reduceLT,Nat.reduceEqDiff,UInt8.reduceToNat]
theorem qw1 {s:St} {x ty fz i:Nat} {cs:List AV} {v:AV} (hi:i < cs.length):stO s x (some (.cells cs ty fz)) i v=some { s with h:=s.h.set x (.cells (cs.set i v) ty fz) }:=by
 have e:JW cs i [v]=some (cs.set i v):=by rw[qgd (v:=v) hi,List.set_eq_take_append_cons_drop,if_pos hi]
 simp only[stO,e]
theorem RowV.put {ty:Nat} {s s':St} {V:AV} {cs:List AV} (h:RowV ty s V cs) {id fz i:Nat} {v:AV} (hb:blk V=some id) (hg:s.h.get id=some (.cells cs ty fz)) (hs:s'.h.get id=some (.cells (cs.set i v) ty fz)):RowV ty s' V (cs.set i v):=by
 rcases h with⟨rfl,rfl⟩|⟨id',ex,fz',rfl,hg',hf⟩
 ·cases hb
 ·cases hb
  rw[hg] at hg'
  cases hg'
  exact Or.inr ⟨id,ex,fz,by rw[List.length_set],hs,hf⟩
def qu0 (R:RM) (u:Nat) (ud:RN) (i j:Nat) (jd:RN) (o:Nat) (od:RN):RM:={ R with nodes:=((R.nodes.set j { jd with up:=some u }).set o { od with up:=none }).set u { ud with kids:=ud.kids.set i j } }
theorem q1h {s:St} {x:Nat} {ι:Nat→Nat} {nd:RN} {V K:AV}:stO s x (some (rnA ι nd V K)) 6 (.raw (.pointer none))=some { s with h:=s.h.set x (rnA ι { nd with up:=none } V K) }:=(rfl)
theorem q7c {s:St} (H:Ok TE Tryz.prog pr3) {x:Nat} {R:RM} {ι:Nat→Nat} {ν κ:Nat→AV} {φ:AV} (Rp:RepR s x R ι ν κ φ) (hB:qc s) {u j o:Nat} {ud jd od:RN} (hu:R.nodes[u]?=some ud) (hj:R.nodes[j]?=some jd) (ho:R.nodes[o]?=some od) (hju:j≠u) (hou:o≠u) (hoj:o≠j) {nm:List Nat} (hold:ZI ud nm=some o)
  {kr kp:AV→St→Bool} (hk:∀ s',RepR s' x (qu0 R u ud (zH nm ud.names) j jd o od) ι ν κ φ→qc s'→Nxt s s' (Jz x R ι ν κ φ) (Jz x (qu0 R u ud (zH nm ud.names) j jd o od) ι ν κ φ)→kr (.tuple []) s'=true) :
  (sem Tryz.prog).call 56 [.ptr (ι u) 0,.str nm,.ptr (ι j) 0] s kr kp=true:=by
 refine qp H 68 qy6 rfl rfl ?_
 obtain⟨u1,u2,u3⟩:=Rp.nd u ud hu
 obtain⟨j1,j2,j3⟩:=Rp.nd j jd hj
 obtain⟨o1,o2,o3⟩:=Rp.nd o od ho
 have hul:=(List.getElem?_eq_some_iff.mp hu).1
 have hjl:=(List.getElem?_eq_some_iff.mp hj).1
 have hol:=(List.getElem?_eq_some_iff.mp ho).1
 obtain⟨n1,n2⟩:=Rp.nn u ud hu
 have hko:ud.kids[zH nm ud.names]?=some o:=by
  unfold ZI at hold
  cases hh:qri nm ud.names with
  | false=>rw[hh] at hold;cases hold
  | true=>rw[hh] at hold;exact hold
 have hpk:(Qh ι ud.kids)[zH nm ud.names]?=some (.ptr (ι o) 0):=by
  unfold Qh
  rw[List.getElem?_map,hko]
  rfl
 obtain⟨id,ix,ld,inn,hb,fz,hg⟩:=u3.at qt6 hpk
 have hpl:=(List.getElem?_eq_some_iff.mp hpk).1
 have hkl:=(List.getElem?_eq_some_iff.mp hko).1
 have m1:(ι o=ι j)=False:=by simp;exact fun e=>hoj (Rp.ij _ _ hol hjl e)
 have m2:(ι u=ι o)=False:=by simp;exact fun e=>hou (Rp.ij _ _ hul hol e).symm
 have m3:(ι u=ι j)=False:=by simp;exact fun e=>hju (Rp.ij _ _ hul hjl e).symm
 have k1:id≠ι j:=Rp.ki hul hjl hb
 have k2:id≠ι o:=Rp.ki hul hol hb
 have k3:id≠ι u:=Rp.ki hul hul hb
 have m4:(id=ι o)=False:=by simp;exact k2
 have m5:(id=ι j)=False:=by simp;exact k1
 repeat (first|with_reducible (refine q9 H ?_;constructor)|simp only[rB,rP,rQ,q8,qa,q7,qb,reduceIte,reduceCtorEq,Nat.reduceAdd,Nat.reduceLT,Nat.reduceEqDiff,UInt8.reduceToNat,pe3,pf3])
 refine qsa H u1 u2 u3 n1 (by omega) ?_
 rw[hold]
 have sts:=fun {s:St}=>qw1 (s:=s) (x:=id) (ty:=75) (fz:=fz) (i:=zH nm ud.names) (cs:=Qh ι ud.kids) (v:=.ptr (ι j) 0) hpl
 repeat (first|with_reducible (refine q9 H ?_;constructor)|simp only[rB,rP,rQ,q8,qa,q7,qb,reduceIte,reduceCtorEq,Nat.reduceAdd,Nat.reduceLT,Nat.reduceEqDiff,UInt8.reduceToNat,pe3,pf3,qV,qfd,qv4,qyc,qft,j1,o1,u1,m1,m2,m3,m4,m5,qt0,qa3,q26,q1h,Option.map_some,QD,qka,qr8,ix,hg,sts,Tryz.results56])
 obtain⟨Rp1,N1⟩:=Rp.node hB hj (nd':={ jd with up:=some u }) (V':=ν j) (K':=κ j) (s':={ h:=s.h.set (ι j) (rnA ι { jd with up:=some u } (ν j) (κ j)),nx:=s.nx }) hs_same (j2.keep (fun b hb=>qe (Rp.vi hjl hjl hb))) (j3.keep (fun b hb=>qe (Rp.ki hjl hjl hb))) (fun b hb=>Or.inl hb) (fun b hb=>Or.inl hb) (Nat.le_refl _) (fun i hi h1 _ _=>qe h1) (Rp.kd j jd hj) (fun w hw=>by cases hw;exact hul) (Rp.nn j jd hj)
 rw[Qk,Qk] at Rp1 N1
 have B1:qc ({ h:=s.h.set (ι j) (rnA ι { jd with up:=some u } (ν j) (κ j)),nx:=s.nx }:St):=qn hB (Rp.li hB hjl) _
 have ho1:(R.nodes.set j { jd with up:=some u })[o]?=some od:=by rw[List.getElem?_set_ne (Ne.symm hoj)];exact ho
 obtain⟨p1,p2,p3⟩:=Rp1.nd o od ho1
 have hjl1:o < (R.nodes.set j { jd with up:=some u }).length:=by rw[List.length_set];exact hol
 obtain⟨Rp2,N2⟩:=Rp1.node B1 ho1 (nd':={ od with up:=none }) (V':=ν o) (K':=κ o) (s':={ h:=(s.h.set (ι j) (rnA ι { jd with up:=some u } (ν j) (κ j))).set (ι o) (rnA ι { od with up:=none } (ν o) (κ o)),nx:=s.nx }) hs_same (p2.keep (fun b hb=>qe (Rp1.vi hjl1 hjl1 hb))) (p3.keep (fun b hb=>qe (Rp1.ki hjl1 hjl1 hb))) (fun b hb=>Or.inl hb) (fun b hb=>Or.inl hb) (Nat.le_refl _) (fun i hi h1 _ _=>qe h1) (Rp1.kd o od ho1) (fun w hw=>by cases hw) (Rp1.nn o od ho1)
 rw[Qk,Qk] at Rp2 N2
 have B2:qc ({ h:=(s.h.set (ι j) (rnA ι { jd with up:=some u } (ν j) (κ j))).set (ι o) (rnA ι { od with up:=none } (ν o) (κ o)),nx:=s.nx }:St):=qn B1 (Rp1.li B1 hjl1) _
 have hu2:((R.nodes.set j { jd with up:=some u }).set o { od with up:=none })[u]?=some ud:=by rw[List.getElem?_set_ne hou,List.getElem?_set_ne hju];exact hu
 have ln2:((R.nodes.set j { jd with up:=some u }).set o { od with up:=none }).length=R.nodes.length:=by rw[List.length_set,List.length_set]
 obtain⟨q1,q2,q3⟩:=Rp2.nd u ud hu2
 have hg2:({ h:=(s.h.set (ι j) (rnA ι { jd with up:=some u } (ν j) (κ j))).set (ι o) (rnA ι { od with up:=none } (ν o) (κ o)),nx:=s.nx }:St).h.get id=some (.cells (Qh ι ud.kids) 75 fz):=(qe k2).trans ((qe k1).trans hg)
 have gK:=q3.put (s':={ h:=((s.h.set (ι j) (rnA ι { jd with up:=some u } (ν j) (κ j))).set (ι o) (rnA ι { od with up:=none } (ν o) (κ o))).set id (.cells ((Qh ι ud.kids).set (zH nm ud.names) (.ptr (ι j) 0)) 75 fz),nx:=s.nx }) (i:=zH nm ud.names) (v:=.ptr (ι j) 0) hb hg2 hs_same
 have hps:(Qh ι ud.kids).set (zH nm ud.names) (.ptr (ι j) 0)=Qh ι (ud.kids.set (zH nm ud.names) j):=by unfold Qh;rw[List.map_set]
 have hid:id < s.nx:=hB _ _ hg
 obtain⟨Rp3,N3⟩:=Rp2.node B2 hu2 (nd':={ ud with kids:=ud.kids.set (zH nm ud.names) j }) (V':=ν u) (K':=κ u) (s':={ h:=((s.h.set (ι j) (rnA ι { jd with up:=some u } (ν j) (κ j))).set (ι o) (rnA ι { od with up:=none } (ν o) (κ o))).set id (.cells ((Qh ι ud.kids).set (zH nm ud.names) (.ptr (ι j) 0)) 75 fz),nx:=s.nx }) ((qe (Ne.symm k3)).trans q1) (q2.keep (fun b hb'=>qe (fun e=>Rp.vk hul hul hb' (e ▸ hb)))) (hps ▸ gK) (fun b hb=>Or.inl hb) (fun b hb=>Or.inl hb) (Nat.le_refl _) (fun i hi h1 h2 h3=>qe (fun e=>h3 (e ▸ hb)))
  (fun q hq=>by
   rw[ln2]
   rcases List.mem_or_eq_of_mem_set hq with h|rfl
   ·exact Rp.kd u ud hu q h
   ·exact hjl) (fun w hw=>by rw[ln2];exact Rp.up u ud w hu hw) ⟨by rw[List.length_set];exact n1,n2⟩
 rw[Qk,Qk] at Rp3 N3
 exact hk _ Rp3 (qn B2 hid _) ((N1.trans N2).trans N3)
section
variable {st ty:Nat} {el:TI} {s:St}
theorem qmb (RT:RowT st ty el) (hB:qc s) {wi m fz:Nat} {we:Bool} {ws:List AV} (hw:ws.length=m) (hg:s.h.get wi=some (.cells ws ty fz)) (hf:we=false→fz=2) {X:AV} {r:List AV} (hl:K5 X=some r.length) (hr:zI s 1 r.length X=some r) (ho:∀ v∈r,v.one=true) (hn:m+r.length≤2000) :
  ∃ id ex fz' s',zO TE s [st,st] [.slice wi 0 m 0 m we,X]=some (.slice id 0 (m+r.length) 0 (m+r.length) ex,s')∧s'.h.get id=some (.cells (ws++r) ty fz')∧(ex=false→fz'=2)∧(id=wi∨s.nx≤id)∧qc s'∧s.nx≤s'.nx∧∀ j,j < s.nx→j≠wi→s'.h.get j=s.h.get j:=by
 have hwl:=hB _ _ hg
 have hsz:=RT.sz
 have hby:=RT.by'
 have e3:∀ n,n≤2000→Nat.ble (n * el.bytes) 134217728=true:=fun n hn=>Nat.ble_eq.mpr (by have:=Nat.mul_le_mul hn hby;omega)
 have e4:∀ n,n≤2000→Nat.ble n 1048576=true:=fun n hn=>Nat.ble_eq.mpr (by omega)
 rw[RT.app]
 simp only[qy0,hl,hr,qi9,Vl ho,Bool.and_self,cond_true,ZZ,Zv hg]
 cases r with
 | nil =>
  have e1:Nat.ble m m=true:=Nat.ble_eq.mpr (Nat.le_refl _)
  simp only[List.length_nil,Nat.add_zero,e1,cond_true,zj,Zv hg,List.all_nil,qji,List.append_nil]
  refine⟨wi,we,fz,{ s with h:=s.h.set wi (.cells ws ty fz) },rfl,hs_same,hf,Or.inl rfl,qn hB hwl _,Nat.le_refl _,fun j hj hne=>?_⟩
  exact qe hne
 | cons y r =>
  have e1:Nat.ble (m+(r.length+1)) m=false:=by
   cases hb:Nat.ble (m+(r.length+1)) m with
   | false=>rfl
   | true=>have:=Nat.ble_eq.mp hb;omega
  have ct:ZF 0 m ws=some ws:=by rw[ZC (by omega),List.take_of_length_le (by omega)]
  simp only[List.length_cons] at hn
  simp only[List.length_cons,e1,cond_false,hsz,Nat.mul_one,ct,e3 (m+(r.length+1)) (by omega),e4 (m+(r.length+1)) (by omega),Bool.and_self,cond_true]
  cases we with
  | true =>
   refine⟨s.nx,false,2 * el.size,s.alloc (.cells (ws++y::r) ty (2 * el.size)),by simp only[cond_true,hsz],qu,fun _=>by rw[hsz],Or.inr (Nat.le_refl _),qx hB _,Nat.le_succ _,fun j hj _=>zg (by omega)⟩
  | false =>
   have hfz:=hf rfl
   subst hfz
   refine⟨s.nx,false,2,{ h:=(s.h.del wi).set s.nx (.cells (ws++y::r) ty 2),nx:=s.nx+1 },by simp only[cond_false,Nat.beq_refl,Nat.zero_mul];rfl,hs_same,fun _=>rfl,Or.inr (Nat.le_refl _),qax hB,by show s.nx≤s.nx+1;omega,fun j hj hne=>?_⟩
   show ((s.h.del wi).set s.nx _).get j=_
   rw[qe (by omega),Tr.get_del,if_neg hne]
theorem qlk (RT:RowT st ty el) (hB:qc s) {V:AV} {cs:List AV} (hV:RowV ty s V cs) (h1:∀ v∈cs,v.one=true) {i:Nat} (hi:i < cs.length) (hn:cs.length≤1000) {q:Nat} (hq:s.h.get q=some (.cells [] ty 0)) (hqV:blk V≠some q) :
  ∃ Va Vb W V' s2 s3,qF TE st V none (some (.raw (.int .i64 (i:Int)))) none=some Va∧qF TE st V (some (.raw (.int .i64 ((i+1:Nat):Int)))) none none=some Vb∧zO TE s [st,st] [.slice q 0 0 0 0 true,Va]=some (W,s2) ∧
   zO TE s2 [st,st] [W,Vb]=some (V',s3)∧RowV ty s3 V' (cs.eraseIdx i)∧qc s3∧s.nx≤s3.nx∧(∀ j,j < s.nx→j≠q→s2.h.get j=s.h.get j)∧(∀ j,j < s.nx→j≠q→s3.h.get j=s.h.get j)∧(∀ b,blk V'=some b→b=q∨s.nx≤b):=by
 have hql:=hB _ _ hq
 rcases hV with⟨rfl,rfl⟩|⟨id,ex,fz,rfl,hg,hf⟩
 ·simp at hi
 ·have hidq:id≠q:=fun e=>hqV (by rw[e];rfl)
  have hid:=hB _ _ hg
  have hta:qF TE st (.slice id 0 cs.length 0 cs.length ex) none (some (.raw (.int .i64 (i:Int)))) none=some (.slice id 0 i 0 cs.length ex):=by
   rw[RT.so,Xz (i:=i) zC (by omega)]
   simp
  have tl:(cs.take i).length=i:=by rw[List.length_take];omega
  have fa:zI s 1 (cs.take i).length (.slice id 0 i 0 cs.length ex)=some (cs.take i):=by
   simp only[zI,Zv hg,tl,Nat.mul_one]
   rw[ZC (by omega)]
  obtain⟨wi,we,wf,s2,w1,w2,w3,w4,w5,w6,w7⟩:=qmb RT hB (we:=true) (fz:=0) (m:=0) (ws:=[]) rfl hq (fun h=>by cases h) (X:=.slice id 0 i 0 cs.length ex) (r:=cs.take i) (by show some i=_;rw[tl]) fa (fun v hv=>h1 v (List.mem_of_mem_take hv)) (by omega)
  have hg2:s2.h.get id=some (.cells cs ty fz):=(w7 id hid hidq).trans hg
  obtain⟨Vb,hb1,hb2,hb3⟩:∃ Vb,qF TE st (.slice id 0 cs.length 0 cs.length ex) (some (.raw (.int .i64 ((i+1:Nat):Int)))) none none=some Vb∧K5 Vb=some (cs.drop (i+1)).length∧zI s2 1 (cs.drop (i+1)).length Vb=some (cs.drop (i+1)):=by
   rw[RT.so,qbd (i:=i+1) zC (by omega) (Nat.le_refl _)]
   simp only
   by_cases hlt:i+1 < cs.length
   ·rw[Nat.blt_eq.mpr hlt]
    refine⟨_,rfl,by simp[K5],?_⟩
    simp only[zI,Zv hg2,Nat.zero_add,Nat.mul_one]
    rw[qb0 (by simp;omega),List.take_of_length_le (Nat.le_refl _)]
   ·have hie:i+1=cs.length:=by omega
    have e1:Nat.blt (i+1) cs.length=false:=by rw[← Bool.not_eq_true,Nat.blt_eq];exact hlt
    have hd:cs.drop (i+1)=[]:=List.drop_eq_nil_of_le (by omega)
    rw[e1,hd]
    have e2:Nat.beq (i+1) 0=false:=QN (by omega)
    rw[e2]
    cases ex with
    | true =>
     refine⟨_,rfl,rfl,?_⟩
     simp only[zI,Zv hg2,List.length_nil,Nat.zero_mul]
     rfl
    | false=>exact⟨_,rfl,rfl,rfl⟩
  have w2':s2.h.get wi=some (.cells (cs.take i) ty wf):=by simpa using w2
  have dl:(cs.drop (i+1)).length≤1000:=by rw[List.length_drop];omega
  obtain⟨vi,ve,vf,s3,v1,v2,v3,v4,v5,v6,v7⟩:=qmb RT w5 (m:=0+(cs.take i).length) (by rw[Nat.zero_add]) w2' w3 hb2 hb3 (fun v hv=>h1 v (List.mem_of_mem_drop hv)) (by omega)
  have ee:cs.take i++cs.drop (i+1)=cs.eraseIdx i:=by rw[List.eraseIdx_eq_take_drop_succ]
  have el':0+(cs.take i).length+(cs.drop (i+1)).length=(cs.eraseIdx i).length:=by rw[← ee,List.length_append];omega
  refine⟨_,Vb,_,_,s2,s3,hta,hb1,w1,v1,Or.inr ⟨vi,ve,vf,by rw[el'],by rw[← ee];exact v2,v3⟩,v5,Nat.le_trans w6 v6,w7,fun j hj hne=>?_,fun b hb=>?_⟩
  ·exact (v7 j (by omega) (fun e=>by rcases w4 with h|h <;> omega)).trans (w7 j hj hne)
  ·have hb:some vi=some b:=hb
   cases hb
   rcases v4 with h|h
   ·rw[h];exact w4
   ·exact Or.inr (by omega)
end
theorem WZ {α β:Type} {f:α→β} {l:List α} {i:Nat}:(l.map f).eraseIdx i=(l.eraseIdx i).map f:=by
 rw[List.eraseIdx_eq_take_drop_succ,List.eraseIdx_eq_take_drop_succ,List.map_append,List.map_take,List.map_drop]
theorem q7m {s:St}:zq TE s 36 0 []=some (.slice s.nx 0 0 0 0 true,s.alloc (.cells [] 9 0)):=by kernel_rfl
theorem q76 {s:St}:zq TE s 84 0 []=some (.slice s.nx 0 0 0 0 true,s.alloc (.cells [] 75 0)):=by kernel_rfl
def qec (R:RM) (u:Nat) (ud:RN) (i o:Nat) (od:RN):RM:={ R with nodes:=(R.nodes.set o { od with up:=none }).set u { ud with names:=ud.names.eraseIdx i,kids:=ud.kids.eraseIdx i } }
theorem q2p {s:St} (H:Ok TE Tryz.prog pr3) {x:Nat} {R:RM} {ι:Nat→Nat} {ν κ:Nat→AV} {φ:AV} (Rp:RepR s x R ι ν κ φ) (hB:qc s) {u o:Nat} {ud od:RN} (hu:R.nodes[u]?=some ud) (ho:R.nodes[o]?=some od) (hou:o≠u) {nm:List Nat} (hold:ZI ud nm=some o)
  {kr kp:AV→St→Bool} (hk:∀ s' ν' κ',RepR s' x (qec R u ud (zH nm ud.names) o od) ι ν' κ' φ→qc s'→Nxt s s' (Jz x R ι ν κ φ) (Jz x (qec R u ud (zH nm ud.names) o od) ι ν' κ' φ)→kr (.tuple []) s'=true) :
  (sem Tryz.prog).call 78 [.ptr (ι u) 0,.str nm] s kr kp=true:=by
 refine qp H 53 q5x rfl rfl ?_
 obtain⟨u1,u2,u3⟩:=Rp.nd u ud hu
 obtain⟨o1,o2,o3⟩:=Rp.nd o od ho
 have hul:=(List.getElem?_eq_some_iff.mp hu).1
 have hol:=(List.getElem?_eq_some_iff.mp ho).1
 obtain⟨n1,n2⟩:=Rp.nn u ud hu
 have hko:ud.kids[zH nm ud.names]?=some o:=by
  unfold ZI at hold
  cases hh:qri nm ud.names with
  | false=>rw[hh] at hold;cases hold
  | true=>rw[hh] at hold;exact hold
 have hkl:=(List.getElem?_eq_some_iff.mp hko).1
 repeat (first|with_reducible (refine q9 H ?_;constructor)|simp only[rB,rP,rQ,q8,qa,q7,qb,reduceIte,reduceCtorEq,Nat.reduceAdd,Nat.reduceLT,Nat.reduceEqDiff,UInt8.reduceToNat,pe3,pf3])
 refine qsa H u1 u2 u3 n1 (by omega) ?_
 rw[hold]
 have ew:IntKind.i64.wrap ((zH nm ud.names:Int)+1)=((zH nm ud.names+1:Nat):Int):=zL (by omega)
 repeat (first|with_reducible (refine q9 H ?_;constructor)|simp only[rB,rP,rQ,q8,qa,q7,qb,reduceIte,reduceCtorEq,Nat.reduceAdd,Nat.reduceLT,Nat.reduceEqDiff,UInt8.reduceToNat,pe3,pf3,qV,qv4,qyc,o1,q1h,Option.map_some,QD])
 generalize hs1:({ h:=s.h.set (ι o) (rnA ι { od with up:=none } (ν o) (κ o)),nx:=s.nx }:St)=s1
 have B1:qc s1:=by rw[← hs1];exact qn hB (Rp.li hB hol) _
 have x1:s1.nx=s.nx:=by rw[← hs1]
 obtain⟨Rp1,N1⟩:=Rp.node hB ho (nd':={ od with up:=none }) (V':=ν o) (K':=κ o) (s':=s1) (by rw[← hs1];exact hs_same)
  (o2.keep (fun b hb=>by rw[← hs1];exact qe (Rp.vi hol hol hb))) (o3.keep (fun b hb=>by rw[← hs1];exact qe (Rp.ki hol hol hb))) (fun b hb=>Or.inl hb) (fun b hb=>Or.inl hb) (by omega)
  (fun i hi h1 _ _=>by rw[← hs1];exact qe h1) (Rp.kd o od ho) (fun w hw=>by cases hw) (Rp.nn o od ho)
 rw[Qk,Qk] at Rp1 N1
 have hu1:(R.nodes.set o { od with up:=none })[u]?=some ud:=by rw[List.getElem?_set_ne hou];exact hu
 have ln1:(R.nodes.set o { od with up:=none }).length=R.nodes.length:=List.length_set
 have hul1:u < (R.nodes.set o { od with up:=none }).length:=by rw[ln1];exact hul
 obtain⟨g1,v1,k1⟩:=Rp1.nd u ud hu1
 have lu:ι u < s1.nx:=by rw[x1];exact Rp.li hB hul
 have v1a:RowV 9 (s1.alloc (.cells [] 9 0)) (ν u) (ud.names.map .str):=v1.keep (fun b hb=>zg (by have:=v1.lt B1 hb;omega))
 obtain⟨Va,Vb,W,V',s2,s3,c1,c2,c3,c4,r1,r2,r3,r4,r5,r6⟩:=qlk q0d (qx B1 _) v1a (fun v hv=>by obtain⟨p,_,rfl⟩:=List.mem_map.mp hv;rfl) (i:=zH nm ud.names) (by rw[List.length_map];omega) (by rw[List.length_map];omega) (q:=s1.nx) qu (fun e=>by have:=v1.lt B1 e;omega)
 have bV:=v1.beq
 have bK:=k1.beq
 have m1:(ι u=s1.nx)=False:=by simp;omega
 have r4':∀ i,i < s1.nx→s2.h.get i=s1.h.get i:=fun i hi=>(r4 i (by show i < s1.nx+1;omega) (by omega)).trans (zg (by omega))
 have r5':∀ i,i < s1.nx→s3.h.get i=s1.h.get i:=fun i hi=>(r5 i (by show i < s1.nx+1;omega) (by omega)).trans (zg (by omega))
 have g2:s2.h.get (ι u)=some (rnA ι ud (ν u) (κ u)):=(r4' _ lu).trans g1
 have g3:s3.h.get (ι u)=some (rnA ι ud (ν u) (κ u)):=(r5' _ lu).trans g1
 obtain⟨cV1,cV2⟩:=r1.cells1
 repeat (first|with_reducible (refine q9 H ?_;constructor)|simp only[rB,rP,rQ,q8,qa,q7,qb,reduceIte,reduceCtorEq,Nat.reduceAdd,Nat.reduceLT,Nat.reduceEqDiff,UInt8.reduceToNat,pe3,pf3,qV,qgk,QJ,KU _ _ _ _ cV1 cV2,g1,g2,g3,m1,qv1,qa3,c1,c2,c3,c4,q7m,bV,bK,qrq,q88,qI,ew]|(with_reducible refine qy H (i:=2) (.take 0 (.take 2 (.take 3 (.take 4 (.take 5 (.take 6 (.take 7 (.take 9 (.take 10 (.take 11 (.take 12 (.take 13 (.take 14 (.take 15 (.alt 1 [] (.alt 8 [1,2,3,4,5,6,7] (.alt 16 [1,2,3,4,5,6,7,8,9,10,11,12,13,14,15] (.take 17 (.take 18 (.alt 19 [0,1,2,3,4,5,6,7,8,9,10,11,12,13,14,15,16,17,18] (.done) (.yes)))) (.yes)) (.yes)) (.yes)))))))))))))))) rfl (by kernel_rfl) ?_))
 generalize hs4:({ h:=s3.h.set (ι u) (rnA ι ud V' (κ u)),nx:=s3.nx }:St)=s4
 have x3:s1.nx < s3.nx:=by have:s1.nx+1≤s3.nx:=r3;omega
 have lu3:ι u < s3.nx:=by omega
 have B4:qc s4:=by rw[← hs4];exact qn r2 lu3 _
 have x4:s4.nx=s3.nx:=by rw[← hs4]
 have g4:s4.h.get (ι u)=some (rnA ι ud V' (κ u)):=by rw[← hs4];exact hs_same
 have f4:∀ i,i≠ι u→s4.h.get i=s3.h.get i:=fun i hi=>by rw[← hs4];exact qe hi
 have k4:RowV 75 s4 (κ u) (Qh ι ud.kids):=k1.keep (fun b hb=>(f4 b (Rp1.ki hul1 hul1 hb)).trans (r5' b (k1.lt B1 hb)))
 have k4a:RowV 75 (s4.alloc (.cells [] 75 0)) (κ u) (Qh ι ud.kids):=k4.keep (fun b hb=>zg (by have:=k4.lt B4 hb;omega))
 have lk:(Qh ι ud.kids).length=ud.names.length:=by unfold Qh;rw[List.length_map,n1]
 obtain⟨Ka,Kb,KW,K',s5,s6,d1,d2,d3,d4,q1,q2,q3,q4,q5,q6⟩:=qlk qt6 (qx B4 _) k4a (fun v hv=>by obtain⟨p,_,rfl⟩:=List.mem_map.mp hv;rfl) (i:=zH nm ud.names) (by rw[lk];omega) (by rw[lk];omega) (q:=s4.nx) qu (fun e=>by have:=k4.lt B4 e;omega)
 have bV':=r1.beq
 have lu4:ι u < s4.nx:=by omega
 have m2:(ι u=s4.nx)=False:=by simp;omega
 have q4':∀ i,i < s4.nx→s5.h.get i=s4.h.get i:=fun i hi=>(q4 i (by show i < s4.nx+1;omega) (by omega)).trans (zg (by omega))
 have q5':∀ i,i < s4.nx→s6.h.get i=s4.h.get i:=fun i hi=>(q5 i (by show i < s4.nx+1;omega) (by omega)).trans (zg (by omega))
 have g5:s5.h.get (ι u)=some (rnA ι ud V' (κ u)):=(q4' _ lu4).trans g4
 have g6:s6.h.get (ι u)=some (rnA ι ud V' (κ u)):=(q5' _ lu4).trans g4
 obtain⟨cK1,cK2⟩:=q1.cells1
 repeat (first|with_reducible (refine q9 H ?_;constructor)|simp only[rB,rP,rQ,q8,qa,q7,qb,reduceIte,reduceCtorEq,Nat.reduceAdd,Nat.reduceLT,Nat.reduceEqDiff,UInt8.reduceToNat,pe3,pf3,qV,qfd,qft,q3u _ _ _ _ cK1 cK2,g4,g5,g6,m2,qt0,qa3,d1,d2,d3,d4,q76,bV',bK,qrq,q9d,qI,ew,Tryz.results78]|(with_reducible refine qy H (i:=3) (.take 0 (.take 2 (.take 3 (.take 4 (.take 5 (.take 6 (.take 7 (.take 9 (.take 10 (.take 11 (.take 12 (.take 13 (.take 14 (.take 15 (.alt 1 [] (.alt 8 [1,2,3,4,5,6,7] (.alt 16 [1,2,3,4,5,6,7,8,9,10,11,12,13,14,15] (.take 17 (.take 18 (.alt 19 [0,1,2,3,4,5,6,7,8,9,10,11,12,13,14,15,16,17,18] (.done) (.yes)))) (.yes)) (.yes)) (.yes)))))))))))))))) rfl (by kernel_rfl) ?_))
 have x6:s4.nx < s6.nx:=by have:s4.nx+1≤s6.nx:=q3;omega
 have lv:∀ b,blk V'=some b→s1.nx≤b∧b < s4.nx:=fun b hb=>⟨by rcases r6 b hb with h|h;exact Nat.le_of_eq h.symm;exact Nat.le_of_succ_le h,by have:=r1.lt r2 hb;omega⟩
 have lkb:∀ b,blk K'=some b→s4.nx≤b:=fun b hb=>by rcases q6 b hb with h|h;exact Nat.le_of_eq h.symm;exact Nat.le_of_succ_le h
 obtain⟨Rp2,N2⟩:=Rp1.node B1 hu1 (nd':={ ud with names:=ud.names.eraseIdx (zH nm ud.names),kids:=ud.kids.eraseIdx (zH nm ud.names) }) (V':=V') (K':=K') (s':={ h:=s6.h.set (ι u) (rnA ι ud V' K'),nx:=s6.nx }) hs_same
  (by
   have:=r1.keep (s':={ h:=s6.h.set (ι u) (rnA ι ud V' K'),nx:=s6.nx }) (fun b hb=>by
    obtain⟨l1,l2⟩:=lv b hb
    have e1:(s6.h.set (ι u) (rnA ι ud V' K')).get b=s6.h.get b:=qe (by omega)
    exact e1.trans ((q5' b l2).trans (f4 b (by omega))))
   show RowV _ _ V' ((ud.names.eraseIdx _).map .str)
   rw[WZ] at this
   exact this)
  (by
   have:=q1.keep (s':={ h:=s6.h.set (ι u) (rnA ι ud V' K'),nx:=s6.nx }) (fun b hb=>qe (by have:=lkb b hb;omega))
   show RowV _ _ K' (Qh ι (ud.kids.eraseIdx _))
   unfold Qh at this ⊢
   rw[WZ] at this
   exact this)
  (fun b hb=>Or.inr (lv b hb).1) (fun b hb=>Or.inr (by have:=lkb b hb;omega)) (by show s1.nx≤s6.nx;omega)
  (fun i hi h1 h2 h3=>by
   have e1:(s6.h.set (ι u) (rnA ι ud V' K')).get i=s6.h.get i:=qe h1
   exact e1.trans ((q5' i (by omega)).trans ((f4 i h1).trans (r5' i hi))))
  (fun q hq=>by rw[ln1];exact Rp.kd u ud hu q (List.mem_of_mem_eraseIdx hq))
  (fun w hw=>by rw[ln1];exact Rp.up u ud w hu hw) (by
   have l1:(ud.names.eraseIdx (zH nm ud.names)).length=ud.names.length - 1:=List.length_eraseIdx_of_lt (by omega)
   have l2:(ud.kids.eraseIdx (zH nm ud.names)).length=ud.kids.length - 1:=List.length_eraseIdx_of_lt (by omega)
   exact⟨by show (ud.kids.eraseIdx _).length=(ud.names.eraseIdx _).length;omega,by show (ud.names.eraseIdx _).length≤900;omega⟩)
 exact hk _ _ _ Rp2 (qn q2 (by show ι u < s6.nx;omega) _) (N1.trans N2)
end Go.AX
namespace Go.AX
open Go.Proofs Go.RowKit
set_option maxRecDepth 1000000
set_option maxHeartbeats 400000000
set_option linter.unusedSimpArgs false
set_option linter.unusedVariables false
theorem TrR.mode {R:RM} (T:TrR R) {u:Nat} {rd:RN} (hu:R.nodes[u]?=some rd) {m:Int}:TrR { R with nodes:=R.nodes.set u { rd with mode:=m } }:=by
 have hul:=(List.getElem?_eq_some_iff.mp hu).1
 obtain⟨s1,s2,s3⟩:=T.nml u rd hu
 refine T.turn hu (rd':={ rd with mode:=m }) (List.getElem?_set_self hul) (by show _≤(R.nodes.set _ _).length;rw[List.length_set];exact Nat.le_refl _) (by show _=((R.nodes.set _ _).length:Int);rw[List.length_set];exact T.nxt) rfl (T.dat u rd hu) (fun j hj=>Or.inl hj) (T.nod u rd hu) ⟨s1,by show _≤(R.nodes.set _ _).length;rw[List.length_set];exact s2,s3⟩ (fun q qd' hq h=>?_)
 have h:(R.nodes.set u { rd with mode:=m })[q]?=some qd':=h
 rw[List.getElem?_set_ne (fun e=>hq e.symm)] at h
 exact Or.inl ⟨qd',h,rfl,rfl,rfl,Or.inl rfl⟩
theorem Je {nd:RN} {nm:List Nat} {j:Nat} (h:ZI nd nm=some j):nd.kids[zH nm nd.names]?=some j:=by
 unfold ZI at h
 cases hh:qri nm nd.names with
 | false=>rw[hh] at h;cases h
 | true=>rw[hh] at h;exact h
theorem qek {l:List Nat} (h:l.Nodup) {i j:Nat} (hi:l[i]?=some j):(l.eraseIdx i).Nodup∧j∉l.eraseIdx i:=by
 obtain⟨hl,rfl⟩:=List.getElem?_eq_some_iff.mp hi
 have e:l=l.take i++l[i]::l.drop (i+1):=by rw[List.getElem_cons_drop,List.take_append_drop]
 rw[List.eraseIdx_eq_take_drop_succ]
 rw[e,List.nodup_append] at h
 obtain⟨h1,h2,h3⟩:=h
 obtain⟨h4,h5⟩:=List.nodup_cons.1 h2
 refine⟨List.nodup_append.2 ⟨h1,h5,fun a ha b hb=>h3 a ha b (List.mem_cons_of_mem _ hb)⟩,fun hm=>?_⟩
 rcases List.mem_append.1 hm with hm|hm
 ·exact h3 _ hm _ (List.mem_cons_self ..) rfl
 ·exact h4 hm
theorem TrR.drop {R:RM} (T:TrR R) {u o:Nat} {rd od:RN} (hu:R.nodes[u]?=some rd) (ho:R.nodes[o]?=some od) {nm:List Nat} (hk:ZI rd nm=some o):TrR (qec R u rd (zH nm rd.names) o od):=by
 have hul:=(List.getElem?_eq_some_iff.mp hu).1
 have hol:=(List.getElem?_eq_some_iff.mp ho).1
 have hko:=Je hk
 obtain⟨hkl,_⟩:=List.getElem?_eq_some_iff.mp hko
 have hlo:=T.inc u rd hu o (List.mem_of_getElem? hko)
 have hlen:(qec R u rd (zH nm rd.names) o od).nodes.length=R.nodes.length:=by
  show ((R.nodes.set _ _).set _ _).length=_
  simp
 obtain⟨s1,s2,s3⟩:=T.nml u rd hu
 obtain⟨d1,d2⟩:=qek (T.nod u rd hu) hko
 refine T.turn hu (rd':={ rd with names:=rd.names.eraseIdx (zH nm rd.names),kids:=rd.kids.eraseIdx (zH nm rd.names) }) ?_ (by rw[hlen];exact Nat.le_refl _) (by rw[hlen];exact T.nxt) rfl (T.dat u rd hu) (fun j hj=>Or.inl (List.mem_of_mem_eraseIdx hj)) d1 ⟨?_,?_,fun p hp=>s3 p (List.mem_of_mem_eraseIdx hp)⟩ (fun q qd' hq h=>?_)
 ·show ((R.nodes.set o _).set u _)[u]?=_
  exact List.getElem?_set_self (by simp;omega)
 ·show (rd.kids.eraseIdx _).length=(rd.names.eraseIdx _).length
  rw[List.length_eraseIdx_of_lt (by omega),List.length_eraseIdx_of_lt (by omega),s1]
 ·rw[hlen]
  show (rd.names.eraseIdx _).length≤_
  rw[List.length_eraseIdx_of_lt (by omega)]
  omega
 ·have h:((R.nodes.set o { od with up:=none }).set u { rd with names:=rd.names.eraseIdx (zH nm rd.names),kids:=rd.kids.eraseIdx (zH nm rd.names) })[q]?=some qd':=h
  rw[List.getElem?_set_ne (fun e=>hq e.symm)] at h
  by_cases e:q=o
  ·subst e
   rw[List.getElem?_set_self hol] at h
   cases h
   exact Or.inl ⟨od,ho,rfl,rfl,rfl,Or.inr ⟨rfl,d2,List.mem_of_getElem? hko⟩⟩
  ·rw[List.getElem?_set_ne (fun e'=>e e'.symm)] at h
   exact Or.inl ⟨qd',h,rfl,rfl,rfl,Or.inl rfl⟩
theorem TrR.rep {R:RM} (T:TrR R) {u o:Nat} {rd od:RN} (hu:R.nodes[u]?=some rd) (ho:R.nodes[o]?=some od) {nm:List Nat} (hk:ZI rd nm=some o) {a b:Int} {d:List Nat} (hd:d.length≤1024) :
  TrR (qu0 (Wr R (Yf a b d)) u rd (zH nm rd.names) R.nodes.length { Yf a b d with id:=R.next+1 } o od):=by
 have hul:=(List.getElem?_eq_some_iff.mp hu).1
 have hol:=(List.getElem?_eq_some_iff.mp ho).1
 have hko:=Je hk
 obtain⟨hkl,hkv⟩:=List.getElem?_eq_some_iff.mp hko
 have hlo:=T.inc u rd hu o (List.mem_of_getElem? hko)
 have hlen:(qu0 (Wr R (Yf a b d)) u rd (zH nm rd.names) R.nodes.length { Yf a b d with id:=R.next+1 } o od).nodes.length=R.nodes.length+1:=by
  show ((((R.nodes++[_]).set _ _).set _ _).set _ _).length=_
  simp
 obtain⟨s1,s2,s3⟩:=T.nml u rd hu
 have hnd:=T.nod u rd hu
 have hnm:R.nodes.length∉rd.kids:=fun h=>by have:=T.inc u rd hu _ h;omega
 have hset:rd.kids.set (zH nm rd.names) R.nodes.length=rd.kids.take (zH nm rd.names)++R.nodes.length::rd.kids.drop (zH nm rd.names+1):=by
  rw[List.set_eq_take_append_cons_drop,if_pos hkl]
 obtain⟨d1,d2⟩:=qek hnd hko
 rw[List.eraseIdx_eq_take_drop_succ] at d1 d2
 have hon:o∉rd.kids.set (zH nm rd.names) R.nodes.length:=by
  rw[hset]
  intro h
  rcases List.mem_append.1 h with h|h
  ·exact d2 (List.mem_append_left _ h)
  ·rcases List.mem_cons.1 h with h|h
   ·omega
   ·exact d2 (List.mem_append_right _ h)
 refine T.turn hu (rd':={ rd with kids:=rd.kids.set (zH nm rd.names) R.nodes.length }) ?_ (by rw[hlen];omega) ?_ rfl (T.dat u rd hu) (fun j hj=>?_) ?_ ⟨?_,?_,s3⟩ (fun q qd' hq h=>?_)
 ·show ((((R.nodes++[_]).set _ _).set _ _).set u _)[u]?=_
  exact List.getElem?_set_self (by simp;omega)
 ·rw[hlen]
  have:=T.nxt
  show R.next+1+1=_
  simp
  omega
 ·rcases List.mem_or_eq_of_mem_set hj with h|rfl
  ·exact Or.inl h
  ·exact Or.inr ⟨rfl,by rw[hlen];omega⟩
 ·show (rd.kids.set _ _).Nodup
  rw[hset]
  rw[List.nodup_append] at d1 ⊢
  obtain⟨e1,e2,e3⟩:=d1
  refine⟨e1,List.nodup_cons.2 ⟨fun h=>hnm (List.mem_of_mem_drop h),e2⟩,fun x hx y hy=>?_⟩
  rcases List.mem_cons.1 hy with rfl|hy
  ·intro e;subst e;exact hnm (List.mem_of_mem_take hx)
  ·exact e3 x hx y hy
 ·show (rd.kids.set _ _).length=_
  rw[List.length_set]
  exact s1
 ·rw[hlen]
  show rd.names.length≤_
  omega
 ·have h:((((R.nodes++[{ Yf a b d with id:=R.next+1 }]).set R.nodes.length { Yf a b d with id:=R.next+1,up:=some u }).set o { od with up:=none }).set u { rd with kids:=rd.kids.set (zH nm rd.names) R.nodes.length })[q]?=some qd':=h
  rw[List.getElem?_set_ne (fun e=>hq e.symm)] at h
  by_cases e:q=o
  ·subst e
   rw[List.getElem?_set_self (by simp;omega)] at h
   cases h
   exact Or.inl ⟨od,ho,rfl,rfl,rfl,Or.inr ⟨rfl,hon,List.mem_of_getElem? hko⟩⟩
  ·rw[List.getElem?_set_ne (fun e'=>e e'.symm)] at h
   by_cases e2:q=R.nodes.length
   ·subst e2
    rw[List.getElem?_set_self (by simp)] at h
    cases h
    exact Or.inr ⟨rfl,rfl,rfl,hd,rfl⟩
   ·rw[List.getElem?_set_ne (fun e'=>e2 e'.symm)] at h
    by_cases e3:q < R.nodes.length
    ·rw[List.getElem?_append_left e3] at h
     exact Or.inl ⟨qd',h,rfl,rfl,rfl,Or.inl rfl⟩
    ·rw[List.getElem?_eq_none (by simp;omega)] at h
     cases h
def qfn (below:Nat→List Nat):List Nat→List Nat
 | []=>[]
 | j::l=>j::(below j++qfn below l)
def YS (R:RM):Nat→Nat→List Nat
 | 0,_=>[]
 | f+1,k=>match R.nodes[k]? with
  | none=>[]
  | some nd=>qfn (YS R f) nd.kids
theorem visK_mem {below:Nat→List Nat} {v:Nat}:∀ {l:List Nat},v∈qfn below l↔∃ j∈l,v=j∨v∈below j
 | []=>by simp[qfn]
 | j::l=>by
  simp only[qfn,List.mem_cons,List.mem_append,visK_mem (l:=l)]
  constructor
  ·rintro (rfl|h|⟨j',h1,h2⟩)
   ·exact⟨v,Or.inl rfl,Or.inl rfl⟩
   ·exact⟨j,Or.inl rfl,Or.inr h⟩
   ·exact⟨j',Or.inr h1,h2⟩
  ·rintro⟨j',rfl|h1,h2⟩
   ·rcases h2 with rfl|h2
    ·exact Or.inl rfl
    ·exact Or.inr (Or.inl h2)
   ·exact Or.inr (Or.inr ⟨j',h1,h2⟩)
theorem qhc {R:RM} (T:TrR R):∀ {f k v:Nat},v∈YS R f k→k < v∧v < R.nodes.length
 | 0,_,_,h=>by cases h
 | f+1,k,v,h=>by
  simp only[YS] at h
  cases hk:R.nodes[k]? with
  | none=>rw[hk] at h;cases h
  | some nd =>
   rw[hk] at h
   obtain⟨j,hj,h2⟩:=visK_mem.1 h
   have h1:=T.inc k nd hk j hj
   rcases h2 with rfl|h2
   ·exact h1
   ·have:=qhc T h2
    omega
def upC (R:RM):Nat→Nat→Option Nat
 | 0,v=>some v
 | n+1,v=>match R.nodes[v]? with
  | some vd=>(match vd.up with
   | some u=>upC R n u
   | none=>none)
  | none=>none
theorem qhx {R:RM}:∀ {a b v:Nat},upC R (a+b) v=(match upC R a v with|some w=>upC R b w|none=>none)
 | 0,b,v=>by rw[Nat.zero_add];rfl
 | a+1,b,v=>by
  rw[show a+1+b=(a+b)+1 from by omega]
  simp only[upC]
  cases R.nodes[v]? with
  | none=>rfl
  | some vd =>
   simp only
   cases vd.up with
   | none=>rfl
   | some u=>exact qhx
theorem qtc {R:RM} (T:TrR R):∀ {n v w:Nat},upC R n v=some w→w≤v
 | 0,v,w,h=>by cases h;exact Nat.le_refl _
 | n+1,v,w,h=>by
  simp only[upC] at h
  cases hv:R.nodes[v]? with
  | none=>rw[hv] at h;cases h
  | some vd =>
   rw[hv] at h
   simp only at h
   cases hu:vd.up with
   | none=>rw[hu] at h;cases h
   | some u =>
    rw[hu] at h
    have h1:=T.upd v vd u hv hu
    have h2:=qtc T h
    omega
theorem qor {R:RM} (T:TrR R):∀ {f k v:Nat},v∈YS R f k→∃ n,upC R (n+1) v=some k
 | 0,_,_,h=>by cases h
 | f+1,k,v,h=>by
  simp only[YS] at h
  cases hk:R.nodes[k]? with
  | none=>rw[hk] at h;cases h
  | some nd =>
   rw[hk] at h
   obtain⟨j,hj,h2⟩:=visK_mem.1 h
   have h1:=T.inc k nd hk j hj
   have hjd:R.nodes[j]?=some R.nodes[j]:=List.getElem?_eq_getElem h1.2
   have hp:=T.par k nd hk j hj _ hjd
   have step:upC R 1 j=some k:=by
    simp only[upC,hjd,hp]
   rcases h2 with rfl|h2
   ·exact⟨0,step⟩
   ·obtain⟨n,hn⟩:=qor T h2
    refine⟨n+1,?_⟩
    rw[show n+1+1=(n+1)+1 from rfl,qhx,hn]
    exact step
theorem qd4 {R:RM} (T:TrR R) {k:Nat} {nd:RN} (hk:R.nodes[k]?=some nd) {i j:Nat} (hi:i∈nd.kids) (hj:j∈nd.kids) {v a b:Nat} (h1:upC R a v=some i) (h2:upC R b v=some j) (hab:a≤b):i=j:=by
 have e:b=a+(b - a):=by omega
 rw[e,qhx,h1] at h2
 simp only at h2
 cases hd:b - a with
 | zero=>rw[hd] at h2;cases h2;rfl
 | succ m =>
  exfalso
  rw[hd] at h2
  have hik:=T.inc k nd hk i hi
  have hjk:=T.inc k nd hk j hj
  have hid:R.nodes[i]?=some R.nodes[i]:=List.getElem?_eq_getElem hik.2
  have hp:=T.par k nd hk i hi _ hid
  simp only[upC,hid,hp] at h2
  have:=qtc T h2
  omega
theorem qjo {R:RM} (T:TrR R):∀ {f k:Nat},(YS R f k).Nodup
 | 0,_=>List.Pairwise.nil
 | f+1,k=>by
  simp only[YS]
  cases hk:R.nodes[k]? with
  | none=>exact List.Pairwise.nil
  | some nd =>
   simp only
   have chain:∀ {i v},i∈nd.kids→(v=i∨v∈YS R f i)→∃ a,upC R a v=some i:=by
    rintro i v hi (rfl|h)
    ·exact⟨0,rfl⟩
    ·obtain⟨n,hn⟩:=qor T h
     exact⟨n+1,hn⟩
   have apart:∀ {i j v},i∈nd.kids→j∈nd.kids→(v=i∨v∈YS R f i)→(v=j∨v∈YS R f j)→i=j:=by
    intro i j v hi hj h1 h2
    obtain⟨a,ha⟩:=chain hi h1
    obtain⟨b,hb⟩:=chain hj h2
    by_cases hab:a≤b
    ·exact qd4 T hk hi hj ha hb hab
    ·exact (qd4 T hk hj hi hb ha (by omega)).symm
   have go:∀ {l:List Nat},(∀ x∈l,x∈nd.kids)→l.Nodup→(qfn (YS R f) l).Nodup:=by
    intro l
    induction l with
    | nil=>intro _ _;exact List.Pairwise.nil
    | cons i l ih =>
     intro hs hn
     obtain⟨n1,n2⟩:=List.nodup_cons.1 hn
     have hi:=hs i (List.mem_cons_self ..)
     have hl:∀ x∈l,x∈nd.kids:=fun x hx=>hs x (List.mem_cons_of_mem _ hx)
     simp only[qfn]
     refine List.nodup_cons.2 ⟨fun h=>?_,List.nodup_append.2 ⟨qjo T,ih hl n2,fun x hx y hy e=>?_⟩⟩
     ·rcases List.mem_append.1 h with h|h
      ·have:=qhc T h;omega
      ·obtain⟨j,hj,h2⟩:=visK_mem.1 h
       have:=apart hi (hl j hj) (Or.inl rfl) h2
       exact n1 (this ▸ hj)
     ·subst e
      obtain⟨j,hj,h2⟩:=visK_mem.1 hy
      have:=apart hi (hl j hj) (Or.inr hx) h2
      exact n1 (this ▸ hj)
   exact go (fun x hx=>hx) (T.nod k nd hk)
theorem qiz {R:RM} (T:TrR R) {f k:Nat}:(YS R f k).length≤R.nodes.length:=by
 have:=QE (l:=YS R f k) (r:=List.range R.nodes.length) (qjo T) (fun v hv=>List.mem_range.2 (qhc T hv).2)
 simpa using this
theorem qyk {s:St} (H:Ok TE Tryz.prog pr3) {a b:List Nat} (hl:a.length+b.length≤1000000) {kr kp:AV→St→Bool} (hk:kr (.str (YP a b)) s=true) :
  (sem Tryz.prog).call 75 [.str a,.str b] s kr kp=true:=by
 refine qp H 15 q64 rfl rfl ?_
 unfold YP at hk
 cases h1:eqB a [] with
 | true =>
  rw[h1,cond_true] at hk
  repeat (first|with_reducible (refine q9 H ?_;constructor)|simp only[rB,rP,rQ,q8,qa,q7,qb,reduceIte,reduceCtorEq,Nat.reduceAdd,Nat.reduceLT,Nat.reduceEqDiff,UInt8.reduceToNat,pe3,pf3,zz,h1,Tryz.results75])
  exact hk
 | false =>
 rw[h1,cond_false] at hk
 cases h2:eqB b [] with
 | true =>
  rw[h2,cond_true] at hk
  repeat (first|with_reducible (refine q9 H ?_;constructor)|simp only[rB,rP,rQ,q8,qa,q7,qb,reduceIte,reduceCtorEq,Nat.reduceAdd,Nat.reduceLT,Nat.reduceEqDiff,UInt8.reduceToNat,pe3,pf3,zz,h1,h2,Tryz.results75])
  exact hk
 | false =>
 rw[h2,cond_false] at hk
 have f1:qE .add (.str a) (.str [47])=some (.str (a++[47])):=JJ (by simp;omega)
 have f2:qE .add (.str (a++[47])) (.str b)=some (.str (a++[47]++b)):=JJ (by simp;omega)
 repeat (first|with_reducible (refine q9 H ?_;constructor)|simp only[rB,rP,rQ,q8,qa,q7,qb,reduceIte,reduceCtorEq,Nat.reduceAdd,Nat.reduceLT,Nat.reduceEqDiff,UInt8.reduceToNat,pe3,pf3,zz,h1,h2,f1,f2,Tryz.results75])
 simpa using hk
theorem qja (H:Ok TE Tryz.prog pr3) {x:Nat} {R:RM} {ι:Nat→Nat} {ν κ:Nat→AV} {φ:AV} (T:TrR R):∀ {f k:Nat} {s:St} {kr kp:AV→St→Bool},RepR s x R ι ν κ φ→k < R.nodes.length→R.nodes.length≤f+k →
  kr (.raw (.int .i64 ((YS R f k).length:Int))) s=true→(sem Tryz.prog).call 76 [.ptr (ι k) 0] s kr kp=true
 | 0,_,_,_,_,_,h1,h2,_=>by omega
 | f+1,k,s,kr,kp,Rp,h1,h2,hk=>by
  obtain⟨nd,hnd⟩:=Rp.node_of h1
  obtain⟨u1,u2,u3⟩:=Rp.nd k nd hnd
  have tot:=qiz T (f:=f+1) (k:=k)
  have lim:R.nodes.length≤1000000001:=by have:=Rp.nx;have:=T.nxt;omega
  obtain⟨q1,q2,_⟩:=T.nml k nd hnd
  have ev:YS R (f+1) k=qfn (YS R f) nd.kids:=by simp only[YS,hnd]
  rw[ev] at hk tot
  have kl:=u3.len qt6
  have lk:(Qh ι nd.kids).length=nd.kids.length:=by unfold Qh;rw[List.length_map]
  rw[lk] at kl
  have ki:=u3.ids
  refine qp H 26 q5z rfl rfl ?_
  repeat (first|with_reducible (refine q9 H ?_;constructor)|simp only[rB,rP,rQ,q8,qa,q7,qb,reduceIte,reduceCtorEq,Nat.reduceAdd,Nat.reduceLT,Nat.reduceEqDiff,UInt8.reduceToNat,pe3,pf3])
  refine qB H (fun n t s'=>∃ (i a:Nat),n+i=nd.kids.length∧s'=s∧tg t 0=.ptr (ι k) 0∧tg t 3=.raw (.int .i64 (a:Int))∧tg t 4=.raw (.int .i64 (i:Int))∧(qfn (YS R f) nd.kids).length=a+(qfn (YS R f) (nd.kids.drop i)).length) (n:=nd.kids.length)
   ⟨0,0,rfl,rfl,by simp only[rB,rP,rQ,q8,qa,q7,qb,reduceIte,reduceCtorEq,Nat.reduceAdd,Nat.reduceLT,Nat.reduceEqDiff,UInt8.reduceToNat],by simp only[rB,rP,rQ,q8,qa,q7,qb,reduceIte,reduceCtorEq,Nat.reduceAdd,Nat.reduceLT,Nat.reduceEqDiff,UInt8.reduceToNat];rfl,by simp only[rB,rP,rQ,q8,qa,q7,qb,reduceIte,reduceCtorEq,Nat.reduceAdd,Nat.reduceLT,Nat.reduceEqDiff,UInt8.reduceToNat];rfl,by simp⟩ ?_
  rintro n t s' ih ⟨i,a,hn,rfl,t0,t3,t4,hm⟩
  cases n with
  | zero =>
   have g0:=QO (a:=i) (b:=nd.kids.length) (by omega)
   rw[List.drop_eq_nil_of_le (by omega)] at hm
   simp only[qfn,List.length_nil,Nat.add_zero] at hm
   rw[hm] at hk
   repeat (first|with_reducible (refine q9 H ?_;constructor)|simp only[rB,rP,rQ,q8,qa,q7,qb,reduceIte,reduceCtorEq,Nat.reduceAdd,Nat.reduceLT,Nat.reduceEqDiff,UInt8.reduceToNat,pe3,pf3,t0,t3,t4,qV,qfd,qft,u1,qt0,qa3,kl,ki,zJ,g0,Tryz.results76])
   exact hk
  | succ n =>
   have hlt:i < nd.kids.length:=by omega
   have g0:=Yd hlt
   have hx:nd.kids[i]?=some nd.kids[i]:=List.getElem?_eq_getElem hlt
   rw[List.drop_eq_getElem_cons hlt] at hm
   generalize nd.kids[i]=j at hx hm
   have hj:=T.inc k nd hnd j (List.mem_of_getElem? hx)
   obtain⟨id,j1,j2,j3,_⟩:=u3.at qt6 (k:=i) (v:=.ptr (ι j) 0) (by unfold Qh;rw[List.getElem?_map,hx];rfl)
   simp only[qfn,List.length_cons,List.length_append] at hm
   have ew:=zL (k:=i) (by omega)
   have ea:=zL (k:=a) (by omega)
   have eb:IntKind.i64.wrap (((a+1:Nat):Int)+((YS R f j).length:Int))=((a+1+(YS R f j).length:Nat):Int):=by
    rw[show ((a+1:Nat):Int)+((YS R f j).length:Int)=((a+1+(YS R f j).length:Nat):Int) from by simp]
    exact qU (by omega)
   repeat (first|with_reducible (refine q9 H ?_;constructor)|simp only[rB,rP,rQ,q8,qa,q7,qb,reduceIte,reduceCtorEq,Nat.reduceAdd,Nat.reduceLT,Nat.reduceEqDiff,UInt8.reduceToNat,pe3,pf3,t0,t3,t4,qV,qfd,qft,qjq,u1,qt0,qa3,kl,ki,zJ,g0,j1,j2,j3,qI,ea])
   refine qja H T (f:=f) Rp hj.2 (by omega) ?_
   repeat (first|with_reducible (refine q9 H ?_;constructor)|simp only[rB,rP,rQ,q8,qa,q7,qb,reduceIte,reduceCtorEq,Nat.reduceAdd,Nat.reduceLT,Nat.reduceEqDiff,UInt8.reduceToNat,pe3,pf3,t0,t3,t4,qI,ea,eb,ew])
   exact ih n _ _ (Nat.lt_succ_self n) ⟨i+1,a+1+(YS R f j).length,by omega,rfl,by simp only[rB,rP,rQ,q8,qa,q7,qb,reduceIte,reduceCtorEq,Nat.reduceAdd,Nat.reduceLT,Nat.reduceEqDiff,UInt8.reduceToNat,t0],by simp only[rB,rP,rQ,q8,qa,q7,qb,reduceIte,reduceCtorEq,Nat.reduceAdd,Nat.reduceLT,Nat.reduceEqDiff,UInt8.reduceToNat],by simp only[rB,rP,rQ,q8,qa,q7,qb,reduceIte,reduceCtorEq,Nat.reduceAdd,Nat.reduceLT,Nat.reduceEqDiff,UInt8.reduceToNat],by omega⟩
theorem RepR.fx {s s':St} {b x:Nat} {R:RM} {ι:Nat→Nat} {ν κ:Nat→AV} {φ:AV} (Rp:RepR s x R ι ν κ φ) (f:Fx b s s'):RepR s' x R ι ν κ φ:=by
 have row:∀ {ty:Nat} {V:AV} {cs:List AV} {i:Nat},RowV ty s V cs→blk V=some i→(Nat.beq ty 29||Nat.beq ty 34)=false→s'.h.get i=s.h.get i:=by
  intro ty V cs i h hb ht
  obtain⟨fz,hg⟩:=h.get hb
  exact (f.2.1 _ _ hg (by simp only[okO,ht];rfl)).trans hg.symm
 refine Rp.keep (fun i hi=>?_)
 rcases hi with rfl|⟨k,hk,h⟩|h
 ·exact (f.2.1 _ _ Rp.tr rfl).trans Rp.tr.symm
 ·obtain⟨nd,hn⟩:=Rp.node_of hk
  obtain⟨h1,h2,h3⟩:=Rp.nd k nd hn
  rcases h with rfl|h|h
  ·exact (f.2.1 _ _ h1 rfl).trans h1.symm
  ·exact row h2 h rfl
  ·exact row h3 h rfl
 ·exact row Rp.fd h rfl
def enR (p:List Nat) (nd:RN):En:=(p,nd.kind,nd.mode,nd.data)
def W4 (R:RM) (below:Nat→List Nat→List En) (p:List Nat):List (List Nat)→List Nat→List En
 | nm::ns,j::js=>(match R.nodes[j]? with
  | none=>[]
  | some jd=>enR (YP p nm) jd::below j (YP p nm))++W4 R below p ns js
 | _,_=>[]
def qf4 (R:RM):Nat→Nat→List Nat→List En
 | 0,_,_=>[]
 | f+1,k,p=>match R.nodes[k]? with
  | none=>[]
  | some nd=>W4 R (qf4 R f) p nd.names nd.kids
theorem qb3 {R:RM} (T:TrR R):∀ {f k:Nat} {p:List Nat},(qf4 R f k p).length=(YS R f k).length
 | 0,_,_=>rfl
 | f+1,k,p=>by
  simp only[qf4,YS]
  cases hk:R.nodes[k]? with
  | none=>rfl
  | some nd =>
   simp only
   have hl:=(T.nml k nd hk).1
   have go:∀ {js:List Nat} {ns:List (List Nat)},js.length=ns.length→(∀ j∈js,j < R.nodes.length)→(W4 R (qf4 R f) p ns js).length=(qfn (YS R f) js).length:=by
    intro js
    induction js with
    | nil =>
     intro ns h _
     cases ns with
     | nil=>rfl
     | cons a ns=>cases h
    | cons j js ih =>
     intro ns h hb
     cases ns with
     | nil=>cases h
     | cons a ns =>
      have hjl:j < R.nodes.length:=hb j (by simp)
      have hj:R.nodes[j]?=some R.nodes[j]:=List.getElem?_eq_getElem hjl
      simp only[W4,hj,qfn,List.length_append,List.length_cons]
      rw[qb3 T,ih (by simpa using h) (fun q hq=>hb q (List.mem_cons_of_mem _ hq))]
      omega
   exact go hl (fun j hj=>(T.inc k nd hk j hj).2)
theorem qen {a b:List Nat}:(YP a b).length≤a.length+b.length+1:=by
 unfold YP
 cases eqB a [] with
 | true=>simp only[cond_true];omega
 | false =>
  cases eqB b [] with
  | true=>simp only[cond_true,cond_false];omega
  | false=>simp only[cond_false,List.length_append,List.length_cons];omega
theorem ErB.ext5 {b:Nat} {s s':St} {V:AV} {acc:List En} (h:ErB b s V acc) (hB:qc s) (hE:Ext s s'):ErB b s' V acc:=by
 rcases h with h|⟨id,h0,h1,h2⟩
 ·exact Or.inl h
 ·exact Or.inr ⟨id,h0,h1,(hE.2 _ (hB _ _ h2)).trans h2⟩
theorem qoq (H:Ok TE Tryz.prog pr3) {x:Nat} {R:RM} {ι:Nat→Nat} {ν κ:Nat→AV} {φ:AV} (T:TrR R) (hN:R.nodes.length≤10000) {b:Nat}:∀ {f k:Nat} {p:List Nat} {s:St} {V:AV} {acc:List En} {kr kp:AV→St→Bool},RepR s x R ι ν κ φ→qc s→b≤s.nx→k < R.nodes.length→R.nodes.length≤f+k→p.length≤17 * k→ErB b s V acc→acc.length+(YS R f k).length≤20000 →
  (∀ s' V',Fx b s s'→qc s'→ErB b s' V' (acc++qf4 R f k p)→kr V' s'=true)→(sem Tryz.prog).call 45 [.ptr (ι k) 0,.str p,V] s kr kp=true
 | 0,_,_,_,_,_,_,_,_,_,_,h1,h2,_,_,_,_=>by omega
 | f+1,k,p,s,V,acc,kr,kp,Rp,hB,hb,h1,h2,hp,hV,hlen,hk=>by
  obtain⟨nd,hnd⟩:=Rp.node_of h1
  obtain⟨q1,q2,q3⟩:=T.nml k nd hnd
  have ev:YS R (f+1) k=qfn (YS R f) nd.kids:=by simp only[YS,hnd]
  have ee:qf4 R (f+1) k p=W4 R (qf4 R f) p nd.names nd.kids:=by simp only[qf4,hnd]
  rw[ee] at hk
  rw[ev] at hlen
  refine qp H 57 q5b rfl rfl ?_
  repeat (first|with_reducible (refine q9 H ?_;constructor)|simp only[rB,rP,rQ,q8,qa,q7,qb,reduceIte,reduceCtorEq,Nat.reduceAdd,Nat.reduceLT,Nat.reduceEqDiff,UInt8.reduceToNat,pe3,pf3])
  refine qB H (fun n t s'=>∃ (i:Nat) (V2:AV) (acc2:List En),n+i=nd.kids.length∧Fx b s s'∧qc s'∧ErB b s' V2 acc2∧tg t 0=.ptr (ι k) 0∧tg t 1=.str p∧tg t 2=V2∧tg t 7=.raw (.int .i64 (i:Int))∧acc2.length+(qfn (YS R f) (nd.kids.drop i)).length≤20000∧acc++W4 R (qf4 R f) p nd.names nd.kids=acc2++W4 R (qf4 R f) p (nd.names.drop i) (nd.kids.drop i)) (n:=nd.kids.length)
   ⟨0,V,acc,rfl,Fx.refl s,hB,hV,by simp only[rB,rP,rQ,q8,qa,q7,qb,reduceIte,reduceCtorEq,Nat.reduceAdd,Nat.reduceLT,Nat.reduceEqDiff,UInt8.reduceToNat],by simp only[rB,rP,rQ,q8,qa,q7,qb,reduceIte,reduceCtorEq,Nat.reduceAdd,Nat.reduceLT,Nat.reduceEqDiff,UInt8.reduceToNat],by simp only[rB,rP,rQ,q8,qa,q7,qb,reduceIte,reduceCtorEq,Nat.reduceAdd,Nat.reduceLT,Nat.reduceEqDiff,UInt8.reduceToNat],by simp only[rB,rP,rQ,q8,qa,q7,qb,reduceIte,reduceCtorEq,Nat.reduceAdd,Nat.reduceLT,Nat.reduceEqDiff,UInt8.reduceToNat];rfl,hlen,rfl⟩ ?_
  rintro n t s2 ih ⟨i,V2,acc2,hn,hF2,hB2,hV2,t0,t1,t2,t7,hl2,hm⟩
  have Rp2:=Rp.fx hF2
  obtain⟨u1,u2,u3⟩:=Rp2.nd k nd hnd
  have kl:=u3.len qt6
  have lk:(Qh ι nd.kids).length=nd.kids.length:=by unfold Qh;rw[List.length_map]
  rw[lk] at kl
  have ki:=u3.ids
  have vi:=u2.ids
  cases n with
  | zero =>
   have g0:=QO (a:=i) (b:=nd.kids.length) (by omega)
   rw[List.drop_eq_nil_of_le (by omega:nd.kids.length≤i),List.drop_eq_nil_of_le (by omega:nd.names.length≤i)] at hm
   simp only[W4,List.append_nil] at hm
   rw[hm] at hk
   repeat (first|with_reducible (refine q9 H ?_;constructor)|simp only[rB,rP,rQ,q8,qa,q7,qb,reduceIte,reduceCtorEq,Nat.reduceAdd,Nat.reduceLT,Nat.reduceEqDiff,UInt8.reduceToNat,pe3,pf3,t0,t1,t2,t7,qV,qfd,qft,u1,qt0,qa3,kl,ki,zJ,g0,Tryz.results45])
   exact hk s2 V2 hF2 hB2 hV2
  | succ n =>
   have hlt:i < nd.kids.length:=by omega
   have hltn:i < nd.names.length:=by omega
   have g0:=Yd hlt
   have hx:nd.kids[i]?=some nd.kids[i]:=List.getElem?_eq_getElem hlt
   have hy:nd.names[i]?=some nd.names[i]:=List.getElem?_eq_getElem hltn
   rw[List.drop_eq_getElem_cons hlt] at hl2
   rw[List.drop_eq_getElem_cons hlt,List.drop_eq_getElem_cons hltn] at hm
   generalize nd.kids[i]=j at hx hm hl2
   generalize nd.names[i]=nm at hy hm
   have hj:=T.inc k nd hnd j (List.mem_of_getElem? hx)
   have hnm:=q3 nm (List.mem_of_getElem? hy)
   obtain⟨jd,hjd⟩:=Rp.node_of hj.2
   obtain⟨j1,j2,j3⟩:=Rp2.nd j jd hjd
   obtain⟨id,x1,x2,x3,_⟩:=u3.at qt6 (k:=i) (v:=.ptr (ι j) 0) (by unfold Qh;rw[List.getElem?_map,hx];rfl)
   obtain⟨id',y1,y2,y3,_⟩:=u2.at q0d (k:=i) (v:=.str nm) (by rw[List.getElem?_map,hy];rfl)
   simp only[qfn,List.length_cons,List.length_append] at hl2
   simp only[W4,hjd] at hm
   have ew:=zL (k:=i) (by omega)
   have jl:=qen (a:=p) (b:=nm)
   have hb2:b≤s2.nx:=Nat.le_trans hb hF2.1
   repeat (first|with_reducible (refine q9 H ?_;constructor)|simp only[rB,rP,rQ,q8,qa,q7,qb,reduceIte,reduceCtorEq,Nat.reduceAdd,Nat.reduceLT,Nat.reduceEqDiff,UInt8.reduceToNat,pe3,pf3,t0,t1,t2,t7,qV,qgk,qfd,qft,qjq,QJ,qD,u1,qv1,qt0,qa3,kl,ki,vi,zJ,g0,x1,x2,x3,y1,y2,y3])
   refine qyk H (by omega) ?_
   generalize YP p nm=pj at *
   have lj:=Rp2.li hB2 hj.2
   have m1:(ι j=s2.nx)=False:=by simp;omega
   have hVV:beqA V2 V2=true:=by
    rcases hV2 with⟨rfl,_⟩|⟨id,_,rfl,_⟩
    ·rfl
    ·simp[beqA]
   have hB3:qc (s2.alloc (.cells (Q8 [enR pj jd]) 34 0)):=qx hB2 _
   have hV3:=hV2.ext5 hB2 (Ext.alloc s2 (.cells (Q8 [enR pj jd]) 34 0))
   obtain⟨V4,s4,ea,hV4,hF4,hB4,hkeep,w1,w2⟩:=qte (b:=b) (by show b≤s2.nx+1;omega) hB3 hV3 (by omega) (e:=enR pj jd) (q:=s2.nx) qu
   have gj:s4.h.get (ι j)=some (rnA ι jd (ν j) (κ j)):=hkeep _ _ ((zg (by omega)).trans j1) rfl
   simp only[Q8,enR] at ea
   repeat (first|with_reducible (refine q9 H ?_;constructor)|simp only[rB,rP,rQ,q8,qa,q7,qb,reduceIte,reduceCtorEq,Nat.reduceAdd,Nat.reduceLT,Nat.reduceEqDiff,UInt8.reduceToNat,pe3,pf3,t0,t1,t2,t7,qV,qg1,quv,q8m,qK,qD,j1,gj,m1,qyj,lr_2,lr_3,qa3,q6p,qze,hVV,ea]|(with_reducible refine qy H (i:=6) (.take 0 (.take 1 (.take 2 (.take 3 (.take 4 (.take 5 (.take 6 (.take 7 (.take 8 (.take 9 (.take 10 (.take 11 (.take 12 (.take 13 (.take 14 (.alt 15 [1,2,3,4,5,6,7,8,9,10,11,12,13,14] (.alt 16 [0,1,2,3,4,5,6,7,8,9,10,11,12,13,14,15] (.take 17 (.done)) (.yes)) (.yes))))))))))))))))) rfl (by kernel_rfl) ?_))
   have hF5:Fx b s s4:=hF2.trans ((Fx.of hb2 hB2 (Ext.alloc s2 _)).trans hF4)
   refine qoq H T hN (f:=f) (Rp.fx hF5) hB4 (Nat.le_trans hb hF5.1) hj.2 (by omega) (by omega) hV4 (by simp;omega) (fun s6 V6 hF6 hB6 hV6=>?_)
   repeat (first|with_reducible (refine q9 H ?_;constructor)|simp only[rB,rP,rQ,q8,qa,q7,qb,reduceIte,reduceCtorEq,Nat.reduceAdd,Nat.reduceLT,Nat.reduceEqDiff,UInt8.reduceToNat,pe3,pf3,t0,t1,t2,t7,qI,ew])
   exact ih n _ _ (Nat.lt_succ_self n) ⟨i+1,V6,_,by omega,hF5.trans hF6,hB6,hV6,by simp only[rB,rP,rQ,q8,qa,q7,qb,reduceIte,reduceCtorEq,Nat.reduceAdd,Nat.reduceLT,Nat.reduceEqDiff,UInt8.reduceToNat,t0],by simp only[rB,rP,rQ,q8,qa,q7,qb,reduceIte,reduceCtorEq,Nat.reduceAdd,Nat.reduceLT,Nat.reduceEqDiff,UInt8.reduceToNat,t1],by simp only[rB,rP,rQ,q8,qa,q7,qb,reduceIte,reduceCtorEq,Nat.reduceAdd,Nat.reduceLT,Nat.reduceEqDiff,UInt8.reduceToNat],by simp only[rB,rP,rQ,q8,qa,q7,qb,reduceIte,reduceCtorEq,Nat.reduceAdd,Nat.reduceLT,Nat.reduceEqDiff,UInt8.reduceToNat],by simp only[List.length_append,List.length_cons,List.length_nil,qb3 T];omega,by rw[hm];simp[enR]⟩
theorem qk4 {s:St} (H:Ok TE Tryz.prog pr3) (hB:qc s) {x:Nat} {R:RM} {ι:Nat→Nat} {ν κ:Nat→AV} {φ:AV} (T:TrR R) (hN:R.nodes.length≤10000) (Rp:RepR s x R ι ν κ φ) {kr kp:AV→St→Bool}
  (hk:∀ s' V',Fx s.nx s s'→qc s'→ErB s.nx s' V' (qf4 R R.nodes.length 0 [])→kr V' s'=true):(sem Tryz.prog).call 16 [.ptr x 0] s kr kp=true:=by
 refine qp H 8 q5r rfl rfl ?_
 have hx:=Rp.tr
 have hl:=qiz T (f:=R.nodes.length) (k:=0)
 repeat (first|with_reducible (refine q9 H ?_;constructor)|simp only[rB,rP,rQ,q8,qa,q7,qb,reduceIte,reduceCtorEq,Nat.reduceAdd,Nat.reduceLT,Nat.reduceEqDiff,UInt8.reduceToNat,pe3,pf3,qV,qxx,qjq,hx,q7u,q41])
 refine qoq H T hN (f:=R.nodes.length) Rp hB (Nat.le_refl _) T.pos (by omega) (Nat.zero_le _) (acc:=[]) (Or.inl ⟨rfl,rfl⟩) (by simp;omega) (fun s' V' h1 h2 h3=>?_)
 repeat (first|with_reducible (refine q9 H ?_;constructor)|simp only[rB,rP,rQ,q8,qa,q7,qb,reduceIte,reduceCtorEq,Nat.reduceAdd,Nat.reduceLT,Nat.reduceEqDiff,UInt8.reduceToNat,Tryz.results16])
 exact hk s' V' h1 h2 (by simpa using h3)
theorem qgm {p:List Nat} (h0:p≠[]) (hc:Q4 p=true):∃ ps nm,Qc p=(qo [47] ps,nm)∧qq p=ps++[nm]∧qq (qo [47] ps)=ps∧nm.length≤16∧p.length≤140∧(qo [47] ps).length≤140:=by
 rw[qer h0] at hc
 obtain⟨l,hl,e1,hg,h8,hb⟩:=pathE_iff.1 hc
 obtain⟨ps,nm,rfl⟩:=Jg hl
 have gp:∀ x∈ps,Good x:=fun x hx=>hg x (List.mem_append_left _ hx)
 have gn:Good nm:=hg nm (by simp)
 have hs:Qc p=(qo [47] ps,nm):=by rw[e1];exact qab gp gn
 refine⟨ps,nm,hs,by rw[e1];exact qW hg,qW gp,qig gn,hb,?_⟩
 have:(Qc p).1.length≤p.length:=by
  unfold Qc
  cases decide (Q9 p 47 p.length ≥ 0)
  ·exact Nat.zero_le _
  ·simp only[cond_true,List.length_take]
   omega
 rw[hs] at this
 simp only at this
 omega
theorem q2z {s:St} (H:Ok TE Tryz.prog pr3) {x:Nat} {R:RM} {ι:Nat→Nat} {ν κ:Nat→AV} {φ:AV} (Rp:RepR s x R ι ν κ φ) (hB:qc s) {u j o iu ij:Nat} (eu:ι u=iu) (ej:ι j=ij) {ud jd od:RN} (hu:R.nodes[u]?=some ud) (hj:R.nodes[j]?=some jd) (ho:R.nodes[o]?=some od) (hju:j≠u) (hou:o≠u) (hoj:o≠j) {nm:List Nat} (hold:ZI ud nm=some o)
  {kr kp:AV→St→Bool} (hk:∀ s',RepR s' x (qu0 R u ud (zH nm ud.names) j jd o od) ι ν κ φ→qc s'→Nxt s s' (Jz x R ι ν κ φ) (Jz x (qu0 R u ud (zH nm ud.names) j jd o od) ι ν κ φ)→kr (.tuple []) s'=true) :
  (sem Tryz.prog).call 56 [.ptr iu 0,.str nm,.ptr ij 0] s kr kp=true:=by
 subst eu
 subst ej
 exact q7c H Rp hB hu hj ho hju hou hoj hold hk
def qm0 (R:RM) (u:Nat) (ud:RN) (nm:List Nat) (nd:RN):Option RM:=match ZI ud nm with
 | none=>some (qq8 (Wr R nd) u ud nm R.nodes.length { nd with id:=R.next+1 })
 | some o=>match R.nodes[o]? with
  | none=>none
  | some od=>some (qu0 (Wr R nd) u ud (zH nm ud.names) R.nodes.length { nd with id:=R.next+1 } o od)
theorem qst {s s1:St} (H:Ok TE Tryz.prog pr3) {x:Nat} {R:RM} {ι:Nat→Nat} {ν κ:Nat→AV} {φ:AV} (Rp:RepR s x R ι ν κ φ) (hB:qc s) (T:TrR R) (hN:R.nodes.length≤800) (hE:Ext s s1) (hB1:qc s1) {y:Nat} (hy:s.nx≤y) {a b:Int} {d:List Nat} (g:s1.h.get y=some (rnA ι (Yf a b d) nilS nilS)) (hd:d.length≤1024)
  {p nm:List Nat} {ps:List (List Nat)} {u:Nat} {ud:RN} (hs:Qc p=(qo [47] ps,nm)) (hpp:qq (qo [47] ps)=ps) (hpl:p.length≤140) (hjl:(qo [47] ps).length≤140) (hnm:nm.length≤16) (hl:z8 (Vw R) 0 ps=some u) (hu:R.nodes[u]?=some ud)
  {kr kp:AV→St→Bool} (hk:∀ s' R' ι' ν' κ',qm0 R u ud nm (Yf a b d)=some R'→RepR s' x R' ι' ν' κ' φ→TrR R'→R'.nodes.length=R.nodes.length+1→qc s'→Nxt s s' (Jz x R ι ν κ φ) (Jz x R' ι' ν' κ' φ)→kr (.tuple []) s'=true) :
  (sem Tryz.prog).call 119 [.ptr x 0,.str p,.ptr y 0] s1 kr kp=true:=by
 refine qp H 21 q1u rfl rfl ?_
 have hul:=(List.getElem?_eq_some_iff.mp hu).1
 obtain⟨s1',s2',s3'⟩:=T.nml u ud hu
 repeat (first|with_reducible (refine q9 H ?_;constructor)|simp only[rB,rP,rQ,q8,qa,q7,qb,reduceIte,reduceCtorEq,Nat.reduceAdd,Nat.reduceLT,Nat.reduceEqDiff,UInt8.reduceToNat,pe3,pf3])
 refine VT H (by omega) ?_
 rw[hs]
 repeat (first|with_reducible (refine q9 H ?_;constructor)|simp only[rB,rP,rQ,q8,qa,q7,qb,reduceIte,reduceCtorEq,Nat.reduceAdd,Nat.reduceLT,Nat.reduceEqDiff,UInt8.reduceToNat,pe3,pf3])
 refine Wa H (Rp.ext hB hE) hB1 (by omega) (fun s2 hE2 hB2=>?_)
 try simp only
 rw[hpp,hl]
 have lx:=Rp.lx hB
 have hEE:=hE.trans hE2
 have g2:s2.h.get y=some (rnA ι (Yf a b d) nilS nilS):=(hE2.2 _ (hB1 _ _ g)).trans g
 have hx2:=(Rp.ext hB hEE).tr
 have hNx:=T.nxt
 repeat (first|with_reducible (refine q9 H ?_;constructor)|simp only[rB,rP,rQ,q8,qa,q7,qb,reduceIte,reduceCtorEq,Nat.reduceAdd,Nat.reduceLT,Nat.reduceEqDiff,UInt8.reduceToNat,pe3,pf3,Option.map_some,QD])
 refine qtd H hB2 hx2 g2 (by omega) Rp.nx (fun s3 hn3 hB3 b1 b2 b3=>?_)
 obtain⟨Ra,Na⟩:=Rp.add (s':=s3) hB (y:=y) (nd:=Yf a b d) ⟨rfl,rfl,rfl⟩ hy (by omega) b1 b2 (fun i hi h1=>(b3 i h1 (by omega)).trans (hEE.2 i hi)) (by have:=hEE.1;omega)
 have hu7:(Wr R (Yf a b d)).nodes[u]?=some ud:=(List.getElem?_append_left hul).trans hu
 have hj7:(Wr R (Yf a b d)).nodes[R.nodes.length]?=some { Yf a b d with id:=R.next+1 }:=by
  unfold Wr
  simp
 repeat (first|with_reducible (refine q9 H ?_;constructor)|simp only[rB,rP,rQ,q8,qa,q7,qb,reduceIte,reduceCtorEq,Nat.reduceAdd,Nat.reduceLT,Nat.reduceEqDiff,UInt8.reduceToNat,pe3,pf3])
 cases ho:ZI ud nm with
 | none =>
  refine qt7 H Ra hB3 (u:=u) (j:=R.nodes.length) (if_neg (by omega)) (if_pos rfl) hu7 hj7 (by omega) ho (by omega) (fun s8 ν8 κ8 R8 hB8 N8=>?_)
  repeat (first|with_reducible (refine q9 H ?_;constructor)|simp only[rB,rP,rQ,q8,qa,q7,qb,reduceIte,reduceCtorEq,Nat.reduceAdd,Nat.reduceLT,Nat.reduceEqDiff,UInt8.reduceToNat,Tryz.results119])
  exact hk s8 _ _ _ _ (by unfold qm0;rw[ho]) R8 (T.new hu hnm hd) (by show (((R.nodes++[_]).set _ _).set _ _).length=_;simp) hB8 (Na.trans N8)
 | some o =>
  have hko:=Je ho
  have hoi:=T.inc u ud hu o (List.mem_of_getElem? hko)
  have hod:R.nodes[o]?=some R.nodes[o]:=List.getElem?_eq_getElem hoi.2
  generalize R.nodes[o]=od at hod
  have ho7:(Wr R (Yf a b d)).nodes[o]?=some od:=(List.getElem?_append_left hoi.2).trans hod
  refine q2z H Ra hB3 (u:=u) (j:=R.nodes.length) (o:=o) (if_neg (by omega)) (if_pos rfl) hu7 hj7 ho7 (by omega) (by omega) (by omega) ho (fun s8 R8 hB8 N8=>?_)
  repeat (first|with_reducible (refine q9 H ?_;constructor)|simp only[rB,rP,rQ,q8,qa,q7,qb,reduceIte,reduceCtorEq,Nat.reduceAdd,Nat.reduceLT,Nat.reduceEqDiff,UInt8.reduceToNat,Tryz.results119])
  exact hk s8 _ _ _ _ (by unfold qm0;rw[ho];simp only[hod]) R8 (T.rep hu hod ho hd) (by show ((((R.nodes++[_]).set _ _).set _ _).set _ _).length=_;simp) hB8 (Na.trans N8)
theorem qyr {s:St} (H:Ok TE Tryz.prog pr3) {x:Nat} {R:RM} {ι:Nat→Nat} {ν κ:Nat→AV} {φ:AV} (Rp:RepR s x R ι ν κ φ) (hB:qc s) (T:TrR R)
  {p nm:List Nat} {ps:List (List Nat)} {u o:Nat} {ud od:RN} (hs:Qc p=(qo [47] ps,nm)) (hpp:qq (qo [47] ps)=ps) (hpl:p.length≤140) (hjl:(qo [47] ps).length≤140) (hl:z8 (Vw R) 0 ps=some u) (hu:R.nodes[u]?=some ud) (ho:R.nodes[o]?=some od) (hold:ZI ud nm=some o)
  {kr kp:AV→St→Bool} (hk:∀ s' ν' κ',RepR s' x (qec R u ud (zH nm ud.names) o od) ι ν' κ' φ→qc s'→Nxt s s' (Jz x R ι ν κ φ) (Jz x (qec R u ud (zH nm ud.names) o od) ι ν' κ' φ)→kr (.tuple []) s'=true) :
  (sem Tryz.prog).call 118 [.ptr x 0,.str p] s kr kp=true:=by
 refine qp H 16 q03 rfl rfl ?_
 have hoi:=T.inc u ud hu o (List.mem_of_getElem? (Je hold))
 repeat (first|with_reducible (refine q9 H ?_;constructor)|simp only[rB,rP,rQ,q8,qa,q7,qb,reduceIte,reduceCtorEq,Nat.reduceAdd,Nat.reduceLT,Nat.reduceEqDiff,UInt8.reduceToNat,pe3,pf3])
 refine VT H (by omega) ?_
 rw[hs]
 repeat (first|with_reducible (refine q9 H ?_;constructor)|simp only[rB,rP,rQ,q8,qa,q7,qb,reduceIte,reduceCtorEq,Nat.reduceAdd,Nat.reduceLT,Nat.reduceEqDiff,UInt8.reduceToNat,pe3,pf3])
 refine Wa H Rp hB (by omega) (fun s2 hE2 hB2=>?_)
 try simp only
 rw[hpp,hl]
 repeat (first|with_reducible (refine q9 H ?_;constructor)|simp only[rB,rP,rQ,q8,qa,q7,qb,reduceIte,reduceCtorEq,Nat.reduceAdd,Nat.reduceLT,Nat.reduceEqDiff,UInt8.reduceToNat,pe3,pf3,Option.map_some,QD])
 refine q2p H (Rp.ext hB hE2) hB2 hu ho (by omega) hold (fun s3 ν3 κ3 R3 hB3 N3=>?_)
 repeat (first|with_reducible (refine q9 H ?_;constructor)|simp only[rB,rP,rQ,q8,qa,q7,qb,reduceIte,reduceCtorEq,Nat.reduceAdd,Nat.reduceLT,Nat.reduceEqDiff,UInt8.reduceToNat,Tryz.results118])
 exact hk s3 _ _ R3 hB3 (Nxt.of_ext hE2 N3)
def qfw (e:En):RN:=bif e.2.1==1 then Yf 1 e.2.2.1 [] else bif e.2.1==5 then Yf 1 e.2.2.1 [] else Yf e.2.1 e.2.2.1 e.2.2.2
def qng (R:RM) (e:En):Option RM :=
 match z8 (Vw R) 0 (qq (Qc e.1).1) with
 | none=>none
 | some u=>match R.nodes[u]? with
  | none=>none
  | some ud=>bif ud.kind != 1 then none else
   match ZI ud (Qc e.1).2 with
   | none=>bif e.2.1==4 then none else qm0 R u ud (Qc e.1).2 (qfw e)
   | some o=>match R.nodes[o]? with
    | none=>none
    | some od=>bif e.2.1==4 then some (qec R u ud (zH (Qc e.1).2 ud.names) o od) else bif e.2.1==1 then (bif od.kind==1 then some { R with nodes:=R.nodes.set o { od with mode:=e.2.2.1 } } else qm0 R u ud (Qc e.1).2 (qfw e)) else qm0 R u ud (Qc e.1).2 (qfw e)
theorem sr_2 {s:St} {x:Nat} {ι:Nat→Nat} {nd:RN} {V K:AV} {z:Int}:stO s x (some (rnA ι nd V K)) 2 (.raw (.int .i64 z))=some { s with h:=s.h.set x (rnA ι { nd with mode:=z } V K) }:=(rfl)
theorem qwe {m:Int}:Qb TE 107 [(1,.raw (.int .i64 1)),(2,.raw (.int .i64 m))]=some (.agg [.raw (.int .i64 0),.raw (.int .i64 1),.raw (.int .i64 m),.str [],nilS,nilS,.raw (.pointer none)]):=by kernel_rfl
theorem qv3 {R:RM} (T:TrR R) {i j:Nat} {nm:List Nat} (h:Vw R i nm=some j):j < R.nodes.length:=by
 unfold Vw at h
 cases hi:R.nodes[i]? with
 | none=>rw[hi] at h;cases h
 | some nd =>
  rw[hi] at h
  exact (T.inc i nd hi j (List.mem_of_getElem? (Je h))).2
theorem qi7 {R:RM} (T:TrR R):∀ {ps:List (List Nat)} {i u:Nat},i < R.nodes.length→z8 (Vw R) i ps=some u→u < R.nodes.length
 | [],i,u,hi,h=>by cases h;exact hi
 | p::ps,i,u,hi,h=>by
  simp only[z8] at h
  cases hk:Vw R i p with
  | none=>rw[hk] at h;cases h
  | some j =>
   rw[hk] at h
   exact qi7 T (qv3 T hk) h
theorem qum {s:St} (H:Ok TE Tryz.prog pr3) {x:Nat} {R:RM} {ι:Nat→Nat} {ν κ:Nat→AV} {φ:AV} (Rp:RepR s x R ι ν κ φ) (hB:qc s) (T:TrR R) (hN:R.nodes.length≤800) {e:En} (h0:e.1≠[]) (hc:Q4 e.1=true) (hd:e.2.2.2.length≤1024)
  {kr kp:AV→St→Bool} (hk:∀ s' R' ι' ν' κ',qng R e=some R'→RepR s' x R' ι' ν' κ' φ→TrR R'→R'.nodes.length≤R.nodes.length+1→qc s'→Nxt s s' (Jz x R ι ν κ φ) (Jz x R' ι' ν' κ' φ)→kr (.raw (.bool true)) s'=true)
  (hf:∀ s',qng R e=none→Ext s s'→qc s'→kr (.raw (.bool false)) s'=true) :
  (sem Tryz.prog).call 80 [.ptr x 0,agE e] s kr kp=true:=by
 refine qp H 90 q8h rfl rfl ?_
 obtain⟨ps,nm,hs,hp,hpp,hnm,hpl,hjl⟩:=qgm h0 hc
 have hB1:qc (s.alloc (.cells (celE e) 34 0)):=qx hB _
 have hE1:Ext s (s.alloc (.cells (celE e) 34 0)):=Ext.alloc s _
 have c1:(s.alloc (.cells (celE e) 34 0)).h.get s.nx=some (.cells (celE e) 34 0):=qu
 have hag:agE e=.agg (celE e):=rfl
 have hq:qng R e=(match z8 (Vw R) 0 ps with
  | none=>none
  | some u=>match R.nodes[u]? with
   | none=>none
   | some ud=>bif ud.kind != 1 then none else
    match ZI ud nm with
    | none=>bif e.2.1==4 then none else qm0 R u ud nm (qfw e)
    | some o=>match R.nodes[o]? with
     | none=>none
     | some od=>bif e.2.1==4 then some (qec R u ud (zH nm ud.names) o od) else bif e.2.1==1 then (bif od.kind==1 then some { R with nodes:=R.nodes.set o { od with mode:=e.2.2.1 } } else qm0 R u ud nm (qfw e)) else qm0 R u ud nm (qfw e)):=by
  unfold qng
  rw[hs]
  simp only
  rw[hpp]
 rw[hq] at hk hf
 rw[hag]
 repeat (first|with_reducible (refine q9 H ?_;constructor)|simp only[rB,rP,rQ,q8,qa,q7,qb,reduceIte,reduceCtorEq,Nat.reduceAdd,Nat.reduceLT,Nat.reduceEqDiff,UInt8.reduceToNat,pe3,pf3,qf])
 generalize s.alloc (.cells (celE e) 34 0)=s1 at *
 repeat (first|with_reducible (refine q9 H ?_;constructor)|simp only[rB,rP,rQ,q8,qa,q7,qb,reduceIte,reduceCtorEq,Nat.reduceAdd,Nat.reduceLT,Nat.reduceEqDiff,UInt8.reduceToNat,pe3,pf3,c1,qg,qD,zm,ze])
 refine VT H (by omega) ?_
 rw[hs]
 repeat (first|with_reducible (refine q9 H ?_;constructor)|simp only[rB,rP,rQ,q8,qa,q7,qb,reduceIte,reduceCtorEq,Nat.reduceAdd,Nat.reduceLT,Nat.reduceEqDiff,UInt8.reduceToNat,pe3,pf3])
 refine Wa H (Rp.ext hB hE1) hB1 (by omega) (fun s2 hE2 hB2=>?_)
 rw[hpp]
 have c2:=(hE2.2 _ (hB1 _ _ c1)).trans c1
 have hEs2:=hE1.trans hE2
 have Rp2:=Rp.ext hB hEs2
 cases hl:z8 (Vw R) 0 ps with
 | none =>
  rw[hl] at hf
  repeat (first|with_reducible (refine q9 H ?_;constructor)|simp only[rB,rP,rQ,q8,qa,q7,qb,reduceIte,reduceCtorEq,Nat.reduceAdd,Nat.reduceLT,Nat.reduceEqDiff,UInt8.reduceToNat,pe3,pf3,Option.map_none,Xb,qwa,qht,qmd,ZY,Tryz.results80])
  exact hf s2 rfl hEs2 hB2
 | some u =>
 have hul:u < R.nodes.length:=qi7 T T.pos hl
 have hu:R.nodes[u]?=some R.nodes[u]:=List.getElem?_eq_getElem hul
 generalize R.nodes[u]=ud at hu
 rw[hl] at hf hk
 simp only[hu] at hf hk
 obtain⟨r1,r2,r3⟩:=Rp2.nd u ud hu
 cases hkd:ud.kind != 1 with
 | true =>
  rw[hkd] at hf
  repeat (first|with_reducible (refine q9 H ?_;constructor)|simp only[rB,rP,rQ,q8,qa,q7,qb,reduceIte,reduceCtorEq,Nat.reduceAdd,Nat.reduceLT,Nat.reduceEqDiff,UInt8.reduceToNat,pe3,pf3,Option.map_some,QD,WD,qok,qV,qg1,qK,r1,qyj,qa3,qH,hkd,Tryz.results80])
  exact hf s2 rfl hEs2 hB2
 | false =>
 rw[hkd] at hf hk
 simp only[cond_false] at hf hk
 repeat (first|with_reducible (refine q9 H ?_;constructor)|simp only[rB,rP,rQ,q8,qa,q7,qb,reduceIte,reduceCtorEq,Nat.reduceAdd,Nat.reduceLT,Nat.reduceEqDiff,UInt8.reduceToNat,pe3,pf3,Option.map_some,QD,WD,qok,qV,qg1,qK,r1,qyj,qa3,qH,hkd,c2,qg,qD,zm,ze])
 refine Wa H Rp2 hB2 (by omega) (fun s3 hE3 hB3=>?_)
 have hkk:Vw R u nm=ZI ud nm:=by unfold Vw;rw[hu]
 have hlk:z8 (Vw R) 0 (qq e.1)=ZI ud nm:=by
  rw[hp,Xa,hl]
  simp only[z8,hkk]
  cases ZI ud nm <;> rfl
 rw[hlk]
 have c3:=(hE3.2 _ (hB2 _ _ c2)).trans c2
 have hEs3:=hEs2.trans hE3
 have Rp3:=Rp.ext hB hEs3
 have key:∀ {s4:St} {a b:Int} {d:List Nat} {kr' kp':AV→St→Bool},qfw e=Yf a b d→s4=s3.alloc (rnA ι (Yf a b d) nilS nilS)→(∀ s' R' ι' ν' κ',qm0 R u ud nm (qfw e)=some R'→RepR s' x R' ι' ν' κ' φ→TrR R'→R'.nodes.length≤R.nodes.length+1→qc s'→Nxt s s' (Jz x R ι ν κ φ) (Jz x R' ι' ν' κ' φ)→kr' (.tuple []) s'=true) →
   (sem Tryz.prog).call 119 [.ptr x 0,.str e.1,.ptr s3.nx 0] s4 kr' kp'=true:=by
  intro s4 a b d kr' kp' hn h4 hk'
  subst h4
  have hdd:d.length≤1024:=by
   have:=congrArg RN.data hn
   unfold qfw at this
   cases z1:e.2.1==1 with
   | true=>rw[z1] at this;simp only[cond_true,Yf] at this;rw[← this];exact Nat.zero_le _
   | false =>
    cases z2:e.2.1==5 with
    | true=>rw[z1,z2] at this;simp only[cond_true,cond_false,Yf] at this;rw[← this];exact Nat.zero_le _
    | false=>rw[z1,z2] at this;simp only[cond_false,Yf] at this;rw[← this];exact hd
  refine qst H Rp3 hB3 T hN (Ext.alloc s3 _) (qx hB3 _) (Nat.le_refl _) qu hdd hs hpp hpl hjl hnm hl hu (fun s' R' ι' ν' κ' p1 p2 p3 p4 p5 p6=>?_)
  rw[← hn] at p1
  exact hk' s' R' ι' ν' κ' p1 p2 p3 (by omega) p5 (Nxt.of_ext hEs3 p6)
 cases k4:e.2.1==4 with
 | true =>
  simp only[k4,cond_true] at hk hf
  cases hko:ZI ud nm with
  | none =>
   rw[hko] at hf
   repeat (first|with_reducible (refine q9 H ?_;constructor)|simp only[rB,rP,rQ,q8,qa,q7,qb,reduceIte,reduceCtorEq,Nat.reduceAdd,Nat.reduceLT,Nat.reduceEqDiff,UInt8.reduceToNat,pe3,pf3,Option.map_none,Xb,c3,qg,qh,qD,qK,zm,zR,ze,zo,qr,k4,qwa,qht,qmd,ZY,Tryz.results80])
   exact hf s3 rfl hEs3 hB3
  | some o =>
   have hol:=(T.inc u ud hu o (List.mem_of_getElem? (Je hko))).2
   have ho:R.nodes[o]?=some R.nodes[o]:=List.getElem?_eq_getElem hol
   generalize R.nodes[o]=od at ho
   rw[hko] at hk
   simp only[ho] at hk
   repeat (first|with_reducible (refine q9 H ?_;constructor)|simp only[rB,rP,rQ,q8,qa,q7,qb,reduceIte,reduceCtorEq,Nat.reduceAdd,Nat.reduceLT,Nat.reduceEqDiff,UInt8.reduceToNat,pe3,pf3,Option.map_some,QD,c3,qg,qh,qD,qK,zm,zR,ze,zo,qr,k4,WD,qok])
   refine qyr H Rp3 hB3 T hs hpp hpl hjl hl hu ho hko (fun s' ν' κ' p1 p2 p3=>?_)
   repeat (first|with_reducible (refine q9 H ?_;constructor)|simp only[rB,rP,rQ,q8,qa,q7,qb,reduceIte,reduceCtorEq,Nat.reduceAdd,Nat.reduceLT,Nat.reduceEqDiff,UInt8.reduceToNat,pe3,pf3,Tryz.results80])
   exact hk s' _ ι ν' κ' rfl p1 (T.drop hu ho hko) (by show ((R.nodes.set _ _).set _ _).length≤_;simp) p2 (Nxt.of_ext hEs3 p3)
 | false =>
 simp only[k4,cond_false] at hk hf
 cases k1:e.2.1==1 with
 | true =>
  have hn:qfw e=Yf 1 e.2.2.1 []:=by unfold qfw;rw[k1];rfl
  simp only[k1,cond_true] at hk hf
  cases hko:ZI ud nm with
  | none =>
   rw[hko] at hk
   repeat (first|with_reducible (refine q9 H ?_;constructor)|simp only[rB,rP,rQ,q8,qa,q7,qb,reduceIte,reduceCtorEq,Nat.reduceAdd,Nat.reduceLT,Nat.reduceEqDiff,UInt8.reduceToNat,pe3,pf3,Option.map_none,Xb,c3,qg,qh,qi,qj,qD,qK,zm,zR,Qo,Qm,ze,zo,zM,zP,qr,k4,k1,qu1,qgh,qni,ZY,qwe,qf])
   refine key hn rfl (fun s' R' ι' ν' κ' p1 p2 p3 p4 p5 p6=>?_)
   repeat (first|with_reducible (refine q9 H ?_;constructor)|simp only[rB,rP,rQ,q8,qa,q7,qb,reduceIte,reduceCtorEq,Nat.reduceAdd,Nat.reduceLT,Nat.reduceEqDiff,UInt8.reduceToNat,pe3,pf3,Tryz.results80])
   exact hk s' R' ι' ν' κ' p1 p2 p3 p4 p5 p6
  | some o =>
   have hol:=(T.inc u ud hu o (List.mem_of_getElem? (Je hko))).2
   have ho:R.nodes[o]?=some R.nodes[o]:=List.getElem?_eq_getElem hol
   generalize R.nodes[o]=od at ho
   rw[hko] at hk
   simp only[ho] at hk
   obtain⟨o1,o2,o3⟩:=Rp3.nd o od ho
   cases k6:od.kind==1 with
   | true =>
    simp only[k6,cond_true] at hk
    repeat (first|with_reducible (refine q9 H ?_;constructor)|simp only[rB,rP,rQ,q8,qa,q7,qb,reduceIte,reduceCtorEq,Nat.reduceAdd,Nat.reduceLT,Nat.reduceEqDiff,UInt8.reduceToNat,pe3,pf3,Option.map_some,QD,c3,qg,qh,qi,qj,qD,qK,zm,zR,Qo,Qm,ze,zo,zM,zP,qr,k4,k1,qka,qr8,qV,qg1,quv,o1,qyj,qa3,k6,qlf,sr_2,Tryz.results80])
    obtain⟨Rp4,N4⟩:=Rp3.node hB3 ho (nd':={ od with mode:=e.2.2.1 }) (V':=ν o) (K':=κ o) (s':={ h:=s3.h.set (ι o) (rnA ι { od with mode:=e.2.2.1 } (ν o) (κ o)),nx:=s3.nx }) hs_same (o2.keep (fun b hb=>qe (Rp3.vi hol hol hb))) (o3.keep (fun b hb=>qe (Rp3.ki hol hol hb))) (fun b hb=>Or.inl hb) (fun b hb=>Or.inl hb) (Nat.le_refl _) (fun i hi h1 _ _=>qe h1) (Rp3.kd o od ho) (fun w hw=>Rp3.up o od w ho hw) (Rp3.nn o od ho)
    exact hk _ _ ι _ _ rfl Rp4 (T.mode ho) (by show (R.nodes.set _ _).length≤_;simp) (qn hB3 (Rp3.li hB3 hol) _) (Nxt.of_ext hEs3 N4)
   | false =>
    simp only[k6,cond_false] at hk
    repeat (first|with_reducible (refine q9 H ?_;constructor)|simp only[rB,rP,rQ,q8,qa,q7,qb,reduceIte,reduceCtorEq,Nat.reduceAdd,Nat.reduceLT,Nat.reduceEqDiff,UInt8.reduceToNat,pe3,pf3,Option.map_some,QD,c3,qg,qh,qi,qj,qD,qK,zm,zR,Qo,Qm,ze,zo,zM,zP,qr,k4,k1,qka,qr8,qV,qg1,quv,o1,qyj,qa3,k6,qwe,qf])
    refine key hn rfl (fun s' R' ι' ν' κ' p1 p2 p3 p4 p5 p6=>?_)
    repeat (first|with_reducible (refine q9 H ?_;constructor)|simp only[rB,rP,rQ,q8,qa,q7,qb,reduceIte,reduceCtorEq,Nat.reduceAdd,Nat.reduceLT,Nat.reduceEqDiff,UInt8.reduceToNat,pe3,pf3,Tryz.results80])
    exact hk s' R' ι' ν' κ' p1 p2 p3 p4 p5 p6
 | false =>
  have hk2:∀ s' R' ι' ν' κ',qm0 R u ud nm (qfw e)=some R'→RepR s' x R' ι' ν' κ' φ→TrR R'→R'.nodes.length≤R.nodes.length+1→qc s'→Nxt s s' (Jz x R ι ν κ φ) (Jz x R' ι' ν' κ' φ)→kr (.raw (.bool true)) s'=true:=by
   intro s' R' ι' ν' κ' p1
   refine hk s' R' ι' ν' κ' ?_
   cases hko:ZI ud nm with
   | none=>exact p1
   | some o =>
    have hol:=(T.inc u ud hu o (List.mem_of_getElem? (Je hko))).2
    have ho:R.nodes[o]?=some R.nodes[o]:=List.getElem?_eq_getElem hol
    simp only[ho,k1,cond_false]
    exact p1
  cases k5:e.2.1==5 with
  | true =>
   have hn:qfw e=Yf 1 e.2.2.1 []:=by unfold qfw;rw[k1,k5];rfl
   repeat (first|with_reducible (refine q9 H ?_;constructor)|simp only[rB,rP,rQ,q8,qa,q7,qb,reduceIte,reduceCtorEq,Nat.reduceAdd,Nat.reduceLT,Nat.reduceEqDiff,UInt8.reduceToNat,pe3,pf3,c3,qg,qh,qi,qj,qD,qK,zm,zR,Qo,Qm,ze,zo,zM,zP,qr,k4,k1,k5,qwe,qf])
   refine key hn rfl (fun s' R' ι' ν' κ' p1 p2 p3 p4 p5 p6=>?_)
   repeat (first|with_reducible (refine q9 H ?_;constructor)|simp only[rB,rP,rQ,q8,qa,q7,qb,reduceIte,reduceCtorEq,Nat.reduceAdd,Nat.reduceLT,Nat.reduceEqDiff,UInt8.reduceToNat,pe3,pf3,Tryz.results80])
   exact hk2 s' R' ι' ν' κ' p1 p2 p3 p4 p5 p6
  | false =>
   have hn:qfw e=Yf e.2.1 e.2.2.1 e.2.2.2:=by unfold qfw;rw[k1,k5];rfl
   repeat (first|with_reducible (refine q9 H ?_;constructor)|simp only[rB,rP,rQ,q8,qa,q7,qb,reduceIte,reduceCtorEq,Nat.reduceAdd,Nat.reduceLT,Nat.reduceEqDiff,UInt8.reduceToNat,pe3,pf3,c3,qg,qh,qi,qj,qD,qK,zm,zR,Qo,Qm,ze,zo,zM,zP,qr,k4,k1,k5,q19,qf])
   refine key hn rfl (fun s' R' ι' ν' κ' p1 p2 p3 p4 p5 p6=>?_)
   repeat (first|with_reducible (refine q9 H ?_;constructor)|simp only[rB,rP,rQ,q8,qa,q7,qb,reduceIte,reduceCtorEq,Nat.reduceAdd,Nat.reduceLT,Nat.reduceEqDiff,UInt8.reduceToNat,pe3,pf3,Tryz.results80])
   exact hk2 s' R' ι' ν' κ' p1 p2 p3 p4 p5 p6
def qr3 (R:RM):List En→Option RM
 | []=>some R
 | e::l=>match qng R e with
  | none=>none
  | some R'=>qr3 R' l
def qfq (R:RM):Option (List En):=bif decide (((YS R R.nodes.length 0).length:Int) > 128) then none else some (qf4 R R.nodes.length 0 [])
def q4w (e:En):Prop:=e.1≠[]∧Q4 e.1=true∧e.2.2.2.length≤1024
theorem qqk {e:En} {pre:List En} (h:qd3 e pre=0):q4w e:=by
 unfold qd3 at h
 cases h1:qdg e.2.1 with
 | true=>rw[h1] at h;cases h
 | false =>
 rw[h1,cond_false] at h
 cases h2:eqB e.1 [] with
 | true=>rw[h2] at h;cases h
 | false =>
 rw[h2,cond_false] at h
 cases h3:Q4 e.1 with
 | false=>rw[h3] at h;cases h
 | true =>
 rw[h3,cond_true] at h
 cases h4:qav e pre != 0 with
 | true =>
  rw[h4,cond_true] at h
  rw[h] at h4
  cases h4
 | false =>
 rw[h4,cond_false] at h
 cases h5:Jd e with
 | false=>rw[h5] at h;cases h
 | true =>
 rw[h5,cond_true] at h
 cases h6:Yh e.2.1 (e.2.2.2.length:Int) with
 | false=>rw[h6] at h;cases h
 | true =>
 refine⟨eqB_ne.1 h2,h3,?_⟩
 unfold Yh at h6
 cases k2:e.2.1==2 with
 | true =>
  rw[k2,cond_true] at h6
  have:=of_decide_eq_true h6
  omega
 | false =>
  rw[k2,cond_false] at h6
  cases k3:e.2.1==3 with
  | true =>
   rw[k3,cond_true] at h6
   cases k7:decide ((e.2.2.2.length:Int) ≥ 1) with
   | false=>rw[k7] at h6;cases h6
   | true =>
    rw[k7,cond_true] at h6
    have:=of_decide_eq_true h6
    omega
  | false =>
   rw[k3,cond_false] at h6
   have:(e.2.2.2.length:Int)=0:=by simpa using h6
   omega
theorem qnm {es:List En}:∀ {k:Nat} {l:List En},(Kc es k l).2=0→∀ e∈l,q4w e
 | _,[],_,e,he=>by cases he
 | k,a::l,h,e,he=>by
  simp only[Kc] at h
  cases hf:qd3 a (es.take k) != 0 with
  | true =>
   rw[hf,cond_true] at h
   simp only at h
   rw[h] at hf
   cases hf
  | false =>
   rw[hf,cond_false] at h
   rcases List.mem_cons.1 he with rfl|he
   ·exact qqk (by simpa using hf)
   ·exact qnm h e he
theorem qu9 {es:List En} (h:(qbv es).2=0):es.length≤256∧∀ e∈es,q4w e:=by
 unfold qbv at h
 cases hl:decide ((es.length:Int) > 256) with
 | true=>rw[hl] at h;cases h
 | false =>
  rw[hl,cond_false] at h
  have:=of_decide_eq_false hl
  exact⟨by omega,qnm h⟩
theorem qms {R:RM} (T:TrR R):∀ {f k:Nat} {p:List Nat},p.length≤17 * k→∀ e∈qf4 R f k p,e.2.2.2.length≤1024∧e.1.length≤17 * R.nodes.length
 | 0,_,_,_,e,he=>by cases he
 | f+1,k,p,hp,e,he=>by
  simp only[qf4] at he
  cases hk:R.nodes[k]? with
  | none=>rw[hk] at he;cases he
  | some nd =>
   rw[hk] at he
   simp only at he
   obtain⟨q1,q2,q3⟩:=T.nml k nd hk
   have go:∀ {js:List Nat} {ns:List (List Nat)},(∀ j∈js,k < j∧j < R.nodes.length)→(∀ nm∈ns,nm.length≤16)→e∈W4 R (qf4 R f) p ns js→e.2.2.2.length≤1024∧e.1.length≤17 * R.nodes.length:=by
    intro js
    induction js with
    | nil =>
     intro ns _ _ h
     cases ns <;> cases h
    | cons j js ih =>
     intro ns hb hn h
     cases ns with
     | nil=>cases h
     | cons nm ns =>
      have hj:=hb j (by simp)
      have hnm:=hn nm (by simp)
      have hjd:R.nodes[j]?=some R.nodes[j]:=List.getElem?_eq_getElem hj.2
      have jl:=qen (a:=p) (b:=nm)
      simp only[W4,hjd] at h
      rcases List.mem_append.1 h with h|h
      ·rcases List.mem_cons.1 h with rfl|h
       ·exact⟨T.dat j _ hjd,by show (YP p nm).length≤_;omega⟩
       ·exact qms T (by omega) e h
      ·exact ih (fun q hq=>hb q (List.mem_cons_of_mem _ hq)) (fun q hq=>hn q (List.mem_cons_of_mem _ hq)) h
   exact go (T.inc k nd hk) q3 he
theorem qpe {s0 s:St} (H:Ok TE Tryz.prog pr3) (hB0:qc s0) (hE0:Ext s0 s) {V:AV} {es:List En} (hV:EsV s0 V es) (h1:V.cells=[V]) (h2:V.one=true) (hl:es.length≤256) (hfit:∀ e∈es,q4w e) {x:Nat} {R:RM} {ι:Nat→Nat} {ν κ:Nat→AV} {φ:AV} (Rp:RepR s x R ι ν κ φ) (hB:qc s) (T:TrR R) (hN:R.nodes.length≤400) (hown:∀ i,Jz x R ι ν κ φ i→s0.nx≤i)
  {kr kp:AV→St→Bool} (hk:∀ s' V' R' E,qr3 R es=some R'→qfq R'=some E→TrR R'→R'.nodes.length≤700→Ext s0 s'→qc s'→ErB s0.nx s' V' E→kr (.tuple [V',.raw (.bool true)]) s'=true)
  (hf:∀ s',(qr3 R es).bind qfq=none→Ext s0 s'→qc s'→kr (.tuple [nilS,.raw (.bool false)]) s'=true) :
  (sem Tryz.prog).call 41 [.ptr x 0,.agg [V]] s kr kp=true:=by
 refine qp H 30 q55 rfl rfl ?_
 have hB1:qc (s.alloc (.cells [V] 49 0)):=qx hB _
 have hE1:Ext s (s.alloc (.cells [V] 49 0)):=Ext.alloc s _
 have c1:(s.alloc (.cells [V] 49 0)).h.get s.nx=some (.cells [V] 49 0):=qu
 have q1:s.nx < (s.alloc (.cells [V] 49 0)).nx:=Nat.lt_succ_self _
 have vl:=hV.len
 have vi:=hV.ids
 repeat (first|with_reducible (refine q9 H ?_;constructor)|simp only[rB,rP,rQ,q8,qa,q7,qb,reduceIte,reduceCtorEq,Nat.reduceAdd,Nat.reduceLT,Nat.reduceEqDiff,UInt8.reduceToNat,pe3,pf3,qf])
 generalize s.alloc (.cells [V] 49 0)=s1 at *
 have Rp1:=Rp.ext hB hE1
 have hnq:¬ Jz x R ι ν κ φ s.nx:=fun h=>by have:=Rp.own_lt hB h;omega
 refine qB H (fun n t s'=>∃ (k:Nat) (R2:RM) (ι2:Nat→Nat) (ν2 κ2:Nat→AV),n+k=es.length∧tg t 0=.ptr x 0∧tg t 3=.ptr s.nx 0∧tg t 6=.raw (.int .i64 (k:Int))∧RepR s' x R2 ι2 ν2 κ2 φ∧TrR R2∧R2.nodes.length≤R.nodes.length+k∧qc s'∧Nxt s1 s' (Jz x R ι ν κ φ) (Jz x R2 ι2 ν2 κ2 φ)∧qr3 R es=qr3 R2 (es.drop k)) (n:=es.length)
  ⟨0,R,ι,ν,κ,rfl,by simp only[rB,rP,rQ,q8,qa,q7,qb,reduceIte,reduceCtorEq,Nat.reduceAdd,Nat.reduceLT,Nat.reduceEqDiff,UInt8.reduceToNat],by simp only[rB,rP,rQ,q8,qa,q7,qb,reduceIte,reduceCtorEq,Nat.reduceAdd,Nat.reduceLT,Nat.reduceEqDiff,UInt8.reduceToNat],by simp only[rB,rP,rQ,q8,qa,q7,qb,reduceIte,reduceCtorEq,Nat.reduceAdd,Nat.reduceLT,Nat.reduceEqDiff,UInt8.reduceToNat];rfl,Rp1,T,by omega,hB1,Nxt.refl,rfl⟩ ?_
 rintro n t s' ih ⟨k,R2,ι2,ν2,κ2,hn,t0,t3,t6,Rp2,T2,hN2,hB2,N2,hm⟩
 have hE02:Ext s0 s':=⟨by have:=hE0.1;have:=hE1.1;have:=N2.nx;omega,fun i hi=>(N2.fr i (by have:=hE0.1;have:=hE1.1;omega) (fun ho=>by have:=hown i ho;omega)).trans ((hE0.trans hE1).2 i hi)⟩
 have hc2:s'.h.get s.nx=some (.cells [V] 49 0):=(N2.fr _ q1 hnq).trans c1
 cases n with
 | zero =>
  have g0:=QO (a:=k) (b:=es.length) (by omega)
  rw[List.drop_eq_nil_of_le (by omega)] at hm
  simp only[qr3] at hm
  rw[hm] at hf
  have hx2:=Rp2.tr
  repeat (first|with_reducible (refine q9 H ?_;constructor)|simp only[rB,rP,rQ,q8,qa,q7,qb,reduceIte,reduceCtorEq,Nat.reduceAdd,Nat.reduceLT,Nat.reduceEqDiff,UInt8.reduceToNat,pe3,pf3,t0,t3,t6,hc2,YM,VO,vl,vi,zJ,g0,qV,qxx,qjq,hx2,q7u,q41])
  refine qja H T2 (f:=R2.nodes.length) Rp2 T2.pos (by omega) ?_
  cases hg:decide (((YS R2 R2.nodes.length 0).length:Int) > 128) with
  | true =>
   repeat (first|with_reducible (refine q9 H ?_;constructor)|simp only[rB,rP,rQ,q8,qa,q7,qb,reduceIte,reduceCtorEq,Nat.reduceAdd,Nat.reduceLT,Nat.reduceEqDiff,UInt8.reduceToNat,pe3,pf3,t0,t3,t6,zD,hg,Tryz.results41])
   exact hf s' (by simp only[Option.bind_some,qfq,hg,cond_true]) hE02 hB2
  | false =>
   repeat (first|with_reducible (refine q9 H ?_;constructor)|simp only[rB,rP,rQ,q8,qa,q7,qb,reduceIte,reduceCtorEq,Nat.reduceAdd,Nat.reduceLT,Nat.reduceEqDiff,UInt8.reduceToNat,pe3,pf3,t0,t3,t6,zD,hg])
   refine qk4 H hB2 T2 (by omega) Rp2 (fun s3 V3 hF3 hB3 hV3=>?_)
   have hl3:s0.nx≤s'.nx:=hE02.1
   repeat (first|with_reducible (refine q9 H ?_;constructor)|simp only[rB,rP,rQ,q8,qa,q7,qb,reduceIte,reduceCtorEq,Nat.reduceAdd,Nat.reduceLT,Nat.reduceEqDiff,UInt8.reduceToNat,pe3,pf3,Tryz.results41])
   refine hk s3 V3 R2 _ hm (by unfold qfq;rw[hg];rfl) T2 (by omega) ⟨by have:=hF3.1;omega,fun i hi=>(hF3.2.2 i (by omega)).trans (hE02.2 i hi)⟩ hB3 ?_
   rcases hV3 with h|⟨id,w1,w2,w3⟩
   ·exact Or.inl h
   ·exact Or.inr ⟨id,by omega,w2,w3⟩
 | succ n =>
  have hlt:k < es.length:=by omega
  have g0:=Yd hlt
  have hke:es[k]?=some es[k]:=List.getElem?_eq_getElem hlt
  have hmem:es[k]∈es:=List.getElem_mem hlt
  rw[List.drop_eq_getElem_cons hlt] at hm
  generalize es[k]=e at hke hmem hm
  simp only[qr3] at hm
  obtain⟨f1,f2,f3⟩:=hfit e hmem
  obtain⟨id,o,ob,y1,y2,y3,y4,_,_,_,_,yb⟩:=(hV.ext hB0 hE02).fld hke
  have y5:=y3 s' y2
  have ew:=zL (k:=k) (by omega)
  repeat (first|with_reducible (refine q9 H ?_;constructor)|simp only[rB,rP,rQ,q8,qa,q7,qb,reduceIte,reduceCtorEq,Nat.reduceAdd,Nat.reduceLT,Nat.reduceEqDiff,UInt8.reduceToNat,pe3,pf3,t0,t3,t6,hc2,YM,VO,vl,vi,zJ,g0,y1,y2,y4,y5])
  refine qum H Rp2 hB2 T2 (by omega) f1 f2 f3 (fun s3 R3 ι3 ν3 κ3 p1 p2 p3 p4 p5 p6=>?_) (fun s3 p1 p2 p3=>?_)
  ·rw[p1] at hm
   repeat (first|with_reducible (refine q9 H ?_;constructor)|simp only[rB,rP,rQ,q8,qa,q7,qb,reduceIte,reduceCtorEq,Nat.reduceAdd,Nat.reduceLT,Nat.reduceEqDiff,UInt8.reduceToNat,pe3,pf3,t0,t3,t6,Bool.not_true,qI,ew])
   exact ih n _ _ (Nat.lt_succ_self n) ⟨k+1,R3,ι3,ν3,κ3,by omega,by simp only[rB,rP,rQ,q8,qa,q7,qb,reduceIte,reduceCtorEq,Nat.reduceAdd,Nat.reduceLT,Nat.reduceEqDiff,UInt8.reduceToNat,t0],by simp only[rB,rP,rQ,q8,qa,q7,qb,reduceIte,reduceCtorEq,Nat.reduceAdd,Nat.reduceLT,Nat.reduceEqDiff,UInt8.reduceToNat,t3],by simp only[rB,rP,rQ,q8,qa,q7,qb,reduceIte,reduceCtorEq,Nat.reduceAdd,Nat.reduceLT,Nat.reduceEqDiff,UInt8.reduceToNat],p2,p3,by omega,p5,N2.trans p6,hm⟩
  ·rw[p1] at hm
   simp only at hm
   repeat (first|with_reducible (refine q9 H ?_;constructor)|simp only[rB,rP,rQ,q8,qa,q7,qb,reduceIte,reduceCtorEq,Nat.reduceAdd,Nat.reduceLT,Nat.reduceEqDiff,UInt8.reduceToNat,pe3,pf3,t0,t3,t6,Bool.not_false,Tryz.results41])
   exact hf s3 (by rw[hm];rfl) (hE02.trans p2) p3
def q3t (E:List En):Prop:=E.length≤128∧∀ e∈E,e.2.2.2.length≤1024∧e.1.length≤12000
def q74 (lower es E:List En):Prop:=∃ M1 K pv R0 R',ofT lower=some { M1 with many:=(lower.length:Int) }∧SimR lower M1 K pv R0∧(qbv es).2=0∧qr3 R0 es=some R'∧qfq R'=some E
def q83 (lower es:List En):Prop:=ofT lower=none∨(qbv es).2≠0∨∃ M1 K pv R0,ofT lower=some { M1 with many:=(lower.length:Int) }∧SimR lower M1 K pv R0∧(qr3 R0 es).bind qfq=none
theorem qr2 {R:RM} (T:TrR R) (hN:R.nodes.length≤700) {E:List En} (h:qfq R=some E):q3t E:=by
 unfold qfq at h
 cases hg:decide (((YS R R.nodes.length 0).length:Int) > 128) with
 | true=>rw[hg] at h;cases h
 | false =>
  rw[hg] at h
  simp only[cond_false,Option.some.injEq] at h
  subst h
  have hg:=of_decide_eq_false hg
  refine⟨by rw[qb3 T];omega,fun e he=>?_⟩
  have:=qms T (by simp) e he
  exact⟨this.1,by omega⟩
theorem qzn {es:List En} {M:Md} (h:ofT es=some M):es.length≤128:=by
 unfold ofT at h
 by_cases hl:es.length > 128
 ·have g0:decide ((es.length:Int) > 128)=true:=by rw[decide_eq_true_eq];omega
  rw[g0] at h
  cases h
 ·omega
theorem qoc {s:St} (H:Ok TE Tryz.prog pr3) (hB:qc s) {U V:AV} {lower es:List En} (hU:EsV s U lower) (hpU:∀ e∈lower,e.1.length≤1048575) (hnU:lower.length < 1000000000) (hV:EsV s V es) (hc:qp4 V) (hp:∀ e∈es,e.1.length≤1048575) (h1:V.cells=[V]) (h2:V.one=true)
  {kr kp:AV→St→Bool} (hk:∀ s' V' E,q74 lower es E→q3t E→Ext s s'→qc s'→ErB s.nx s' V' E→kr (.tuple [V',.raw (.bool true)]) s'=true)
  (hf:∀ s',q83 lower es→Ext s s'→qc s'→kr (.tuple [nilS,.raw (.bool false)]) s'=true) :
  (sem Tryz.prog).call 13 [U,.agg [V]] s kr kp=true:=by
 refine qp H 31 q8d rfl rfl ?_
 have hB1:qc (s.alloc (.cells [V] 49 0)):=qx hB _
 have hE1:Ext s (s.alloc (.cells [V] 49 0)):=Ext.alloc s _
 have c1:(s.alloc (.cells [V] 49 0)).h.get s.nx=some (.cells [V] 49 0):=qu
 repeat (first|with_reducible (refine q9 H ?_;constructor)|simp only[rB,rP,rQ,q8,qa,q7,qb,reduceIte,reduceCtorEq,Nat.reduceAdd,Nat.reduceLT,Nat.reduceEqDiff,UInt8.reduceToNat,pe3,pf3,qf])
 generalize s.alloc (.cells [V] 49 0)=s1 at *
 have hU1:=hU.ext hB hE1
 have hV1:=hV.ext hB hE1
 refine qxi H hB1 hU1 hpU hnU (fun s2 M1 K pv R x ι ν κ φ a1 a2 a3 a4 a5 a6=>?_) (fun s2 a1 a2 a3=>?_)
 ·have hV2:=hV1.ext hB1 a5
  have c2:=(a5.2 _ (hB1 _ _ c1)).trans c1
  repeat (first|with_reducible (refine q9 H ?_;constructor)|simp only[rB,rP,rQ,q8,qa,q7,qb,reduceIte,reduceCtorEq,Nat.reduceAdd,Nat.reduceLT,Nat.reduceEqDiff,UInt8.reduceToNat,pe3,pf3,c2,qmt,Xk])
  refine qdo H a6 hV2 hc hp h1 h2 (fun s3 hE3 hB3=>?_)
  cases hfo:(qbv es).2 != 0 with
  | true =>
   repeat (first|with_reducible (refine q9 H ?_;constructor)|simp only[rB,rP,rQ,q8,qa,q7,qb,reduceIte,reduceCtorEq,Nat.reduceAdd,Nat.reduceLT,Nat.reduceEqDiff,UInt8.reduceToNat,pe3,pf3,Bool.not_true,qH,hfo,Tryz.results13])
   exact hf s3 (Or.inr (Or.inl (by simpa using hfo))) ((hE1.trans a5).trans hE3) hB3
  | false =>
   have hf0:(qbv es).2=0:=by simpa using hfo
   obtain⟨o1,o2⟩:=qu9 hf0
   have c3:=(hE3.2 _ (a6 _ _ c2)).trans c2
   repeat (first|with_reducible (refine q9 H ?_;constructor)|simp only[rB,rP,rQ,q8,qa,q7,qb,reduceIte,reduceCtorEq,Nat.reduceAdd,Nat.reduceLT,Nat.reduceEqDiff,UInt8.reduceToNat,pe3,pf3,Bool.not_true,qH,hfo,c3,qmt,Xk])
   have hle:=qzn a1
   have hNR:R.nodes.length≤400:=by
    have:=a2.nxt
    have:=a2.tr.nxt
    omega
   refine qpe H hB1 (a5.trans hE3) hV1 h1 h2 o1 o2 (a3.ext a6 hE3) hB3 a2.tr hNR a4 (fun s' V' R' E b1 b2 b3 b4 b5 b6 b7=>?_) (fun s' b1 b2 b3=>?_)
   ·repeat (first|with_reducible (refine q9 H ?_;constructor)|simp only[rB,rP,rQ,q8,qa,q7,qb,reduceIte,reduceCtorEq,Nat.reduceAdd,Nat.reduceLT,Nat.reduceEqDiff,UInt8.reduceToNat,pe3,pf3,Tryz.results13])
    refine hk s' V' E ⟨M1,K,pv,R,R',a1,a2,hf0,b1,b2⟩ (qr2 b3 b4 b2) (hE1.trans b5) b6 ?_
    rcases b7 with h|⟨id,w1,w2,w3⟩
    ·exact Or.inl h
    ·exact Or.inr ⟨id,Nat.le_trans hE1.1 w1,w2,w3⟩
   ·repeat (first|with_reducible (refine q9 H ?_;constructor)|simp only[rB,rP,rQ,q8,qa,q7,qb,reduceIte,reduceCtorEq,Nat.reduceAdd,Nat.reduceLT,Nat.reduceEqDiff,UInt8.reduceToNat,pe3,pf3,Tryz.results13])
    exact hf s' (Or.inr (Or.inr ⟨M1,K,pv,R,a1,a2,b1⟩)) (hE1.trans b2) b3
 ·have hV2:=hV1.ext hB1 a2
  have c2:=(a2.2 _ (hB1 _ _ c1)).trans c1
  repeat (first|with_reducible (refine q9 H ?_;constructor)|simp only[rB,rP,rQ,q8,qa,q7,qb,reduceIte,reduceCtorEq,Nat.reduceAdd,Nat.reduceLT,Nat.reduceEqDiff,UInt8.reduceToNat,pe3,pf3,c2,qmt,Xk])
  refine qdo H a3 hV2 hc hp h1 h2 (fun s3 hE3 hB3=>?_)
  repeat (first|with_reducible (refine q9 H ?_;constructor)|simp only[rB,rP,rQ,q8,qa,q7,qb,reduceIte,reduceCtorEq,Nat.reduceAdd,Nat.reduceLT,Nat.reduceEqDiff,UInt8.reduceToNat,pe3,pf3,Bool.not_false,Tryz.results13])
  exact hf s3 (Or.inl a1) ((hE1.trans a2).trans hE3) hB3
def q4v:List En→List (List En)→List En→Prop
 | cur,[],E=>E=cur
 | cur,l::im,E=>∃ E1,q74 cur l E1∧q4v E1 im E
def q40:List En→List (List En)→Prop
 | _,[]=>False
 | cur,l::im=>q83 cur l∨∃ E1,q74 cur l E1∧q40 E1 im
def qtt (im:List (List En)) (E:List En):Prop:=im.length≤12∧q4v [] im E
def q2u (im:List (List En)):Prop:=12 < im.length∨q40 [] im
theorem qmh {s:St} (H:Ok TE Tryz.prog pr3) (hB:qc s) {V:AV} {im:List (List En)} (hI:LsV s V im) (hp:∀ es∈im,∀ e∈es,e.1.length≤1048575) {kr kp:AV→St→Bool}
  (hk:∀ s' W out,qtt im out→q3t out→Ext s s'→qc s'→ErB s.nx s' W out→kr (.tuple [W,.raw (.bool true)]) s'=true)
  (hf:∀ s',q2u im→Ext s s'→qc s'→kr (.tuple [nilS,.raw (.bool false)]) s'=true) :
  (sem Tryz.prog).call 22 [.agg [V]] s kr kp=true:=by
 refine qp H 33 q6e rfl rfl ?_
 have hB1:qc (s.alloc (.cells [V] 24 0)):=qx hB _
 have hE1:Ext s (s.alloc (.cells [V] 24 0)):=Ext.alloc s _
 have c1:(s.alloc (.cells [V] 24 0)).h.get s.nx=some (.cells [V] 24 0):=qu
 have q1:s.nx < (s.alloc (.cells [V] 24 0)).nx:=Nat.lt_succ_self _
 have vl:=hI.len
 have vi:=hI.ids
 repeat (first|with_reducible (refine q9 H ?_;constructor)|simp only[rB,rP,rQ,q8,qa,q7,qb,reduceIte,reduceCtorEq,Nat.reduceAdd,Nat.reduceLT,Nat.reduceEqDiff,UInt8.reduceToNat,pe3,pf3,qf])
 generalize s.alloc (.cells [V] 24 0)=s1 at *
 cases hl:decide ((im.length:Int) > 12) with
 | true =>
  repeat (first|with_reducible (refine q9 H ?_;constructor)|simp only[rB,rP,rQ,q8,qa,q7,qb,reduceIte,reduceCtorEq,Nat.reduceAdd,Nat.reduceLT,Nat.reduceEqDiff,UInt8.reduceToNat,pe3,pf3,c1,WG,qjs,vl,vi,zD,hl,Tryz.results22])
  exact hf s1 (Or.inl (by have:=of_decide_eq_true hl;omega)) hE1 hB1
 | false =>
 have hl2:=of_decide_eq_false hl
 repeat (first|with_reducible (refine q9 H ?_;constructor)|simp only[rB,rP,rQ,q8,qa,q7,qb,reduceIte,reduceCtorEq,Nat.reduceAdd,Nat.reduceLT,Nat.reduceEqDiff,UInt8.reduceToNat,pe3,pf3,c1,WG,qjs,vl,vi,zD,hl])
 refine qB H (fun n t s'=>∃ (k:Nat) (W:AV) (cur:List En),n+k=im.length∧tg t 1=.ptr s.nx 0∧tg t 4=W∧tg t 5=.raw (.int .i64 (k:Int))∧Ext s1 s'∧qc s'∧ErB s.nx s' W cur∧q3t cur∧(∀ E,q4v cur (im.drop k) E→q4v [] im E)∧(q40 cur (im.drop k)→q40 [] im)) (n:=im.length)
  ⟨0,_,[],rfl,by simp only[rB,rP,rQ,q8,qa,q7,qb,reduceIte,reduceCtorEq,Nat.reduceAdd,Nat.reduceLT,Nat.reduceEqDiff,UInt8.reduceToNat],by simp only[rB,rP,rQ,q8,qa,q7,qb,reduceIte,reduceCtorEq,Nat.reduceAdd,Nat.reduceLT,Nat.reduceEqDiff,UInt8.reduceToNat];rfl,by simp only[rB,rP,rQ,q8,qa,q7,qb,reduceIte,reduceCtorEq,Nat.reduceAdd,Nat.reduceLT,Nat.reduceEqDiff,UInt8.reduceToNat];rfl,⟨Nat.le_refl _,fun _ _=>rfl⟩,hB1,Or.inl ⟨rfl,rfl⟩,⟨Nat.zero_le _,fun _ h=>by cases h⟩,fun E h=>h,fun h=>h⟩ ?_
 rintro n t s' ih ⟨k,W,cur,hnk,t1,t4,t5,hE,hB',hW,hfd,hmS,hmN⟩
 have c2:=(hE.2 _ q1).trans c1
 have hEs:=hE1.trans hE
 have hWi:QG W=[]:=by
  rcases hW with⟨rfl,_⟩|⟨id,_,rfl,_⟩ <;> rfl
 cases n with
 | zero =>
  have g0:=QO (a:=k) (b:=im.length) (by omega)
  rw[List.drop_eq_nil_of_le (by omega)] at hmS
  repeat (first|with_reducible (refine q9 H ?_;constructor)|simp only[rB,rP,rQ,q8,qa,q7,qb,reduceIte,reduceCtorEq,Nat.reduceAdd,Nat.reduceLT,Nat.reduceEqDiff,UInt8.reduceToNat,pe3,pf3,t1,t4,t5,c2,WG,qjs,vl,vi,zJ,g0,Tryz.results22])
  exact hk s' W cur ⟨by omega,hmS cur rfl⟩ hfd hEs hB' hW
 | succ n =>
  have hlt:k < im.length:=by omega
  have g0:=Yd hlt
  have hke:im[k]?=some im[k]:=List.getElem?_eq_getElem hlt
  have hmem:im[k]∈im:=List.getElem_mem hlt
  rw[List.drop_eq_getElem_cons hlt] at hmS hmN
  generalize im[k]=es at hke hmem hmS hmN
  obtain⟨id,o,X,y1,y2,y4,x1,x2,x3,x4⟩:=(hI.ext hB hEs).idx hke
  have ew:=zL (k:=k) (by omega)
  repeat (first|with_reducible (refine q9 H ?_;constructor)|simp only[rB,rP,rQ,q8,qa,q7,qb,reduceIte,reduceCtorEq,Nat.reduceAdd,Nat.reduceLT,Nat.reduceEqDiff,UInt8.reduceToNat,pe3,pf3,t1,t4,t5,c2,WG,qjs,vl,vi,zJ,g0,y1,y2,y4])
  refine qoc H hB' hW.esvM (fun e he=>by have:=(hfd.2 e he).2;omega) (by have:=hfd.1;omega) x1 x2 (hp es hmem) x3 x4 (fun s4 W' out a1 a2 a3 a4 a5=>?_) (fun s4 a1 a2 a3=>?_)
  ·repeat (first|with_reducible (refine q9 H ?_;constructor)|simp only[rB,rP,rQ,q8,qa,q7,qb,reduceIte,reduceCtorEq,Nat.reduceAdd,Nat.reduceLT,Nat.reduceEqDiff,UInt8.reduceToNat,pe3,pf3,t1,t4,t5,Bool.not_true,qI,ew])
   refine ih n _ _ (Nat.lt_succ_self n) ⟨k+1,W',out,by omega,by simp only[rB,rP,rQ,q8,qa,q7,qb,reduceIte,reduceCtorEq,Nat.reduceAdd,Nat.reduceLT,Nat.reduceEqDiff,UInt8.reduceToNat,t1],by simp only[rB,rP,rQ,q8,qa,q7,qb,reduceIte,reduceCtorEq,Nat.reduceAdd,Nat.reduceLT,Nat.reduceEqDiff,UInt8.reduceToNat],by simp only[rB,rP,rQ,q8,qa,q7,qb,reduceIte,reduceCtorEq,Nat.reduceAdd,Nat.reduceLT,Nat.reduceEqDiff,UInt8.reduceToNat],hE.trans a3,a4,?_,a2,fun E h=>hmS E ⟨out,a1,h⟩,fun h=>hmN (Or.inr ⟨out,a1,h⟩)⟩
   rcases a5 with h|⟨id,w1,w2,w3⟩
   ·exact Or.inl h
   ·exact Or.inr ⟨id,Nat.le_trans hEs.1 w1,w2,w3⟩
  ·repeat (first|with_reducible (refine q9 H ?_;constructor)|simp only[rB,rP,rQ,q8,qa,q7,qb,reduceIte,reduceCtorEq,Nat.reduceAdd,Nat.reduceLT,Nat.reduceEqDiff,UInt8.reduceToNat,pe3,pf3,t1,t4,t5,Bool.not_false,Tryz.results22])
   exact hf s4 (Or.inr (hmN (Or.inl a1))) (hEs.trans a2) a3
theorem qh7 {s:St} (H:Ok TE Tryz.prog pr3) {z:Int} {kr kp:AV→St→Bool} (hk:kr (.raw (.int .i64 z)) s=true):(sem Tryz.prog).call 23 [.raw (.int .i64 z)] s kr kp=true:=by
 refine qp H 4 q71 rfl rfl ?_
 repeat (first|with_reducible (refine q9 H ?_;constructor)|simp only[rB,rP,rQ,q8,qa,q7,qb,reduceIte,reduceCtorEq,Nat.reduceAdd,Nat.reduceLT,Nat.reduceEqDiff,UInt8.reduceToNat,pe3,pf3,Tryz.results23])
 exact hk
theorem qtz {i j:Nat} {s:St} {d:Option (AV × List Nat)}:eqS TE s .neq 27 (.ptr i j) (.raw (.pointer none)) d=some (.raw (.bool true),[]):=by kernel_rfl
theorem qxk {s:St} (H:Ok TE Tryz.prog pr3) (hB:qc s) {V:AV} {im:List (List En)} (hI:LsV s V im) (hp:∀ es∈im,∀ e∈es,e.1.length≤1048575) {kr kp:AV→St→Bool}
  (hk:∀ s' u x M W1 W out es T,qtt im es→YV im=some out→ofT out=some M→q3t es→Ext s s'→World s' x M ((u,.cells [.ptr x 0,W1] 74 0)::qlh W es)→ErB 0 s' W es→kr (.tuple [.ptr u 0,T,W,.raw (.bool true)]) s'=true)
  (hf:∀ s' U T W,Ext s s'→kr (.tuple [U,T,W,.raw (.bool false)]) s'=true) :
  (sem Tryz.prog).call 9 [.agg [V]] s kr kp=true:=by
 refine qp H 39 fn_9 rfl rfl ?_
 have hB1:qc (s.alloc (.cells [V] 24 0)):=qx hB _
 have hE1:Ext s (s.alloc (.cells [V] 24 0)):=Ext.alloc s _
 have c1:(s.alloc (.cells [V] 24 0)).h.get s.nx=some (.cells [V] 24 0):=qu
 have hI1:=hI.ext hB hE1
 repeat (first|with_reducible (refine q9 H ?_;constructor)|simp only[rB,rP,rQ,q8,qa,q7,qb,reduceIte,reduceCtorEq,Nat.reduceAdd,Nat.reduceLT,Nat.reduceEqDiff,UInt8.reduceToNat,pe3,pf3,qf])
 generalize s.alloc (.cells [V] 24 0)=s1 at *
 repeat (first|with_reducible (refine q9 H ?_;constructor)|simp only[rB,rP,rQ,q8,qa,q7,qb,reduceIte,reduceCtorEq,Nat.reduceAdd,Nat.reduceLT,Nat.reduceEqDiff,UInt8.reduceToNat,pe3,pf3,c1,qp5,Xk])
 refine qmh H hB1 hI1 hp (fun s2 W es a1 a2 a3 a4 a5=>?_) (fun s2 a1 a2 a3=>?_)
 ·have c2:=(a3.2 _ (hB1 _ _ c1)).trans c1
  have hE2:=hE1.trans a3
  have hI2:=hI1.ext hB1 a3
  repeat (first|with_reducible (refine q9 H ?_;constructor)|simp only[rB,rP,rQ,q8,qa,q7,qb,reduceIte,reduceCtorEq,Nat.reduceAdd,Nat.reduceLT,Nat.reduceEqDiff,UInt8.reduceToNat,pe3,pf3,Bool.not_true,c2,qp5,Xk])
  refine qwf H a4 hI2 hp ?_ ?_
  ·intro s3 u x M W1 out b1 b2 b3 b4 b5 b6 b7
   have hB3:=b6.1
   have hW3:EsV s3 W es:=a5.esvM.ext a4 b3
   have hE3:=hE2.trans b3
   have eq1:((0:Int)==0)=true:=rfl
   have fin:∀ s4,Ext s3 s4→qc s4→World s4 x M ((u,.cells [.ptr x 0,W1] 74 0)::qlh W es)∧ErB 0 s4 W es:=by
    intro s4 hE4 hB4
    have hEE:=b3.trans hE4
    have w1:=b6.ext hE4 hB4
    rcases a5 with⟨rfl,rfl⟩|⟨id,v1,rfl,v2⟩
    ·exact⟨w1.sub (fun q hq=>by
      simp only[nilS,qlh,List.mem_cons,List.not_mem_nil,or_false] at hq
      subst hq
      exact List.mem_cons_self ..),Or.inl ⟨rfl,rfl⟩⟩
    ·have v3:=(hEE.2 _ (a4 _ _ v2)).trans v2
     refine⟨(World.withU w1 v3 rfl).sub (fun q hq=>?_),Or.inr ⟨id,Nat.zero_le _,rfl,v3⟩⟩
     simp only[qlh,List.mem_cons,List.not_mem_nil,or_false] at hq ⊢
     rcases hq with rfl|rfl
     ·exact Or.inr (Or.inl rfl)
     ·exact Or.inl rfl
   repeat (first|with_reducible (refine q9 H ?_;constructor)|simp only[rB,rP,rQ,q8,qa,q7,qb,reduceIte,reduceCtorEq,Nat.reduceAdd,Nat.reduceLT,Nat.reduceEqDiff,UInt8.reduceToNat,pe3,pf3])
   refine qxi H hB3 hW3 (fun e he=>by have:=(a2.2 e he).2;omega) (by have:=a2.1;omega) (fun s4 M1 K pv R x' ι ν κ φ o1 o2 o3 o4 o5 o6=>?_) (fun s4 o1 o2 o3=>?_)
   ·obtain⟨w1,w2⟩:=fin s4 o5 o6
    repeat (first|with_reducible (refine q9 H ?_;constructor)|simp only[rB,rP,rQ,q8,qa,q7,qb,reduceIte,reduceCtorEq,Nat.reduceAdd,Nat.reduceLT,Nat.reduceEqDiff,UInt8.reduceToNat,pe3,pf3,qka,qtz,qr,eq1,Tryz.results9]|(with_reducible refine qh7 H ?_))
    exact hk s4 u x M W1 W out es _ a1 b1 b2 a2 (hE3.trans o5) w1 w2
   ·obtain⟨w1,w2⟩:=fin s4 o2 o3
    repeat (first|with_reducible (refine q9 H ?_;constructor)|simp only[rB,rP,rQ,q8,qa,q7,qb,reduceIte,reduceCtorEq,Nat.reduceAdd,Nat.reduceLT,Nat.reduceEqDiff,UInt8.reduceToNat,pe3,pf3,qka,qtz,qr,eq1,Tryz.results9]|(with_reducible refine qh7 H ?_))
    exact hk s4 u x M W1 W out es _ a1 b1 b2 a2 (hE3.trans o2) w1 w2
  ·intro s3 b1 b2 b3
   have hW3:EsV s3 W es:=a5.esvM.ext a4 b2
   have hE3:=hE2.trans b2
   have eq1:((1600:Int)==0)=false:=rfl
   repeat (first|with_reducible (refine q9 H ?_;constructor)|simp only[rB,rP,rQ,q8,qa,q7,qb,reduceIte,reduceCtorEq,Nat.reduceAdd,Nat.reduceLT,Nat.reduceEqDiff,UInt8.reduceToNat,pe3,pf3])
   refine qxi H b3 hW3 (fun e he=>by have:=(a2.2 e he).2;omega) (by have:=a2.1;omega) (fun s4 M1 K pv R x' ι ν κ φ o1 o2 o3 o4 o5 o6=>?_) (fun s4 o1 o2 o3=>?_)
   ·repeat (first|with_reducible (refine q9 H ?_;constructor)|simp only[rB,rP,rQ,q8,qa,q7,qb,reduceIte,reduceCtorEq,Nat.reduceAdd,Nat.reduceLT,Nat.reduceEqDiff,UInt8.reduceToNat,pe3,pf3,qr,eq1,Tryz.results9]|(with_reducible refine qh7 H ?_))
    exact hf s4 _ _ _ (hE3.trans o5)
   ·repeat (first|with_reducible (refine q9 H ?_;constructor)|simp only[rB,rP,rQ,q8,qa,q7,qb,reduceIte,reduceCtorEq,Nat.reduceAdd,Nat.reduceLT,Nat.reduceEqDiff,UInt8.reduceToNat,pe3,pf3,qr,eq1,Tryz.results9]|(with_reducible refine qh7 H ?_))
    exact hf s4 _ _ _ (hE3.trans o2)
 ·repeat (first|with_reducible (refine q9 H ?_;constructor)|simp only[rB,rP,rQ,q8,qa,q7,qb,reduceIte,reduceCtorEq,Nat.reduceAdd,Nat.reduceLT,Nat.reduceEqDiff,UInt8.reduceToNat,pe3,pf3,Bool.not_false,Tryz.results9])
  exact hf s2 _ _ _ (hE1.trans a2)
def DoB (M:Md) (c:Cl) (q:An × Md):Prop:=(c.op=1∧∃ r,do1 M c=some r∧q=qlg M r)∨(c.op=2∧∃ r,do2 M c=some r∧q=qlg M r)∨(c.op=8∧∃ r,do8 M c=some r∧q=qlg M r)
theorem ql4 {M:Md} {cnt:Nat} (W:Wf M cnt) (hm:M.many=(cnt:Int)) {c:Cl} (ho:c.op=1∨c.op=2∨c.op=8) (hd:c.data.length≤10000000000000000000):∃ an M' n',DoB M c (an,M')∧Wf M' n'∧M'.many=(n':Int):=by
 rcases ho with e|e|e
 ·obtain⟨r,h1,h2,⟨n',h3,h4⟩,_⟩:=q1r W hm (c:=c)
  exact⟨_,_,n',Or.inl ⟨e,r,h1,rfl⟩,h3,h4⟩
 ·obtain⟨r,h1,h2,⟨n',h3,h4⟩,_⟩:=q3n W hm (c:=c)
  exact⟨_,_,n',Or.inr (Or.inl ⟨e,r,h1,rfl⟩),h3,h4⟩
 ·obtain⟨r,h1,h2,⟨n',h3,h4⟩,_⟩:=q1j W hm e hd
  exact⟨_,_,n',Or.inr (Or.inr ⟨e,r,h1,rfl⟩),h3,h4⟩
theorem q47 {s:St} (H:Ok TE Tryz.prog pr3) {x:Nat} {M:Md} {L:List (Nat × AO)} (hW:World s x M L) {c:Cl} {q:An × Md} (h:DoB M c q) {kr kp:AV→St→Bool} (hk:Dt s x L kr q) :
  (sem Tryz.prog).call 31 [.ptr x 0,.agg (clL c)] s kr kp=true:=by
 rcases h with⟨e,r,hr,rfl⟩|⟨e,r,hr,rfl⟩|⟨e,r,hr,rfl⟩
 ·exact qmm H hW (by omega) (by omega) (fun s L kr kp hW hk=>q6u H hW e hr hk) hk
 ·exact qmm H hW (by omega) (by omega) (fun s L kr kp hW hk=>q6s H hW e hr hk) hk
 ·exact qmp H hW (by omega) (by omega) (fun s L kr kp hW hk=>q8o H hW e hr hk) hk
theorem qos {s:St} (H:Ok TE Tryz.prog pr3) {x u:Nat} {W:AV} {M:Md} {L:List (Nat × AO)} (hW:World s x M L) (hU:(u,AO.cells [.ptr x 0,W] 74 0)∈L) {c:Cl} {q:An × Md} (h:DoB M c q) {kr kp:AV→St→Bool} (hk:Dt s x L kr q) :
  (sem Tryz.prog).call 10 [.ptr u 0,.agg (clL c)] s kr kp=true:=by
 refine qp H 14 q78 rfl rfl ?_
 have g3:=World.get hW hU
 have h3:u < s.nx:=World.lt hW hU
 have m1:(s.nx=s.nx+1)=False:=by simp
 have m2:(s.nx+1=s.nx)=False:=by simp
 have m3:(u=s.nx)=False:=by simp;omega
 have m4:(u=s.nx+1)=False:=by simp;omega
 have hW2:=(World.alloc hW (.cells (clL c) 41 0)).alloc (.cells (anL 0 0 0 0 [] nilS) 38 0)
 have hL1:∀ q∈(s.nx,AO.cells (clL c) 41 0)::L,q.1≠s.nx+1:=by
  intro q hq
  simp only[List.mem_cons] at hq
  rcases hq with rfl|hq
  ·simp
  ·have:=World.lt hW hq
   omega
 unfold clL at hW2 ⊢
 repeat (first|with_reducible (refine q9 H ?_;constructor)|simp only[rB,rP,rQ,q8,qa,q7,qb,reduceIte,reduceCtorEq,Nat.reduceAdd,Nat.reduceLT,Nat.reduceEqDiff,UInt8.reduceToNat,pe3,pf3,ZG,qf,qr,WD,qz2,q0l,q46,m1,m2,m3,m4,g3,qnz,qey]|(with_reducible refine qy H (i:=3) (.take 0 (.take 1 (.take 2 (.take 3 (.take 4 (.alt 5 [0,1,2,3,4] (.alt 6 [0,1,2,3,4,5] (.done) (.yes)) (.yes))))))) rfl (by kernel_rfl) ?_))
 refine q47 H hW2 h (c:=c) ?_
 intro s1 V w1 l1 hV
 have c1:s1.h.get (s.nx+1)=some (.cells (anL 0 0 0 0 [] nilS) 38 0):=w1.get0
 repeat (first|with_reducible (refine q9 H ?_;constructor)|simp only[rB,rP,rQ,q8,qa,q7,qb,reduceIte,reduceCtorEq,Nat.reduceAdd,Nat.reduceLT,Nat.reduceEqDiff,UInt8.reduceToNat,pe3,pf3,c1,KZ hV.cells1.2,J7,VK,YJ,Tryz.results10])
 exact hk _ V ((w1.set hL1 _).sub (fun q hq=>List.mem_cons_of_mem _ (List.mem_cons_of_mem _ hq))) (Nat.le_trans (by show s.nx≤s.nx+1+1;omega) l1) (hV.set c1 qpd _)
structure PkI (V:AV) (zs:List Int) (L0:List (Nat × AO)):Prop where
 len:∀ s',Q5 TE s' [25] [V]=some (.raw (.int .i64 (zs.length:Int)))
 ids:QG V=[]
 at':∀ (i:Nat) (z:Int),zs[i]?=some z→∃ b o l,qL TE 25 V (.raw (.int .i64 (i:Int)))=some (.ptr b o)∧(b,AO.old l)∈L0∧l[o]?=some (.raw (.int .i64 z))
def q80:AV→AV
 | .raw (.int _ z)=>.raw (.int .i64 (IntKind.i64.wrap z))
 | v=>v
theorem qqx {k:IntKind} {z:Int}:q80 (.raw (.int k z))=.raw (.int .i64 (IntKind.i64.wrap z)):=(rfl)
theorem qq1 {z:Int}:qX TE.P (do pure (Next.value (← convert 35 3 (.int .u64 z))))=some (.value (.int .i64 (IntKind.i64.wrap z))):=by kernel_rfl
theorem qwo {s:St} {z:Int}:ql2 TE s 35 3 (.raw (.int .u64 z))=none:=by kernel_rfl
theorem q01 {pr:Prims} {r:Tasks} {rd:Option Nat} {a:Ac} {s:St} {dst:Option Tmp} {x:Operand} {ty:TypeId} {pos:String} {after:Array Edge} {k:Ac→St→Bool} {kp:AV→St→Bool} (h:qoa (a.eval x)=true) :
  QC TE pr r rd ⟨dst,.convert 35 3 x,ty,pos,after,none⟩ a s k kp=zN a dst (q80 (a.eval x)) s k:=by
 obtain⟨z,hz⟩:=qik h
 have h1:zh a x=.int .u64 z:=by simp[zh,hz,zu]
 have hall:(Op.operands (.convert 35 3 x)).toList.all (fun x=>(zu (a.eval x)).isSome)=true:=by
  show (List.all [x] (fun x=>(zu (a.eval x)).isSome))=true
  simp[hz,zu]
 have hr:qX TE.P (execOp (zh a) ⟨dst,.convert 35 3 x,ty,pos,after,none⟩)=some (.value (.int .i64 (IntKind.i64.wrap z))):=by
  have he:execOp (zh a) ⟨dst,.convert 35 3 x,ty,pos,after,none⟩=(do pure (Next.value (← convert 35 3 (.int .u64 z)))):=by
   simp only[execOp,h1]
  rw[he]
  exact qq1
 have hp:qt TE a ⟨dst,.convert 35 3 x,ty,pos,after,none⟩=some (.raw (.int .i64 (IntKind.i64.wrap z)),[]):=by
  simp only[qt,hall,cond_true,hr]
  rfl
 have hs:zp TE a s ⟨dst,.convert 35 3 x,ty,pos,after,none⟩=some (.raw (.int .i64 (IntKind.i64.wrap z)),[]):=by
  simp only[zp,hz,qwo,hp]
 show zA TE ⟨dst,.convert 35 3 x,ty,pos,after,none⟩ a s k=_
 rw[Qz hs,hz]
 rfl
theorem q2d {e:Env} {a:Ac} {dst:Option Tmp} {x y:Operand} {t t' ty:TypeId} {pos:String} {after:Array Edge} {m:Int} (hm:m≠0) (hx:qoa (a.eval x)=true) (hy:a.eval y=.raw (.int .u64 m)) :
  qt e a ⟨dst,.binOp .rem t x y t',ty,pos,after,none⟩=q86 m (a.eval x):=by
 obtain⟨u,hx⟩:=qik hx
 have h1:zh a x=.int .u64 u:=by simp[zh,hx,zu]
 have h2:zh a y=.int .u64 m:=by simp[zh,hy,zu]
 have hall:(Op.operands (.binOp .rem t x y t')).toList.all (fun x=>(zu (a.eval x)).isSome)=true:=by
  show (List.all [x,y] (fun x=>(zu (a.eval x)).isSome))=true
  simp only[List.all_cons,List.all_nil,hx,hy]
  rfl
 have hr:qX e.P (execOp (zh a) ⟨dst,.binOp .rem t x y t',ty,pos,after,none⟩)=some (.value (.int .u64 (u.tmod m))):=by
  have:execOp (zh a) ⟨dst,.binOp .rem t x y t',ty,pos,after,none⟩=.pure (.value (.int .u64 (u.tmod m))):=by
   have hd:Op.intDiv .rem .u64 u m=.pure (.int .u64 (u.tmod m)):=by
    simp only[Op.intDiv,if_neg hm]
    rfl
   simp only[execOp,h1,h2]
   show (do pure (Next.value (← Op.intDiv .rem .u64 u m)))=_
   rw[hd]
   rfl
  rw[this];rfl
 simp only[qt,hall,cond_true,hr,hx]
 rfl
def flB (b:Bool):AV:=.raw (.bool b)
theorem q8t {s:St} {mp:Nat} {l:List (List Nat × Bool)} {p:List Nat} (h:s.h.get mp=some (.map (zn flB l))):Qt TE s 32 (.map mp) (.str p) false=some (.raw (.bool ((qz p l).getD false))):=by
 have hz:zt TE 4=some (flB false):=by kernel_rfl
 have e:Qt TE s 32 (.map mp) (.str p) false=(match (some { desc:=.string,size:=1,bytes:=16,zero:=some (.string ⟨#[]⟩) }:Option TI),YO s (.map mp) with
   | some ki,some es =>
    bif Y7 ki.desc then
     match Qr ki.desc (.str p) es 0 with
     | some (some (_,v))=>some (bif false then .tuple [v,q8 true] else v)
     | some none=>match zt TE 4 with
      | some z=>some (bif false then .tuple [z,q8 false] else z)
      | none=>none
     | none=>none
    else none
   | _,_=>none):=by kernel_rfl
 rw[e]
 simp only[YO,h,ZD,Y7,cond_true,cond_false,hz]
 cases qz p l <;> rfl
theorem q45 {s:St} {mp:Nat} {l:List (List Nat × Bool)} {p:List Nat} {j:Bool} (h:s.h.get mp=some (.map (zn flB l))):za TE s 32 (.map mp) (.str p) (.raw (.bool j))=some { s with h:=s.h.set mp (.map (zn flB (Y5 p j l))) }:=by
 have e:za TE s 32 (.map mp) (.str p) (flB j)=(match s.h.get mp with
   | some (.map es)=>match Qr .string (.str p) es 0 with
      | some (some (i,_))=>some { s with h:=s.h.set mp (.map (setL es i (.str p,flB j))) }
      | some none=>some { s with h:=s.h.set mp (.map (es++[(.str p,flB j)])) }
      | none=>none
   | _=>none):=by kernel_rfl
 show za TE s 32 (.map mp) (.str p) (flB j)=_
 rw[e,h]
 simp only[ZD]
 cases hl:qz p l with
 | none=>simp only[QY l hl,zn,List.map_append,List.map_cons,List.map_nil]
 | some i=>simp only[Nat.zero_add,qje l (by rw[hl];simp)]
theorem q4k {a n:Int} {b:List Nat}:Qb TE 41 [(0,.raw (.int .i64 a)),(1,.str b),(5,.raw (.int .i64 n))]=some (.agg (clL ⟨a,b,[],0,0,n,0,[]⟩)):=by kernel_rfl
theorem q6f {a:Int} {b:List Nat}:Qb TE 41 [(0,.raw (.int .i64 a)),(1,.str b)]=some (.agg (clL ⟨a,b,[],0,0,0,0,[]⟩)):=by kernel_rfl
theorem q3j {a:Int} {b d:List Nat}:Qb TE 41 [(0,.raw (.int .i64 a)),(1,.str b),(7,.str d)]=some (.agg (clL ⟨a,b,[],0,0,0,0,d⟩)):=by kernel_rfl
theorem q08 {x:Nat}:qk TE 34 (.ptr x 0) 0=some (.ptr x 0):=by kernel_rfl
theorem q8l {x:Nat}:qk TE 34 (.ptr x 0) 1=some (.ptr x 1):=by kernel_rfl
theorem fe3B {x:Nat}:qk TE 34 (.ptr x 0) 3=some (.ptr x 3):=by kernel_rfl
theorem qeh {e:En} {t z:Nat}:ldO (some (.cells (celE e) t z)) 0=some (.str e.1):=(rfl)
theorem qo2 {e:En} {t z:Nat}:ldO (some (.cells (celE e) t z)) 1=some (.raw (.int .i64 e.2.1)):=(rfl)
theorem q1l {e:En} {t z:Nat}:ldO (some (.cells (celE e) t z)) 3=some (.str e.2.2.2):=(rfl)
theorem qn6 {e:En}:(celE e)[0]?=some (.str e.1):=(rfl)
theorem qvv {e:En}:(celE e)[1]?=some (.raw (.int .i64 e.2.1)):=(rfl)
theorem q6t {e:En}:(celE e)[3]?=some (.str e.2.2.2):=(rfl)
theorem qgc {e:En} {t z:Nat} {b:Bool}:inO (some (.cells (celE e) t z)) b=b:=(rfl)
theorem qxn (H:Ok TE Tryz.prog pr3) {st:St} (hB:qc st) {IV PV:AV} {im:List (List En)} {zs:List Int} {L0:List (Nat × AO)} (hI:LsV st IV im) (hp:∀ es∈im,∀ e∈es,e.1.length≤1048575) (hA:PkI PV zs L0) (hL0:∀ q∈L0,st.h.get q.1=some q.2∧X7 q.2=true) :
  (sem Tryz.prog).call 3 [.agg [IV],PV] st (fun v _=>Kh v) (fun _ _=>false)=true:=by
 refine qp H 99 fn_3 rfl rfl ?_
 have hB1:qc (st.alloc (.cells [IV] 24 0)):=qx hB _
 have hE1:Ext st (st.alloc (.cells [IV] 24 0)):=Ext.alloc st _
 have c1:(st.alloc (.cells [IV] 24 0)).h.get st.nx=some (.cells [IV] 24 0):=qu
 have hI1:=hI.ext hB hE1
 repeat (first|with_reducible (refine q9 H ?_;constructor)|simp only[rB,rP,rQ,q8,qa,q7,qb,reduceIte,reduceCtorEq,Nat.reduceAdd,Nat.reduceLT,Nat.reduceEqDiff,UInt8.reduceToNat,pe3,pf3,qf,qwb])
 generalize st.alloc (.cells [IV] 24 0)=s1 at *
 repeat (first|with_reducible (refine q9 H ?_;constructor)|simp only[rB,rP,rQ,q8,qa,q7,qb,reduceIte,reduceCtorEq,Nat.reduceAdd,Nat.reduceLT,Nat.reduceEqDiff,UInt8.reduceToNat,pe3,pf3,Bool.not_true,c1,qp5,Xk])
 refine qxk H hB1 hI1 hp ?_ ?_
 rotate_left
 ·intro s2 U T W hE2
  repeat (first|with_reducible (refine q9 H ?_;constructor)|simp only[rB,rP,rQ,q8,qa,q7,qb,reduceIte,reduceCtorEq,Nat.reduceAdd,Nat.reduceLT,Nat.reduceEqDiff,UInt8.reduceToNat,pe3,pf3,Bool.not_false,Tryz.results3])
  rfl
 intro s2 u x M W1 W out es T hm1 hm2 hof hfd hE2 w1 hWr
 have hO2:∀ q∈L0,s2.h.get q.1=some q.2∧X7 q.2=true:=fun q hq=>by
  obtain⟨h1,h2⟩:=hL0 q hq
  exact⟨((hE1.trans hE2).2 _ (hB _ _ h1)).trans h1,h2⟩
 have w2:World s2 x M ((u,.cells [.ptr x 0,W1] 74 0)::(qlh W es++L0)):=(w1.withL hO2).sub (fun q hq=>by
  simp only[List.mem_cons,List.mem_append] at hq ⊢
  rcases hq with hq|hq|hq
  ·exact Or.inr (Or.inl hq)
  ·exact Or.inr (Or.inr hq)
  ·exact Or.inl hq)
 obtain⟨wf0,hm0,_⟩:=q3r hof
 have w3:=World.alloc w2 (.map (zn flB []))
 have hlow:∀ q∈(u,AO.cells [.ptr x 0,W1] 74 0)::(qlh W es++L0),q.1 < s2.nx:=fun q hq=>World.lt w2 hq
 generalize hLb:(u,AO.cells [.ptr x 0,W1] 74 0)::(qlh W es++L0)=Lb at w2 w3 hlow
 have hmu:(u,AO.cells [.ptr x 0,W1] 74 0)∈Lb:=by rw[← hLb];exact List.mem_cons_self ..
 have hrow:∀ q∈qlh W es,q∈Lb:=fun q hq=>by rw[← hLb];exact List.mem_cons_of_mem _ (List.mem_append_left _ hq)
 have hold:∀ q∈L0,q∈Lb:=fun q hq=>by rw[← hLb];exact List.mem_cons_of_mem _ (List.mem_append_right _ hq)
 repeat (first|with_reducible (refine q9 H ?_;constructor)|simp only[rB,rP,rQ,q8,qa,q7,qb,reduceIte,reduceCtorEq,Nat.reduceAdd,Nat.reduceLT,Nat.reduceEqDiff,UInt8.reduceToNat,pe3,pf3,Bool.not_true])
 have hem:(zn flB ([]:List (List Nat × Bool)))=[]:=rfl
 rw[hem] at w3
 have vl:=hA.len
 have vi:=hA.ids
 have wl:=hWr.esvM.len
 have wi:=hWr.esvM.ids
 generalize hmp:s2.nx=mp at *
 refine qB H (fun n t s'=>∃ (i a:Nat) (m:List (List Nat × Bool)) (M':Md) (n':Nat),n+i=(if es.length=0 then 0 else min zs.length 30)∧a≤i * 1024∧tg t 1=PV∧tg t 5=.ptr u 0∧tg t 7=W∧tg t 9=.raw (.int .i64 (a:Int))∧tg t 10=.map mp∧tg t 11=.raw (.int .i64 (i:Int))∧World s' x M' ((mp,.map (zn flB m))::Lb)∧Wf M' n'∧M'.many=(n':Int)) (n:=if es.length=0 then 0 else min zs.length 30)
  (by
   refine⟨0,0,[],M,_,rfl,Nat.le_refl _,?_,?_,?_,?_,?_,?_,w3,wf0,hm0⟩
   ·simp only[rB,rP,rQ,q8,qa,q7,qb,reduceIte,reduceCtorEq,Nat.reduceAdd,Nat.reduceLT,Nat.reduceEqDiff,UInt8.reduceToNat]
   ·simp only[rB,rP,rQ,q8,qa,q7,qb,reduceIte,reduceCtorEq,Nat.reduceAdd,Nat.reduceLT,Nat.reduceEqDiff,UInt8.reduceToNat]
   ·simp only[rB,rP,rQ,q8,qa,q7,qb,reduceIte,reduceCtorEq,Nat.reduceAdd,Nat.reduceLT,Nat.reduceEqDiff,UInt8.reduceToNat]
   ·simp only[rB,rP,rQ,q8,qa,q7,qb,reduceIte,reduceCtorEq,Nat.reduceAdd,Nat.reduceLT,Nat.reduceEqDiff,UInt8.reduceToNat]
    rfl
   ·simp only[rB,rP,rQ,q8,qa,q7,qb,reduceIte,reduceCtorEq,Nat.reduceAdd,Nat.reduceLT,Nat.reduceEqDiff,UInt8.reduceToNat]
   ·simp only[rB,rP,rQ,q8,qa,q7,qb,reduceIte,reduceCtorEq,Nat.reduceAdd,Nat.reduceLT,Nat.reduceEqDiff,UInt8.reduceToNat]
    rfl) ?_
 clear w3 w2 w1
 rintro n t s ih ⟨i,a,m,M',n',hn,ha,t1,t5,t7,t9,t10,t11,hW,wf,hmn⟩
 have hc128:=hfd.1
 cases n with
 | zero =>
  have hend:decide ((i:Int) < (zs.length:Int))=false∨(decide ((i:Int) < (zs.length:Int))=true∧decide ((i:Int) < 30)=false)∨(decide ((i:Int) < (zs.length:Int))=true∧decide ((i:Int) < 30)=true∧decide ((es.length:Int) > 0)=false):=by
   simp only[decide_eq_false_iff_not,decide_eq_true_eq]
   by_cases h0:es.length=0
   ·rw[if_pos h0] at hn
    omega
   ·rw[if_neg h0] at hn
    omega
  rcases hend with g0|⟨g0,g1⟩|⟨g0,g1,g2⟩
  ·repeat (first|with_reducible (refine q9 H ?_;constructor)|simp only[rB,rP,rQ,q8,qa,q7,qb,reduceIte,reduceCtorEq,Nat.reduceAdd,Nat.reduceLT,Nat.reduceEqDiff,UInt8.reduceToNat,pe3,pf3,t1,t5,t7,t9,t10,t11,vl,vi,zJ,g0,Tryz.results3])
   rfl
  ·repeat (first|with_reducible (refine q9 H ?_;constructor)|simp only[rB,rP,rQ,q8,qa,q7,qb,reduceIte,reduceCtorEq,Nat.reduceAdd,Nat.reduceLT,Nat.reduceEqDiff,UInt8.reduceToNat,pe3,pf3,t1,t5,t7,t9,t10,t11,vl,vi,zJ,g0,g1,Tryz.results3])
   rfl
  ·repeat (first|with_reducible (refine q9 H ?_;constructor)|simp only[rB,rP,rQ,q8,qa,q7,qb,reduceIte,reduceCtorEq,Nat.reduceAdd,Nat.reduceLT,Nat.reduceEqDiff,UInt8.reduceToNat,pe3,pf3,t1,t5,t7,t9,t10,t11,vl,vi,wl,wi,zJ,zD,g0,g1,g2,Tryz.results3])
   rfl
 | succ n =>
  have h0:¬ es.length=0:=by
   intro h
   rw[if_pos h] at hn
   omega
  rw[if_neg h0] at hn ih
  have hi:i < zs.length:=by omega
  have h30:i < 30:=by omega
  have g0:decide ((i:Int) < (zs.length:Int))=true:=by rw[decide_eq_true_eq];omega
  have g1:decide ((i:Int) < 30)=true:=by rw[decide_eq_true_eq];omega
  have g2:decide ((es.length:Int) > 0)=true:=by rw[decide_eq_true_eq];omega
  have hm0:(es.length:Int)≠0:=by omega
  obtain⟨b,o,l,ix,hmz,hcz⟩:=hA.at' i zs[i] (List.getElem?_eq_getElem hi)
  generalize zs[i]=z at ix hcz
  have gb:=World.get hW (List.mem_cons_of_mem _ (hold _ hmz))
  simp only at gb
  have lz:ldO (s.h.get b) o=some (.raw (.int .i64 z)):=by rw[gb];exact hcz
  have in0:∀ x,inO (s.h.get b) x=x:=fun x=>by rw[gb];rfl
  have wku:IntKind.u64.wrap (es.length:Int)=(es.length:Int):=by
   show (es.length:Int) % 18446744073709551616=(es.length:Int)
   omega
  obtain⟨r,er,hr⟩:∃ r:Nat,(IntKind.u64.wrap z).tmod (es.length:Int)=(r:Int)∧r < es.length:=by
   have hz:0≤IntKind.u64.wrap z:=by
    show 0≤z % 18446744073709551616
    omega
   have e1:(IntKind.u64.wrap z).tmod (es.length:Int)=(IntKind.u64.wrap z) % (es.length:Int):=Int.tmod_eq_emod_of_nonneg hz
   have e2:0≤(IntKind.u64.wrap z) % (es.length:Int):=Int.emod_nonneg _ hm0
   have e3:(IntKind.u64.wrap z) % (es.length:Int) < (es.length:Int):=Int.emod_lt_of_pos _ (by omega)
   exact⟨((IntKind.u64.wrap z) % (es.length:Int)).toNat,by rw[e1];omega,by omega⟩
  have wr:IntKind.i64.wrap (r:Int)=(r:Int):=qU (by omega)
  have hre:es[r]?=some es[r]:=List.getElem?_eq_getElem hr
  obtain⟨hd,hpl⟩:=hfd.2 es[r] (List.getElem_mem hr)
  have hWr':ErB 0 s W es:=q3w hWr (fun q hq=>World.get hW (List.mem_cons_of_mem _ (hrow q hq)))
  generalize es[r]=e at hre hd hpl
  obtain⟨id,o',ob,y1,y2,y3,y4,_,_,_,_,yb⟩:=hWr'.esvM.fld hre
  have y5:=y3 s y2
  have w4:=World.putA hW (.cells [.str [],.raw (.int .i64 0),.raw (.int .i64 0),.str []] 34 0) (.cells (celE e) 34 0)
  repeat (first|with_reducible (refine q9 H ?_;constructor)|simp only[rB,rP,rQ,q8,qa,q7,qb,reduceIte,reduceCtorEq,Nat.reduceAdd,Nat.reduceLT,Nat.reduceEqDiff,UInt8.reduceToNat,pe3,pf3,t1,t5,t7,t9,t10,t11,vl,vi,wl,wi,zJ,zD,g0,g1,g2,ix,lz,in0,gb,hcz,qK,q6g,quo,qna,wku,q6b,qvy,q2d hm0,qxg,qsz,er,q01,qqx,wr,y1,y2,y4,y5,YK,VN,YI])
  have g7:=w4.get0
  have men:mp < s.nx:=World.lt hW (List.mem_cons_self ..)
  generalize ({ h:=(s.alloc (.cells [.str [],.raw (.int .i64 0),.raw (.int .i64 0),.str []] 34 0)).h.set s.nx (.cells (celE e) 34 0),nx:=s.nx+1 }:St)=s7 at *
  generalize s.nx=en at *
  obtain⟨an1,M1,n1,do1,wf1,hm1⟩:=ql4 wf hmn (c:=⟨2,[47]++e.1,[],0,0,9,0,[]⟩) (Or.inr (Or.inl rfl)) (Nat.zero_le _)
  obtain⟨an2,M2,n2,do2,wf2,hm2⟩:=ql4 wf1 hm1 (c:=⟨1,[47]++e.1,[],0,0,0,0,[]⟩) (Or.inl rfl) (Nat.zero_le _)
  obtain⟨an3,M3,n3,do3,wf3,hm3⟩:=ql4 wf2 hm2 (c:=⟨8,[47]++e.1,[],0,0,0,0,[122]⟩) (Or.inr (Or.inr rfl)) (by show 1≤_;omega)
  have ad:qE .add (.str [47]) (.str e.1)=some (.str ([47]++e.1)):=JJ (by simp;omega)
  have mU:(u,AO.cells [.ptr x 0,W1] 74 0)∈(en,AO.cells (celE e) 34 0)::(mp,AO.map (zn flB m))::Lb:=List.mem_cons_of_mem _ (List.mem_cons_of_mem _ hmu)
  have mZ:(b,AO.old l)∈(en,AO.cells (celE e) 34 0)::(mp,AO.map (zn flB m))::Lb:=List.mem_cons_of_mem _ (List.mem_cons_of_mem _ (hold _ hmz))
  have ew:IntKind.i64.wrap ((i:Int)+1)=((i+1:Nat):Int):=by
   rw[show (i:Int)+1=((i+1:Nat):Int) from by simp]
   exact qU (by omega)
  repeat (first|with_reducible (refine q9 H ?_;constructor)|simp only[rB,rP,rQ,q8,qa,q7,qb,reduceIte,reduceCtorEq,Nat.reduceAdd,Nat.reduceLT,Nat.reduceEqDiff,UInt8.reduceToNat,pe3,pf3,t1,t5,t7,t9,t10,t11,g7,q08,qD,qeh,qn6,qgc,ad,q4k])
  refine qos H w4 mU do1 (fun s8 V8 w8 l8 hV8=>?_)
  have g8:=w8.get0
  repeat (first|with_reducible (refine q9 H ?_;constructor)|simp only[rB,rP,rQ,q8,qa,q7,qb,reduceIte,reduceCtorEq,Nat.reduceAdd,Nat.reduceLT,Nat.reduceEqDiff,UInt8.reduceToNat,pe3,pf3,t1,t5,t7,t9,t10,t11,g8,q08,qD,qeh,qn6,qgc,ad,q6f])
  refine qos H w8 mU do2 (fun s9 V9 w9 l9 hV9=>?_)
  have g9:=w9.get0
  have gb9:=World.get w9 mZ
  simp only at gb9
  have lz9:ldO (s9.h.get b) o=some (.raw (.int .i64 z)):=by rw[gb9];exact hcz
  have in9:∀ x,inO (s9.h.get b) x=x:=fun x=>by rw[gb9];rfl
  cases hkd:(e.2.1==2) with
  | false =>
   have g19:decide ((0:Int) > (a:Int))=false:=by rw[decide_eq_false_iff_not];omega
   repeat (first|with_reducible (refine q9 H ?_;constructor)|simp only[rB,rP,rQ,q8,qa,q7,qb,reduceIte,reduceCtorEq,Nat.reduceAdd,Nat.reduceLT,Nat.reduceEqDiff,UInt8.reduceToNat,pe3,pf3,t1,t5,t7,t9,t10,t11,g9,q8l,qK,qo2,qvv,qgc,qr,hkd,zD,g19,qI,ew]|(with_reducible refine VU H ?_))
   refine ih n _ _ (Nat.lt_succ_self n) ?_
   refine⟨i+1,a,m,M2,n2,by omega,by omega,?_,?_,?_,?_,?_,?_,w9.sub (fun q hq=>List.mem_cons_of_mem _ hq),wf2,hm2⟩
   ·simp only[rB,rP,rQ,q8,qa,q7,qb,reduceIte,reduceCtorEq,Nat.reduceAdd,Nat.reduceLT,Nat.reduceEqDiff,UInt8.reduceToNat,t1]
   ·simp only[rB,rP,rQ,q8,qa,q7,qb,reduceIte,reduceCtorEq,Nat.reduceAdd,Nat.reduceLT,Nat.reduceEqDiff,UInt8.reduceToNat,t5]
   ·simp only[rB,rP,rQ,q8,qa,q7,qb,reduceIte,reduceCtorEq,Nat.reduceAdd,Nat.reduceLT,Nat.reduceEqDiff,UInt8.reduceToNat,t7]
   ·simp only[rB,rP,rQ,q8,qa,q7,qb,reduceIte,reduceCtorEq,Nat.reduceAdd,Nat.reduceLT,Nat.reduceEqDiff,UInt8.reduceToNat,t9]
   ·simp only[rB,rP,rQ,q8,qa,q7,qb,reduceIte,reduceCtorEq,Nat.reduceAdd,Nat.reduceLT,Nat.reduceEqDiff,UInt8.reduceToNat,t10]
   ·simp only[rB,rP,rQ,q8,qa,q7,qb,reduceIte,reduceCtorEq,Nat.reduceAdd,Nat.reduceLT,Nat.reduceEqDiff,UInt8.reduceToNat]
  | true =>
   cases hod:(q02 z 1==1) with
   | false =>
    have g19:decide ((0:Int) > (a:Int))=false:=by rw[decide_eq_false_iff_not];omega
    repeat (first|with_reducible (refine q9 H ?_;constructor)|simp only[rB,rP,rQ,q8,qa,q7,qb,reduceIte,reduceCtorEq,Nat.reduceAdd,Nat.reduceLT,Nat.reduceEqDiff,UInt8.reduceToNat,pe3,pf3,t1,t5,t7,t9,t10,t11,vl,vi,ix,lz9,in9,gb9,hcz,g9,q8l,qK,qo2,qvv,qgc,qr,hkd,qcl,hod,zD,g19,qI,ew]|(with_reducible refine VU H ?_))
    refine ih n _ _ (Nat.lt_succ_self n) ?_
    refine⟨i+1,a,m,M2,n2,by omega,by omega,?_,?_,?_,?_,?_,?_,w9.sub (fun q hq=>List.mem_cons_of_mem _ hq),wf2,hm2⟩
    ·simp only[rB,rP,rQ,q8,qa,q7,qb,reduceIte,reduceCtorEq,Nat.reduceAdd,Nat.reduceLT,Nat.reduceEqDiff,UInt8.reduceToNat,t1]
    ·simp only[rB,rP,rQ,q8,qa,q7,qb,reduceIte,reduceCtorEq,Nat.reduceAdd,Nat.reduceLT,Nat.reduceEqDiff,UInt8.reduceToNat,t5]
    ·simp only[rB,rP,rQ,q8,qa,q7,qb,reduceIte,reduceCtorEq,Nat.reduceAdd,Nat.reduceLT,Nat.reduceEqDiff,UInt8.reduceToNat,t7]
    ·simp only[rB,rP,rQ,q8,qa,q7,qb,reduceIte,reduceCtorEq,Nat.reduceAdd,Nat.reduceLT,Nat.reduceEqDiff,UInt8.reduceToNat,t9]
    ·simp only[rB,rP,rQ,q8,qa,q7,qb,reduceIte,reduceCtorEq,Nat.reduceAdd,Nat.reduceLT,Nat.reduceEqDiff,UInt8.reduceToNat,t10]
    ·simp only[rB,rP,rQ,q8,qa,q7,qb,reduceIte,reduceCtorEq,Nat.reduceAdd,Nat.reduceLT,Nat.reduceEqDiff,UInt8.reduceToNat]
   | true =>
    repeat (first|with_reducible (refine q9 H ?_;constructor)|simp only[rB,rP,rQ,q8,qa,q7,qb,reduceIte,reduceCtorEq,Nat.reduceAdd,Nat.reduceLT,Nat.reduceEqDiff,UInt8.reduceToNat,pe3,pf3,t1,t5,t7,t9,t10,t11,vl,vi,ix,lz9,in9,gb9,hcz,g9,q08,q8l,qK,qD,qeh,qn6,qo2,qvv,qgc,qr,hkd,qcl,hod,ad,q3j])
    refine qos H w9 mU do3 (fun s10 V10 w10 l10 hV10=>?_)
    have g10:=w10.get0
    have gm:=w10.get1
    have lk:=q8t (p:=e.1) gm
    have upm:=q45 (p:=e.1) (j:=true) gm
    have imB:∀ b,inO (s10.h.get mp) b=b:=fun b=>by rw[gm];rfl
    have w11:=World.set (w10.sub (L':=(mp,AO.map (zn flB m))::(en,AO.cells (celE e) 34 0)::Lb) (fun q hq=>by
     simp only[List.mem_cons] at hq ⊢
     rcases hq with hq|hq|hq
     ·exact Or.inr (Or.inl hq)
     ·exact Or.inl hq
     ·exact Or.inr (Or.inr hq))) (fun q hq=>by
     rcases List.mem_cons.1 hq with rfl|hq
     ·show en≠mp
      omega
     ·exact Nat.ne_of_lt (hlow q hq)) (.map (zn flB (Y5 e.1 true m)))
    cases hsn:(qz e.1 m).getD false with
    | true =>
     have g19:decide ((0:Int) > (a:Int))=false:=by rw[decide_eq_false_iff_not];omega
     rw[hsn] at lk
     repeat (first|with_reducible (refine q9 H ?_;constructor)|simp only[rB,rP,rQ,q8,qa,q7,qb,reduceIte,reduceCtorEq,Nat.reduceAdd,Nat.reduceLT,Nat.reduceEqDiff,UInt8.reduceToNat,pe3,pf3,t1,t5,t7,t9,t10,t11,g10,lk,imB,q08,qD,qeh,qn6,qgc,Bool.not_true,upm])
     generalize ({ s10 with h:=s10.h.set mp (.map (zn flB (Y5 e.1 true m))) }:St)=s11 at *
     repeat (first|with_reducible (refine q9 H ?_;constructor)|simp only[rB,rP,rQ,q8,qa,q7,qb,reduceIte,reduceCtorEq,Nat.reduceAdd,Nat.reduceLT,Nat.reduceEqDiff,UInt8.reduceToNat,pe3,pf3,t1,t5,t7,t9,t10,t11,zD,g19,qI,ew]|(with_reducible refine VU H ?_))
     refine ih n _ _ (Nat.lt_succ_self n) ?_
     refine⟨i+1,a,Y5 e.1 true m,M3,n3,by omega,by omega,?_,?_,?_,?_,?_,?_,w11.sub (fun q hq=>by
      rcases List.mem_cons.1 hq with hq|hq
      ·exact List.mem_cons.2 (Or.inl hq)
      ·exact List.mem_cons_of_mem _ (List.mem_cons_of_mem _ hq)),wf3,hm3⟩
     ·simp only[rB,rP,rQ,q8,qa,q7,qb,reduceIte,reduceCtorEq,Nat.reduceAdd,Nat.reduceLT,Nat.reduceEqDiff,UInt8.reduceToNat,t1]
     ·simp only[rB,rP,rQ,q8,qa,q7,qb,reduceIte,reduceCtorEq,Nat.reduceAdd,Nat.reduceLT,Nat.reduceEqDiff,UInt8.reduceToNat,t5]
     ·simp only[rB,rP,rQ,q8,qa,q7,qb,reduceIte,reduceCtorEq,Nat.reduceAdd,Nat.reduceLT,Nat.reduceEqDiff,UInt8.reduceToNat,t7]
     ·simp only[rB,rP,rQ,q8,qa,q7,qb,reduceIte,reduceCtorEq,Nat.reduceAdd,Nat.reduceLT,Nat.reduceEqDiff,UInt8.reduceToNat,t9]
     ·simp only[rB,rP,rQ,q8,qa,q7,qb,reduceIte,reduceCtorEq,Nat.reduceAdd,Nat.reduceLT,Nat.reduceEqDiff,UInt8.reduceToNat,t10]
     ·simp only[rB,rP,rQ,q8,qa,q7,qb,reduceIte,reduceCtorEq,Nat.reduceAdd,Nat.reduceLT,Nat.reduceEqDiff,UInt8.reduceToNat]
    | false =>
     have g19:decide ((0:Int) > ((a+e.2.2.2.length:Nat):Int))=false:=by rw[decide_eq_false_iff_not];omega
     have ea:IntKind.i64.wrap ((a:Int)+(e.2.2.2.length:Int))=((a+e.2.2.2.length:Nat):Int):=by
      rw[show (a:Int)+(e.2.2.2.length:Int)=((a+e.2.2.2.length:Nat):Int) from by simp]
      exact qU (by omega)
     rw[hsn] at lk
     repeat (first|with_reducible (refine q9 H ?_;constructor)|simp only[rB,rP,rQ,q8,qa,q7,qb,reduceIte,reduceCtorEq,Nat.reduceAdd,Nat.reduceLT,Nat.reduceEqDiff,UInt8.reduceToNat,pe3,pf3,t1,t5,t7,t9,t10,t11,g10,lk,imB,ql,q08,fe3B,qD,qeh,qn6,q1l,q6t,qgc,Bool.not_false,qI,ea,upm])
     generalize ({ s10 with h:=s10.h.set mp (.map (zn flB (Y5 e.1 true m))) }:St)=s11 at *
     repeat (first|with_reducible (refine q9 H ?_;constructor)|simp only[rB,rP,rQ,q8,qa,q7,qb,reduceIte,reduceCtorEq,Nat.reduceAdd,Nat.reduceLT,Nat.reduceEqDiff,UInt8.reduceToNat,pe3,pf3,t1,t5,t7,t9,t10,t11,zD,g19,qI,ew]|(with_reducible refine VU H ?_))
     refine ih n _ _ (Nat.lt_succ_self n) ?_
     refine⟨i+1,a+e.2.2.2.length,Y5 e.1 true m,M3,n3,by omega,by omega,?_,?_,?_,?_,?_,?_,w11.sub (fun q hq=>by
      rcases List.mem_cons.1 hq with hq|hq
      ·exact List.mem_cons.2 (Or.inl hq)
      ·exact List.mem_cons_of_mem _ (List.mem_cons_of_mem _ hq)),wf3,hm3⟩
     ·simp only[rB,rP,rQ,q8,qa,q7,qb,reduceIte,reduceCtorEq,Nat.reduceAdd,Nat.reduceLT,Nat.reduceEqDiff,UInt8.reduceToNat,t1]
     ·simp only[rB,rP,rQ,q8,qa,q7,qb,reduceIte,reduceCtorEq,Nat.reduceAdd,Nat.reduceLT,Nat.reduceEqDiff,UInt8.reduceToNat,t5]
     ·simp only[rB,rP,rQ,q8,qa,q7,qb,reduceIte,reduceCtorEq,Nat.reduceAdd,Nat.reduceLT,Nat.reduceEqDiff,UInt8.reduceToNat,t7]
     ·simp only[rB,rP,rQ,q8,qa,q7,qb,reduceIte,reduceCtorEq,Nat.reduceAdd,Nat.reduceLT,Nat.reduceEqDiff,UInt8.reduceToNat]
     ·simp only[rB,rP,rQ,q8,qa,q7,qb,reduceIte,reduceCtorEq,Nat.reduceAdd,Nat.reduceLT,Nat.reduceEqDiff,UInt8.reduceToNat,t10]
     ·simp only[rB,rP,rQ,q8,qa,q7,qb,reduceIte,reduceCtorEq,Nat.reduceAdd,Nat.reduceLT,Nat.reduceEqDiff,UInt8.reduceToNat]
def q7p (z:Int):List AV:=[.raw (.int .i64 z)]
def IntV (w:Go.World) (V:Value) (zs:List Int):Prop:=qvn w 1 (zs.map q7p) V
theorem q39 {id i n c:Nat} (h:i < n):qL TE 25 (.slice id 0 n 0 c true) (.raw (.int .i64 (i:Int)))=some (.ptr id (i * 1)):=by
 have e:qL TE 25 (.slice id 0 n 0 c true) (.raw (.int .i64 (i:Int)))=(bif Nat.blt i n then some (.ptr id (0+i * 1)) else none):=by kernel_rfl
 rw[e,Nat.blt_eq.mpr h,Nat.zero_add]
 rfl
theorem qws {a:Option Go.Addr} {c:Nat} {L0:List (Nat × AO)}:PkI (.raw (.slice a 0 c)) [] L0:=⟨fun s'=>(by kernel_rfl),rfl,fun i z h=>(by simp at h)⟩
theorem qxp {id n c:Nat}:∀ s',Q5 TE s' [25] [.slice id 0 n 0 c true]=some (.raw (.int .i64 (n:Int))):=fun s'=>by kernel_rfl
theorem qjl:∀ {zs:List Int} {i:Nat} {z:Int},zs[i]?=some z→(zs.map q7p).flatten[i]?=some (.raw (.int .i64 z))
 | [],i,z,h=>by simp at h
 | x::l,0,z,h=>by cases h;rfl
 | x::l,i+1,z,h=>by
  rw[List.map_cons,List.flatten_cons]
  have:=qjl (zs:=l) (i:=i) (by simpa using h)
  simpa [q7p] using this
theorem qr4 {w:Go.World} {zs:List Int} {V:Value} (h:IntV w V zs) (id:Nat):∃ (A:AV) (blk:Blk),BlkOk w blk∧(∀ E:Em,E id=blk.map (·.1)→VRel E A V)∧∀ L0,(∀ q∈q81 id blk,q∈L0)→PkI A zs L0:=by
 obtain⟨A,blk,h1,h2,h3⟩:=qdb (by decide) h id
 refine⟨A,blk,h1,h2,fun L0 hL=>?_⟩
 rcases h3 with⟨a,c,rfl,h4,rfl⟩|⟨cap,p,rfl,h4,rfl,hk⟩
 ·have:zs=[]:=by simpa using h4
  subst this
  exact qws
 ·rw[List.length_map] at h4 ⊢
  refine⟨qxp,rfl,fun i c hi=>⟨id,i * 1,_,q39 (List.getElem?_eq_some_iff.mp hi).1,hL _ (List.mem_singleton.2 rfl),?_⟩⟩
  rw[Nat.mul_one]
  exact qjl hi
theorem bytesWalk {w:Go.World} {vI vA:Value} {im:List (List En)} {zs:List Int} (hI:LyV w vI im) (hA:IntV w vA zs) (hp:∀ es∈im,∀ e∈es,e.1.length≤1048575) :
  Calls Tryz.prog 3 #[.agg #[vI],vA] w fun e w'=>e=.returned (.bool true)∧Below w.heap.size w w':=by
 obtain⟨AI,b0,l,i1,i2,i3,i4⟩:=qyw hI 0 2
 obtain⟨AA,b1,a1,a2,a3⟩:=qr4 hA 1
 have e3:∀ (k:Nat) (x:AV × Blk),l[k]?=some x→(b0::b1::l.map (·.2))[2+k]?=some x.2:=fun k x hx=>by
  rw[show 2+k=k+1+1 from by omega,List.getElem?_cons_succ,List.getElem?_cons_succ,List.getElem?_map,hx]
  rfl
 have m3:∀ (k:Nat) (x:AV × Blk),l[k]?=some x→emB (b0::b1::l.map (·.2)) (2+k)=x.2.map (·.1):=fun k x hx=>by
  unfold emB
  rw[e3 k x hx]
  rfl
 have hs:Sim w (emB (b0::b1::l.map (·.2))) (stB (b0::b1::l.map (·.2))) w:=by
  refine simB fun j p cs hj=>?_
  match j,hj with
  | 0,hj =>
   have hj:b0=some (p,cs):=by simpa using hj
   obtain⟨C,el,fz,hO,hc⟩:=i2 p cs hj
   exact⟨C,el,fz,hO,hc _ m3⟩
  | 1,hj=>exact a1.at (by simpa using hj) _
  | k+2,hj =>
   have hj:(l.map (·.2))[k]?=some (some (p,cs)):=by simpa using hj
   rw[List.getElem?_map] at hj
   cases hx:l[k]? with
   | none=>rw[hx] at hj;cases hj
   | some x =>
    rw[hx] at hj
    have hj:x.2=some (p,cs):=by simpa using hj
    exact (i1 x (List.mem_of_getElem? hx)).at hj _
 have g0:∀ (j:Nat) (b:Blk),(b0::b1::l.map (·.2))[j]?=some b→(stB (b0::b1::l.map (·.2))).h.get j=b.map (fun q=>AO.old q.2):=fun j b hj=>by
  rw[qb9,hj]
  rfl
 refine qqq (args:=[.agg [AI],AA]) (Args:=[.agg #[vI],vA]) hs ?_ (qxn ok3 qmz (im:=im) (zs:=zs) (L0:=q81 1 b1) (i4 _ (g0 0 b0 rfl) (fun k x hx=>g0 _ _ (e3 k x hx))) hp (a3 _ (fun q hq=>hq)) (fun q hq=>?_))
 ·refine VRels.cons ?_ (VRels.cons (a2 _ rfl) VRels.nil)
  simp only[VRel]
  exact⟨[vI],VRels.cons (i3 _ rfl) VRels.nil,rfl⟩
 ·have key:=g0 1 b1 rfl
  generalize stB (b0::b1::l.map (·.2))=σ at key ⊢
  cases hb:b1 with
  | none=>rw[hb] at hq;cases hq
  | some y =>
   rw[hb] at hq key
   have hq:=List.mem_singleton.1 hq
   subst hq
   exact⟨key,rfl⟩
end Go.AX
