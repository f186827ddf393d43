import Derived.Test.YtkcbaokljkalcaaGreatAp3C2
set_option linter.unusedVariables false
set_option linter.unusedSimpArgs false
set_option linter.defProp false
namespace Go.AX
open Go.Proofs Go.RowKit
set_option maxRecDepth 1000000
set_option maxHeartbeats 40000000
set_option linter.unusedSimpArgs false
structure Mv where
 u:Nat
 old:List Nat
 j:Nat
 v:Nat
 nm:List Nat
 y:Option Nat
def yT (T:zi) (cwd:Nat) (dir:Bool) (k:Nat):Option (Option Nat):=match T k with
 | none=>none
 | some kd=>some (bif dir&&!decide (kd.kind=1) then some 3 else bif !dir&&decide (kd.kind=1) then some 4 else bif !kd.kids.isEmpty then some 6 else bif Nat.beq k cwd then some 13 else none)
def qkx (T:zi) (v:Nat) (nm:List Nat) (j:Nat):Option Bool:=match Qh T 20 v with
 | none=>none
 | some d=>match zM T 20 v with
  | none=>none
  | some pv=>bif Nat.ble d 900&&(Nat.ble (pv.length+nm.length) 1000000&&Nat.ble (zd pv nm).length 100000) then
    (bif Qy (d+1) (zd pv nm).length then Ja T (d+1) (zd pv nm).length 20 j [] else some false)
   else none
def qr8 (T:zi) (cwd u:Nat) (old:List Nat) (j:Nat) (jd:Nd) (v:Nat) (nm:List Nat) (y:Option Nat):Option (Nat ⊕ Option Mv) :=
 match (bif decide (jd.kind=1) then Zm T j 20 v else some false) with
 | none=>none
 | some true=>some (.inl 5)
 | some false=>match (match y with|none=>some none|some k=>yT T cwd (decide (jd.kind=1)) k) with
  | none=>none
  | some (some n)=>some (.inl n)
  | some none=>match qkx T v nm j with
   | none=>none
   | some false=>some (.inl 8)
   | some true=>bif Nat.beq j u||Nat.beq j v then none else some (.inr (some ⟨u,old,j,v,nm,y⟩))
def qsw (T:zi) (root cwd:Nat) (b b2:List Nat):Option (Nat ⊕ Option Mv):=match zy T root cwd b with
 | none=>none
 | some (.inr n)=>some (.inl n)
 | some (.inl (u,old))=>match zy T root cwd b2 with
  | none=>none
  | some (.inr n)=>some (.inl n)
  | some (.inl (v,nm))=>match T u with
   | none=>none
   | some ud=>match T v with
    | none=>none
    | some vd=>match ql old ud.kids with
     | none=>some (.inl 1)
     | some j=>match T j with
      | none=>none
      | some jd=>match ql nm vd.kids with
       | none=>qr8 T cwd u old j jd v nm none
       | some k=>match T k with
        | none=>none
        | some _=>bif Nat.beq k j then some (.inr none) else qr8 T cwd u old j jd v nm (some k)
def QK (u v:Nat) (old:List Nat) (ud vd:Nd):Nd:=bif Nat.beq u v then { ud with kids:=qH old ud.kids } else vd
theorem VH {s:St}:Qz TE s 3=some (.ptr s.nx 0,s.alloc (.cells [.raw (.int .i64 0)] 3 0)):=by
 have:zA TE 3=some (.raw (.int .i64 0)):=by kernel_rfl
 simp only[Qz,this];rfl
def two (s:St) (d l:Nat):St:={ h:=((((s.alloc (.cells [.raw (.int .i64 0)] 3 0)).alloc (.cells [.raw (.int .i64 0)] 3 0)).h.set s.nx (.cells [.raw (.int .i64 ((d+1:Nat):Int))] 3 0)).set (s.nx+1) (.cells [.raw (.int .i64 (l:Int))] 3 0)),nx:=s.nx+1+1 }
theorem qqp {s:St} {d l:Nat}:(two s d l).h.get s.nx=some (.cells [.raw (.int .i64 ((d+1:Nat):Int))] 3 0):=(qa (by omega)).trans hs_same
theorem qr1 {s:St} {d l:Nat}:(two s d l).h.get (s.nx+1)=some (.cells [.raw (.int .i64 (l:Int))] 3 0):=hs_same
theorem qb9 {s:St} {d l:Nat}:Ext s (two s d l):=⟨by show s.nx≤s.nx+1+1;omega,fun i hi=>(qa (by omega)).trans ((qa (by omega)).trans (((Ext.alloc s _).trans (Ext.alloc _ _)).2 i hi))⟩
theorem XO {s:St} {d l:Nat} (h:qb s):qb (two s d l):=qe (qe (qg (qg h _) _) (by show s.nx < s.nx+1+1;omega) _) (by show s.nx+1 < s.nx+1+1;omega) _
theorem qcf {s:St} (H:Ok TE Tryz.prog pr3) {T:zi} (hT:RepT s T) (hB:qb s) (hinj:∀ u v ud vd,T u=some ud→T v=some vd→ud.mp=vd.mp→u=v) {x root cwd:Nat} {f0 f1 f2 f3 f4 f5 f6 f7:AV} {many:Int} (hx:s.h.get x=some (.cells [.ptr root 0,.ptr cwd 0,f0,f1,f2,f3,f4,f5,f6,f7,.raw (.int .i64 many)] 120 0)) {cd:Nd} (hcd:T cwd=some cd) (hmany:-1000000≤many∧many≤1000000)
  {c:Cl} {out:Nat ⊕ Option Mv} (hf:qsw T root cwd c.path c.path2=some out) {kr kp:AV→St→Bool}
  (hq:∀ n s',out=.inl n→Ext s s'→qb s'→kp (.iface 110 (.raw (.int .i64 ((n:Nat):Int)))) s'=true)
  (hk0:∀ s',out=.inr none→Ext s s'→qb s'→kr (.agg (anL 0 0 0 0 [] nilS)) s'=true)
  (hk1:∀ m ud vd jd s',out=.inr (some m)→T m.u=some ud→T m.v=some vd→T m.j=some jd→m.j≠m.u→m.j≠m.v →
   s.nx≤s'.nx→s'.h.get m.j=some (ndA { jd with up:=some m.v,name:=m.nm })→s'.h.get vd.mp=some (.map (qL (setK m.nm m.j (QK m.u m.v m.old ud vd).kids)))→(m.u≠m.v→s'.h.get ud.mp=some (.map (qL (qH m.old ud.kids)))) →
   s'.h.get x=some (.cells [.ptr root 0,.ptr cwd 0,f0,f1,f2,f3,f4,f5,f6,f7,.raw (.int .i64 (bif m.y.isSome then many - 1 else many))] 120 0)→(∀ i,i < s.nx→i≠m.j→i≠ud.mp→i≠vd.mp→i≠x→s'.h.get i=s.h.get i)→qb s'→kr (.agg (anL 0 0 0 0 [] nilS)) s'=true) :
  (sem Tryz.prog).call 63 [.ptr x 0,.agg (clL c)] s kr kp=true:=by
 refine qk H 129 q6f rfl rfl ?_
 have m1:(s.nx=s.nx+1)=False:=by simp
 have m2:(s.nx+1=s.nx)=False:=by simp
 have hE:Ext s ((s.alloc (.cells (clL c) 41 0)).alloc (.cells (anL 0 0 0 0 [] nilS) 38 0)):=(Ext.alloc s _).trans (Ext.alloc _ _)
 have hB2:=qg (qg hB (.cells (clL c) 41 0)) (.cells (anL 0 0 0 0 [] nilS) 38 0)
 have hT2:=hT.ext hB hE
 have hx2:=(hE.2 x (hB x _ hx)).trans hx
 have hxs:=hB x _ hx
 unfold clL at hE hB2 hT2 hx2 ⊢
 repeat (first|with_reducible (refine q9 H ?_;constructor)|simp only[rB,rP,rQ,q8,qf,q7,qc,reduceIte,Nat.reduceAdd,Nat.reduceLT,Nat.reduceEqDiff,pe3,pf3,zn,qd,QD,qjk,qD,qA,m1,m2])
 unfold qsw at hf
 cases hp1:zy T root cwd c.path with
 | none=>rw[hp1] at hf;cases hf
 | some o1 =>
 rw[hp1] at hf
 refine Vx H hT2 hB2 hx2 hp1 (fun u old s1 h1 h2 h3=>?_) (fun n s1 h1 h2 h3=>?_)
 rotate_left
 ·subst h1
  simp only[Option.some.injEq] at hf
  repeat (first|with_reducible (refine q9 H ?_;constructor)|simp only[rB,rP,rQ,q8,qf,q7,qc,reduceIte,Nat.reduceAdd,Nat.reduceLT,Nat.reduceEqDiff,pe3,pf3])
  exact hq n s1 hf.symm (hE.trans h2) h3
 subst h1
 simp only at hf
 have c0:s1.h.get s.nx=some (.cells [.raw (.int .i64 c.op),.str c.path,.str c.path2,.raw (.int .i64 c.fd),.raw (.int .i64 c.off),.raw (.int .i64 c.num),.raw (.int .i64 c.mode),.str c.data] 41 0):=(h2.2 s.nx (by show s.nx < s.nx+1+1;omega)).trans ((zm (by show s.nx≠s.nx+1;omega)).trans qt)
 have c1':s1.h.get (s.nx+1)=some (.cells (anL 0 0 0 0 [] nilS) 38 0):=(h2.2 (s.nx+1) (by show s.nx+1 < s.nx+1+1;omega)).trans qt
 have hE1:=hE.trans h2
 have hx1:=(hE1.2 x hxs).trans hx
 repeat (first|with_reducible (refine q9 H ?_;constructor)|simp only[rB,rP,rQ,q8,qf,q7,qc,reduceIte,Nat.reduceAdd,Nat.reduceLT,Nat.reduceEqDiff,pe3,pf3,fc_2,qA,c0])
 cases hp2:zy T root cwd c.path2 with
 | none=>rw[hp2] at hf;cases hf
 | some o2 =>
 rw[hp2] at hf
 refine Vx H (hT.ext hB hE1) h3 hx1 hp2 (fun v nm s2 g1 g2 g3=>?_) (fun n s2 g1 g2 g3=>?_)
 rotate_left
 ·subst g1
  simp only[Option.some.injEq] at hf
  repeat (first|with_reducible (refine q9 H ?_;constructor)|simp only[rB,rP,rQ,q8,qf,q7,qc,reduceIte,Nat.reduceAdd,Nat.reduceLT,Nat.reduceEqDiff,pe3,pf3])
  exact hq n s2 hf.symm (hE1.trans g2) g3
 subst g1
 simp only at hf
 have c1:=(g2.2 (s.nx+1) (h3 _ _ c1')).trans c1'
 have hE2:=hE1.trans g2
 have hx3:=(hE2.2 x hxs).trans hx
 have hT3:=hT.ext hB hE2
 clear hE hB2 hT2 hx2 c0 c1' hx1 hE1
 have hlt:=g3 _ _ c1
 cases hu:T u with
 | none=>rw[hu] at hf;cases hf
 | some ud =>
 rw[hu] at hf
 simp only at hf
 cases hv:T v with
 | none=>rw[hv] at hf;cases hf
 | some vd =>
 rw[hv] at hf
 simp only at hf
 obtain⟨hn,hm⟩:=hT3 u ud hu
 obtain⟨vn,vm⟩:=hT3 v vd hv
 have lk:=Yq (p:=old) hm
 have lk2:=Yq (p:=nm) vm
 cases hl:ql old ud.kids with
 | none =>
  rw[hl] at lk hf
  simp only[Option.some.injEq] at hf
  repeat (first|with_reducible (refine q9 H ?_;constructor)|simp only[rB,rP,rQ,q8,qf,q7,qc,reduceIte,Nat.reduceAdd,Nat.reduceLT,Nat.reduceEqDiff,pe3,pf3,qD,qA,qK,qI,Qe,Q8,hn,hm,vn,vm,ndA,lk,lk2,QI,Vv,Q4,Zx,qJ]|(with_reducible refine qq H (i:=3) (.take 0 (.take 1 (.take 2 (.take 3 (.take 4 (.take 5 (.take 6 (.take 7 (.take 8 (.take 9 (.take 10 (.take 11 (.take 12 (.take 13 (.done))))))))))))))) rfl (by kernel_rfl) ?_)|(with_reducible refine qj H ?_))
  exact hq 1 s2 hf.symm hE2 g3
 | some j =>
 rw[hl] at lk hf
 simp only at hf
 cases hj:T j with
 | none=>rw[hj] at hf;cases hf
 | some jd =>
 rw[hj] at hf
 simp only at hf
 obtain⟨jn,jm⟩:=hT3 j jd hj
 have n1:(s2.nx+1=s2.nx)=False:=by simp
 have n2:(s2.nx=s2.nx+1)=False:=by simp
 have hxm:x≠ud.mp:=by
  intro hh
  rw[hh,hm] at hx3
  cases hx3
 have hxv:x≠vd.mp:=by
  intro hh
  rw[hh,vm] at hx3
  cases hx3
 have hxj:x≠j:=by
  intro hh
  rw[hh,jn] at hx3
  simp[ndA] at hx3
 cases hy:ql nm vd.kids with
 | none =>
  rw[hy] at lk2 hf
  simp only at hf
  unfold qr8 at hf
  by_cases hd:jd.kind=1
  ·have k1:(jd.kind==1)=true:=by rw[hd];rfl
   rw[decide_eq_true hd] at hf
   simp only[cond_true] at hf
   cases hbl:Zm T j 20 v with
   | none=>rw[hbl] at hf;cases hf
   | some bb =>
   rw[hbl] at hf
   cases bb with
   | true =>
    simp only[Option.some.injEq] at hf
    repeat (first|with_reducible (refine q9 H ?_;constructor)|simp only[rB,rP,rQ,q8,qf,q7,qc,reduceIte,Nat.reduceAdd,Nat.reduceLT,Nat.reduceEqDiff,pe3,pf3,qD,qA,qK,qI,Qe,Q8,hn,hm,vn,vm,jn,jm,ndA,lk,lk2,QI,qh,qB,zv,Zh,Zo,Q3,ZV,Vv,Qo,Q4,Zx,Qn,zw,qJ,k1]|(with_reducible refine qq H (i:=3) (.take 0 (.take 1 (.take 2 (.take 3 (.take 4 (.take 5 (.take 6 (.take 7 (.take 8 (.take 9 (.take 10 (.take 11 (.take 12 (.take 13 (.done))))))))))))))) rfl (by kernel_rfl) ?_)|(with_reducible refine qv H ?_)|(with_reducible refine YV H hT3 hj hbl ?_)|(with_reducible refine qj H ?_))
    exact hq 5 s2 hf.symm hE2 g3
   | false =>
   simp only at hf
   unfold qkx at hf
   cases hdp:Qh T 20 v with
   | none=>rw[hdp] at hf;cases hf
   | some d =>
   rw[hdp] at hf
   simp only at hf
   cases hpv:zM T 20 v with
   | none=>rw[hpv] at hf;cases hf
   | some pv =>
   rw[hpv] at hf
   simp only at hf
   cases hbd:(Nat.ble d 900&&(Nat.ble (pv.length+nm.length) 1000000&&Nat.ble (zd pv nm).length 100000)) with
   | false=>rw[hbd] at hf;cases hf
   | true =>
   rw[hbd] at hf
   simp only[cond_true] at hf
   simp only[Bool.and_eq_true] at hbd
   have hb1:=Nat.le_of_ble_eq_true hbd.1
   have hb2:=Nat.le_of_ble_eq_true hbd.2.2
   have ej:=fun {r a dst k kp}=>Yg (r:=r) (a:=a) (dst:=dst) (s:=s2) (k:=k) (kp:=kp) hbd.2.1
   have ew:IntKind.i64.wrap ((d:Int)+1)=((d+1:Nat):Int):=by
    rw[show (d:Int)+1=((d+1:Nat):Int) from by simp]
    exact qM (by omega)
   have hE3:Ext s2 (two s2 d (zd pv nm).length):=qb9
   have hB3:qb (two s2 d (zd pv nm).length):=XO g3
   cases hfit:Qy (d+1) (zd pv nm).length with
   | false =>
    rw[hfit] at hf
    simp only[cond_false,Option.some.injEq] at hf
    repeat (first|with_reducible (refine q9 H ?_;constructor)|simp only[rB,rP,rQ,q8,qf,q7,qc,reduceIte,Nat.reduceAdd,Nat.reduceLT,Nat.reduceEqDiff,pe3,pf3,qD,qA,qK,qI,Qe,Q8,hn,hm,vn,vm,jn,jm,ndA,lk,lk2,QI,qh,qB,zv,Zh,Zo,Q3,ZV,Vv,Qo,Q4,Zx,Qn,zw,qJ,k1,hx3,ej,ew,qO,qx,qf,VH,Yo,n1,n2,hfit]|(with_reducible refine qq H (i:=3) (.take 0 (.take 1 (.take 2 (.take 3 (.take 4 (.take 5 (.take 6 (.take 7 (.take 8 (.take 9 (.take 10 (.take 11 (.take 12 (.take 13 (.done))))))))))))))) rfl (by kernel_rfl) ?_)|(with_reducible refine qv H ?_)|(with_reducible refine YV H hT3 hj hbl ?_)|(with_reducible refine Z2 H hT3 hdp ?_)|(with_reducible refine Qu H hT3 hpv ?_)|(with_reducible refine QX H ?_)|(with_reducible refine qj H ?_))
    exact hq 8 _ hf.symm (hE2.trans hE3) hB3
   | true =>
   rw[hfit] at hf
   simp only[cond_true] at hf
   cases hev:Ja T (d+1) (zd pv nm).length 20 j [] with
   | none=>rw[hev] at hf;cases hf
   | some bb =>
   rw[hev] at hf
   repeat (first|with_reducible (refine q9 H ?_;constructor)|simp only[rB,rP,rQ,q8,qf,q7,qc,reduceIte,Nat.reduceAdd,Nat.reduceLT,Nat.reduceEqDiff,pe3,pf3,qD,qA,qK,qI,Qe,Q8,hn,hm,vn,vm,jn,jm,ndA,lk,lk2,QI,qh,qB,zv,Zh,Zo,Q3,ZV,Vv,Qo,Q4,Zx,Qn,zw,qJ,k1,hx3,ej,ew,qO,qx,qf,VH,Yo,n1,n2,hfit]|(with_reducible refine qq H (i:=3) (.take 0 (.take 1 (.take 2 (.take 3 (.take 4 (.take 5 (.take 6 (.take 7 (.take 8 (.take 9 (.take 10 (.take 11 (.take 12 (.take 13 (.done))))))))))))))) rfl (by kernel_rfl) ?_)|(with_reducible refine qv H ?_)|(with_reducible refine YV H hT3 hj hbl ?_)|(with_reducible refine Z2 H hT3 hdp ?_)|(with_reducible refine Qu H hT3 hpv ?_)|(with_reducible refine QX H ?_))
   refine qdr H (s:=two s2 d (zd pv nm).length) (by omega) hb2 hev (hT3.ext g3 hE3) hB3 qqp qr1 (fun s5 hbb hE5 hB5=>?_) (fun s5 hbb hE5 hB5=>?_)
   rotate_left
   ·subst hbb
    simp only[Option.some.injEq] at hf
    repeat (first|with_reducible (refine q9 H ?_;constructor)|simp only[rB,rP,rQ,q8,qf,q7,qc,reduceIte,Nat.reduceAdd,Nat.reduceLT,Nat.reduceEqDiff,pe3,pf3])
    exact hq 8 _ hf.symm ((hE2.trans hE3).trans hE5) hB5
   subst hbb
   simp only at hf
   cases hjj:(Nat.beq j u||Nat.beq j v) with
   | true=>rw[hjj] at hf;cases hf
   | false =>
   rw[hjj] at hf
   simp only[cond_false,Option.some.injEq] at hf
   rw[Bool.or_eq_false_iff] at hjj
   have hju:j≠u:=fun hh=>by rw[hh] at hjj;simp at hjj
   have hjv:j≠v:=fun hh=>by rw[hh] at hjj;simp at hjj
   have hE6:=(hE3.trans hE5)
   have hE7:=hE2.trans hE6
   obtain⟨hn5,hm5⟩:=(hT.ext hB hE7) u ud hu
   obtain⟨vn5,vm5⟩:=(hT.ext hB hE7) v vd hv
   obtain⟨jn5,jm5⟩:=(hT.ext hB hE7) j jd hj
   have hx5:=(hE7.2 x hxs).trans hx
   have c5:=(hE6.2 (s.nx+1) hlt).trans c1
   have hus:=hB _ _ (hT u ud hu).1
   have hms:=hB _ _ (hT u ud hu).2
   have hvs:=hB _ _ (hT v vd hv).1
   have hvm:=hB _ _ (hT v vd hv).2
   have hjs:=hB _ _ (hT j jd hj).1
   have hjm:=hB _ _ (hT j jd hj).2
   have dl:=KC hm5 hl
   have umj:j≠ud.mp:=fun hh=>by rw[← hh,jn5] at hm5;cases hm5
   have umv:v≠ud.mp:=fun hh=>by rw[← hh,vn5] at hm5;cases hm5
   have uvj:j≠vd.mp:=fun hh=>by rw[← hh,jn5] at vm5;cases vm5
   have hvx:v≠x:=fun hh=>by rw[hh,hx5] at vn5;simp[ndA] at vn5
   have w1:(x=ud.mp)=False:=by simp[hxm]
   have w2:(s.nx+1=ud.mp)=False:=by simp;omega
   have hNR:qfz { s5 with h:=s5.h.set ud.mp (.map (qL (qH old ud.kids))) } v (QK u v old ud vd):=by
    unfold QK
    by_cases huv:u=v
    ·subst huv
     rw[show Nat.beq u u=true from by simp]
     exact⟨(qa umv).trans hn5,hs_same⟩
    ·rw[Qk huv]
     exact⟨(qa umv).trans vn5,(qa (fun hh=>huv (hinj u v ud vd hu hv hh.symm))).trans vm5⟩
   have hjn:(({ s5 with h:=s5.h.set ud.mp (.map (qL (qH old ud.kids))) }:St)).h.get j=some (ndA jd):=(qa umj).trans jn5
   have hB6:qb { s5 with h:=s5.h.set ud.mp (.map (qL (qH old ud.kids))) }:=qe hB5 (hB5 _ _ hm5) _
   have hx6:(({ s5 with h:=s5.h.set ud.mp (.map (qL (qH old ud.kids))) }:St)).h.get x=some (.cells [.ptr root 0,.ptr cwd 0,f0,f1,f2,f3,f4,f5,f6,f7,.raw (.int .i64 many)] 120 0):=(qa hxm).trans hx5
   have hrest:∀ i,i < s.nx+2→i≠ud.mp→i≠x→(({ s5 with h:=s5.h.set ud.mp (.map (qL (qH old ud.kids))) }:St)).h.get i=s5.h.get i:=fun i _ a1 _=>qa a1
   have hum:(({ s5 with h:=s5.h.set ud.mp (.map (qL (qH old ud.kids))) }:St)).h.get ud.mp=some (.map (qL (qH old ud.kids))):=hs_same
   repeat (first|with_reducible (refine q9 H ?_;constructor)|simp only[rB,rP,rQ,q8,qf,q7,qc,reduceIte,Nat.reduceAdd,Nat.reduceLT,Nat.reduceEqDiff,pe3,pf3,qD,qK,qI,Q8,hn5,hm5,ndA,dl,Qo,Zo,ZV,Qn,zw,qJ,QI,qgn,hx5,w1,w2,Yo,zj])
   refine Vo H hB6 hNR hjn (fun hh=>hjv hh.symm) (fun s7 hnx hC hB7=>?_)
   obtain⟨_,hC1,hC2⟩:=hC
   have emp:(QK u v old ud vd).mp=vd.mp:=by
    unfold QK
    by_cases huv:u=v
    ·subst huv
     rw[hu] at hv
     cases hv
     rw[show Nat.beq u u=true from by simp]
     rfl
    ·rw[Qk huv]
     rfl
   rw[emp] at hC1 hC2
   have q1:=hC1 _ List.mem_cons_self
   have q2:=hC1 _ (List.mem_cons_of_mem _ List.mem_cons_self)
   simp only at q1 q2
   have hnx5:s.nx+2≤s5.nx:=by
    have:=hB5 _ _ c5
    omega
   have hC3:∀ i,i < s.nx+2→i≠j→i≠ud.mp→i≠vd.mp→i≠x→s7.h.get i=s5.h.get i:=fun i a0 a1 a2 a3 a4=>(hC2 i (by show i < s5.nx;omega) (by
    intro q hq
    simp only[List.mem_cons,List.not_mem_nil,or_false] at hq
    rcases hq with rfl|rfl
    ·exact a1
    ·exact a3)).trans (hrest i a0 a2 a4)
   have c7:s7.h.get (s.nx+1)=some (.cells (anL 0 0 0 0 [] nilS) 38 0):=(hC3 (s.nx+1) (by omega) (by omega) (by omega) (by omega) (by omega)).trans c5
   repeat (first|with_reducible (refine q9 H ?_;constructor)|simp only[rB,rP,rQ,q8,qf,q7,qc,reduceIte,Nat.reduceAdd,Nat.reduceLT,Nat.reduceEqDiff,pe3,pf3,c7,qha,Qj,zr,zb,zD,qY,Tryz.results63])
   refine hk1 _ ud vd jd _ hf.symm hu hv hj hju hjv (by show s.nx≤s7.nx;rw[hnx];show s.nx≤s5.nx;omega) ((qa (by show j≠s.nx+1;omega)).trans q1) ((qa (by omega)).trans q2) (fun huv=>(qa (by omega)).trans ?_) ((qa (by omega)).trans ?_) (fun i a0 a1 a2 a3 a4=>(qa (by omega)).trans ((hC3 i (by omega) a1 a2 a3 a4).trans (hE7.2 i a0))) (qe hB7 (hB7 _ _ c7) _)
   ·refine (hC2 ud.mp (by show ud.mp < s5.nx;omega) (by
     intro q hq
     simp only[List.mem_cons,List.not_mem_nil,or_false] at hq
     rcases hq with rfl|rfl
     ·exact fun hh=>umj hh.symm
     ·exact fun hh=>huv (hinj u v ud vd hu hv hh))).trans hum
   ·refine (hC2 x (by show x < s5.nx;omega) (by
     intro q hq
     simp only[List.mem_cons,List.not_mem_nil,or_false] at hq
     rcases hq with rfl|rfl
     ·exact hxj
     ·exact hxv)).trans hx6
  ·have k1:(jd.kind==1)=false:=by rw[beq_eq_false_iff_ne];exact hd
   rw[decide_eq_false hd] at hf
   simp only[cond_false] at hf
   unfold qkx at hf
   cases hdp:Qh T 20 v with
   | none=>rw[hdp] at hf;cases hf
   | some d =>
   rw[hdp] at hf
   simp only at hf
   cases hpv:zM T 20 v with
   | none=>rw[hpv] at hf;cases hf
   | some pv =>
   rw[hpv] at hf
   simp only at hf
   cases hbd:(Nat.ble d 900&&(Nat.ble (pv.length+nm.length) 1000000&&Nat.ble (zd pv nm).length 100000)) with
   | false=>rw[hbd] at hf;cases hf
   | true =>
   rw[hbd] at hf
   simp only[cond_true] at hf
   simp only[Bool.and_eq_true] at hbd
   have hb1:=Nat.le_of_ble_eq_true hbd.1
   have hb2:=Nat.le_of_ble_eq_true hbd.2.2
   have ej:=fun {r a dst k kp}=>Yg (r:=r) (a:=a) (dst:=dst) (s:=s2) (k:=k) (kp:=kp) hbd.2.1
   have ew:IntKind.i64.wrap ((d:Int)+1)=((d+1:Nat):Int):=by
    rw[show (d:Int)+1=((d+1:Nat):Int) from by simp]
    exact qM (by omega)
   have hE3:Ext s2 (two s2 d (zd pv nm).length):=qb9
   have hB3:qb (two s2 d (zd pv nm).length):=XO g3
   cases hfit:Qy (d+1) (zd pv nm).length with
   | false =>
    rw[hfit] at hf
    simp only[cond_false,Option.some.injEq] at hf
    repeat (first|with_reducible (refine q9 H ?_;constructor)|simp only[rB,rP,rQ,q8,qf,q7,qc,reduceIte,Nat.reduceAdd,Nat.reduceLT,Nat.reduceEqDiff,pe3,pf3,qD,qA,qK,qI,Qe,Q8,hn,hm,vn,vm,jn,jm,ndA,lk,lk2,QI,qh,qB,zv,Zh,Zo,Q3,ZV,Vv,Qo,Q4,Zx,Qn,zw,qJ,k1,hx3,ej,ew,qO,qx,qf,VH,Yo,n1,n2,hfit]|(with_reducible refine qq H (i:=3) (.take 0 (.take 1 (.take 2 (.take 3 (.take 4 (.take 5 (.take 6 (.take 7 (.take 8 (.take 9 (.take 10 (.take 11 (.take 12 (.take 13 (.done))))))))))))))) rfl (by kernel_rfl) ?_)|(with_reducible refine qv H ?_)|(with_reducible refine Z2 H hT3 hdp ?_)|(with_reducible refine Qu H hT3 hpv ?_)|(with_reducible refine QX H ?_)|(with_reducible refine qj H ?_))
    exact hq 8 _ hf.symm (hE2.trans hE3) hB3
   | true =>
   rw[hfit] at hf
   simp only[cond_true] at hf
   cases hev:Ja T (d+1) (zd pv nm).length 20 j [] with
   | none=>rw[hev] at hf;cases hf
   | some bb =>
   rw[hev] at hf
   repeat (first|with_reducible (refine q9 H ?_;constructor)|simp only[rB,rP,rQ,q8,qf,q7,qc,reduceIte,Nat.reduceAdd,Nat.reduceLT,Nat.reduceEqDiff,pe3,pf3,qD,qA,qK,qI,Qe,Q8,hn,hm,vn,vm,jn,jm,ndA,lk,lk2,QI,qh,qB,zv,Zh,Zo,Q3,ZV,Vv,Qo,Q4,Zx,Qn,zw,qJ,k1,hx3,ej,ew,qO,qx,qf,VH,Yo,n1,n2,hfit]|(with_reducible refine qq H (i:=3) (.take 0 (.take 1 (.take 2 (.take 3 (.take 4 (.take 5 (.take 6 (.take 7 (.take 8 (.take 9 (.take 10 (.take 11 (.take 12 (.take 13 (.done))))))))))))))) rfl (by kernel_rfl) ?_)|(with_reducible refine qv H ?_)|(with_reducible refine Z2 H hT3 hdp ?_)|(with_reducible refine Qu H hT3 hpv ?_)|(with_reducible refine QX H ?_))
   refine qdr H (s:=two s2 d (zd pv nm).length) (by omega) hb2 hev (hT3.ext g3 hE3) hB3 qqp qr1 (fun s5 hbb hE5 hB5=>?_) (fun s5 hbb hE5 hB5=>?_)
   rotate_left
   ·subst hbb
    simp only[Option.some.injEq] at hf
    repeat (first|with_reducible (refine q9 H ?_;constructor)|simp only[rB,rP,rQ,q8,qf,q7,qc,reduceIte,Nat.reduceAdd,Nat.reduceLT,Nat.reduceEqDiff,pe3,pf3])
    exact hq 8 _ hf.symm ((hE2.trans hE3).trans hE5) hB5
   subst hbb
   simp only at hf
   cases hjj:(Nat.beq j u||Nat.beq j v) with
   | true=>rw[hjj] at hf;cases hf
   | false =>
   rw[hjj] at hf
   simp only[cond_false,Option.some.injEq] at hf
   rw[Bool.or_eq_false_iff] at hjj
   have hju:j≠u:=fun hh=>by rw[hh] at hjj;simp at hjj
   have hjv:j≠v:=fun hh=>by rw[hh] at hjj;simp at hjj
   have hE6:=(hE3.trans hE5)
   have hE7:=hE2.trans hE6
   obtain⟨hn5,hm5⟩:=(hT.ext hB hE7) u ud hu
   obtain⟨vn5,vm5⟩:=(hT.ext hB hE7) v vd hv
   obtain⟨jn5,jm5⟩:=(hT.ext hB hE7) j jd hj
   have hx5:=(hE7.2 x hxs).trans hx
   have c5:=(hE6.2 (s.nx+1) hlt).trans c1
   have hus:=hB _ _ (hT u ud hu).1
   have hms:=hB _ _ (hT u ud hu).2
   have hvs:=hB _ _ (hT v vd hv).1
   have hvm:=hB _ _ (hT v vd hv).2
   have hjs:=hB _ _ (hT j jd hj).1
   have hjm:=hB _ _ (hT j jd hj).2
   have dl:=KC hm5 hl
   have umj:j≠ud.mp:=fun hh=>by rw[← hh,jn5] at hm5;cases hm5
   have umv:v≠ud.mp:=fun hh=>by rw[← hh,vn5] at hm5;cases hm5
   have uvj:j≠vd.mp:=fun hh=>by rw[← hh,jn5] at vm5;cases vm5
   have hvx:v≠x:=fun hh=>by rw[hh,hx5] at vn5;simp[ndA] at vn5
   have w1:(x=ud.mp)=False:=by simp[hxm]
   have w2:(s.nx+1=ud.mp)=False:=by simp;omega
   have hNR:qfz { s5 with h:=s5.h.set ud.mp (.map (qL (qH old ud.kids))) } v (QK u v old ud vd):=by
    unfold QK
    by_cases huv:u=v
    ·subst huv
     rw[show Nat.beq u u=true from by simp]
     exact⟨(qa umv).trans hn5,hs_same⟩
    ·rw[Qk huv]
     exact⟨(qa umv).trans vn5,(qa (fun hh=>huv (hinj u v ud vd hu hv hh.symm))).trans vm5⟩
   have hjn:(({ s5 with h:=s5.h.set ud.mp (.map (qL (qH old ud.kids))) }:St)).h.get j=some (ndA jd):=(qa umj).trans jn5
   have hB6:qb { s5 with h:=s5.h.set ud.mp (.map (qL (qH old ud.kids))) }:=qe hB5 (hB5 _ _ hm5) _
   have hx6:(({ s5 with h:=s5.h.set ud.mp (.map (qL (qH old ud.kids))) }:St)).h.get x=some (.cells [.ptr root 0,.ptr cwd 0,f0,f1,f2,f3,f4,f5,f6,f7,.raw (.int .i64 many)] 120 0):=(qa hxm).trans hx5
   have hrest:∀ i,i < s.nx+2→i≠ud.mp→i≠x→(({ s5 with h:=s5.h.set ud.mp (.map (qL (qH old ud.kids))) }:St)).h.get i=s5.h.get i:=fun i _ a1 _=>qa a1
   have hum:(({ s5 with h:=s5.h.set ud.mp (.map (qL (qH old ud.kids))) }:St)).h.get ud.mp=some (.map (qL (qH old ud.kids))):=hs_same
   repeat (first|with_reducible (refine q9 H ?_;constructor)|simp only[rB,rP,rQ,q8,qf,q7,qc,reduceIte,Nat.reduceAdd,Nat.reduceLT,Nat.reduceEqDiff,pe3,pf3,qD,qK,qI,Q8,hn5,hm5,ndA,dl,Qo,Zo,ZV,Qn,zw,qJ,QI,qgn,hx5,w1,w2,Yo,zj])
   refine Vo H hB6 hNR hjn (fun hh=>hjv hh.symm) (fun s7 hnx hC hB7=>?_)
   obtain⟨_,hC1,hC2⟩:=hC
   have emp:(QK u v old ud vd).mp=vd.mp:=by
    unfold QK
    by_cases huv:u=v
    ·subst huv
     rw[hu] at hv
     cases hv
     rw[show Nat.beq u u=true from by simp]
     rfl
    ·rw[Qk huv]
     rfl
   rw[emp] at hC1 hC2
   have q1:=hC1 _ List.mem_cons_self
   have q2:=hC1 _ (List.mem_cons_of_mem _ List.mem_cons_self)
   simp only at q1 q2
   have hnx5:s.nx+2≤s5.nx:=by
    have:=hB5 _ _ c5
    omega
   have hC3:∀ i,i < s.nx+2→i≠j→i≠ud.mp→i≠vd.mp→i≠x→s7.h.get i=s5.h.get i:=fun i a0 a1 a2 a3 a4=>(hC2 i (by show i < s5.nx;omega) (by
    intro q hq
    simp only[List.mem_cons,List.not_mem_nil,or_false] at hq
    rcases hq with rfl|rfl
    ·exact a1
    ·exact a3)).trans (hrest i a0 a2 a4)
   have c7:s7.h.get (s.nx+1)=some (.cells (anL 0 0 0 0 [] nilS) 38 0):=(hC3 (s.nx+1) (by omega) (by omega) (by omega) (by omega) (by omega)).trans c5
   repeat (first|with_reducible (refine q9 H ?_;constructor)|simp only[rB,rP,rQ,q8,qf,q7,qc,reduceIte,Nat.reduceAdd,Nat.reduceLT,Nat.reduceEqDiff,pe3,pf3,c7,qha,Qj,zr,zb,zD,qY,Tryz.results63])
   refine hk1 _ ud vd jd _ hf.symm hu hv hj hju hjv (by show s.nx≤s7.nx;rw[hnx];show s.nx≤s5.nx;omega) ((qa (by show j≠s.nx+1;omega)).trans q1) ((qa (by omega)).trans q2) (fun huv=>(qa (by omega)).trans ?_) ((qa (by omega)).trans ?_) (fun i a0 a1 a2 a3 a4=>(qa (by omega)).trans ((hC3 i (by omega) a1 a2 a3 a4).trans (hE7.2 i a0))) (qe hB7 (hB7 _ _ c7) _)
   ·refine (hC2 ud.mp (by show ud.mp < s5.nx;omega) (by
     intro q hq
     simp only[List.mem_cons,List.not_mem_nil,or_false] at hq
     rcases hq with rfl|rfl
     ·exact fun hh=>umj hh.symm
     ·exact fun hh=>huv (hinj u v ud vd hu hv hh))).trans hum
   ·refine (hC2 x (by show x < s5.nx;omega) (by
     intro q hq
     simp only[List.mem_cons,List.not_mem_nil,or_false] at hq
     rcases hq with rfl|rfl
     ·exact hxj
     ·exact hxv)).trans hx6
 | some k =>
  rw[hy] at lk2 hf
  simp only at hf
  cases hkk:T k with
  | none=>rw[hkk] at hf;cases hf
  | some kd =>
  rw[hkk] at hf
  simp only at hf
  obtain⟨kn,km⟩:=hT3 k kd hkk
  have ep:=fun {d}=>qlr (d:=d) jn kn
  have ei:zZ s2 [j,k]=true:=by simp[zZ,jn,kn]
  have lm:=qhc km
  by_cases hkj:k=j
  ·have bj:Nat.beq j k=true:=by rw[hkj];simp
   have bj':Nat.beq k j=true:=by rw[hkj];simp
   rw[bj'] at hf
   rw[bj] at ep
   simp only[cond_true,Option.some.injEq] at hf
   repeat (first|with_reducible (refine q9 H ?_;constructor)|simp only[rB,rP,rQ,q8,qf,q7,qc,reduceIte,Nat.reduceAdd,Nat.reduceLT,Nat.reduceEqDiff,pe3,pf3,qD,qA,qK,qI,Qe,Q8,hn,hm,vn,vm,jn,jm,ndA,lk,lk2,QI,qh,qB,zv,Zh,Zo,Q3,ZV,Vv,Qo,Q4,Zx,Qn,zw,qJ,kn,km,ep,zf ei,c1,qha,Qj,zr,zb,zD,qY,Tryz.results63]|(with_reducible refine qq H (i:=3) (.take 0 (.take 1 (.take 2 (.take 3 (.take 4 (.take 5 (.take 6 (.take 7 (.take 8 (.take 9 (.take 10 (.take 11 (.take 12 (.take 13 (.done))))))))))))))) rfl (by kernel_rfl) ?_)|(with_reducible refine qv H ?_))
   exact hk0 _ hf.symm ⟨hE2.1,fun i hi=>(qa (by omega)).trans (hE2.2 i hi)⟩ (qe g3 hlt _)
  have bj:Nat.beq j k=false:=Qk (fun hh=>hkj hh.symm)
  rw[Qk hkj] at hf
  rw[bj] at ep
  simp only[cond_false] at hf
  unfold qr8 at hf
  by_cases hd:jd.kind=1
  ·have k1:(jd.kind==1)=true:=by rw[hd];rfl
   rw[decide_eq_true hd] at hf
   simp only[cond_true] at hf
   cases hbl:Zm T j 20 v with
   | none=>rw[hbl] at hf;cases hf
   | some bb =>
   rw[hbl] at hf
   cases bb with
   | true =>
    simp only[Option.some.injEq] at hf
    repeat (first|with_reducible (refine q9 H ?_;constructor)|simp only[rB,rP,rQ,q8,qf,q7,qc,reduceIte,Nat.reduceAdd,Nat.reduceLT,Nat.reduceEqDiff,pe3,pf3,qD,qA,qK,qI,Qe,Q8,hn,hm,vn,vm,jn,jm,ndA,lk,lk2,QI,qh,qB,zv,Zh,Zo,Q3,ZV,Vv,Qo,Q4,Zx,Qn,zw,qJ,k1,kn,km,ep,zf ei,lm]|(with_reducible refine qq H (i:=3) (.take 0 (.take 1 (.take 2 (.take 3 (.take 4 (.take 5 (.take 6 (.take 7 (.take 8 (.take 9 (.take 10 (.take 11 (.take 12 (.take 13 (.done))))))))))))))) rfl (by kernel_rfl) ?_)|(with_reducible refine qv H ?_)|(with_reducible refine YV H hT3 hj hbl ?_)|(with_reducible refine qj H ?_))
    exact hq 5 s2 hf.symm hE2 g3
   | false =>
   simp only at hf
   unfold yT at hf
   rw[hkk] at hf
   simp only at hf
   by_cases hkd:kd.kind=1
   rotate_left
   ·have k2:(kd.kind != 1)=true:=by rw[bne_iff_ne];exact hkd
    rw[decide_eq_false hkd] at hf
    simp only[Bool.not_false,Bool.and_self,cond_true,Option.some.injEq] at hf
    repeat (first|with_reducible (refine q9 H ?_;constructor)|simp only[rB,rP,rQ,q8,qf,q7,qc,reduceIte,Nat.reduceAdd,Nat.reduceLT,Nat.reduceEqDiff,pe3,pf3,qD,qA,qK,qI,Qe,Q8,hn,hm,vn,vm,jn,jm,ndA,lk,lk2,QI,qh,qB,zv,Zh,Zo,Q3,ZV,Vv,Qo,Q4,Zx,Qn,zw,qJ,k1,kn,km,ep,zf ei,lm,k2]|(with_reducible refine qq H (i:=3) (.take 0 (.take 1 (.take 2 (.take 3 (.take 4 (.take 5 (.take 6 (.take 7 (.take 8 (.take 9 (.take 10 (.take 11 (.take 12 (.take 13 (.done))))))))))))))) rfl (by kernel_rfl) ?_)|(with_reducible refine qv H ?_)|(with_reducible refine YV H hT3 hj hbl ?_)|(with_reducible refine qj H ?_))
    exact hq 3 s2 hf.symm hE2 g3
   have k2:(kd.kind != 1)=false:=by rw[hkd];rfl
   rw[decide_eq_true hkd] at hf
   simp only[Bool.not_true,Bool.and_false,Bool.false_and,cond_false] at hf
   by_cases hks:kd.kids=[]
   rotate_left
   ·have k3:decide ((kd.kids.length:Int) > 0)=true:=by
     rw[decide_eq_true_eq]
     have:kd.kids.length≠0:=fun hh=>hks (List.eq_nil_of_length_eq_zero hh)
     omega
    have k4:kd.kids.isEmpty=false:=by rw[List.isEmpty_eq_false_iff];exact hks
    rw[k4] at hf
    simp only[Bool.not_false,cond_true,Option.some.injEq] at hf
    repeat (first|with_reducible (refine q9 H ?_;constructor)|simp only[rB,rP,rQ,q8,qf,q7,qc,reduceIte,Nat.reduceAdd,Nat.reduceLT,Nat.reduceEqDiff,pe3,pf3,qD,qA,qK,qI,Qe,Q8,hn,hm,vn,vm,jn,jm,ndA,lk,lk2,QI,qh,qB,zv,Zh,Zo,Q3,ZV,Vv,Qo,Q4,Zx,Qn,zw,qJ,k1,kn,km,ep,zf ei,lm,k2,k3]|(with_reducible refine qq H (i:=3) (.take 0 (.take 1 (.take 2 (.take 3 (.take 4 (.take 5 (.take 6 (.take 7 (.take 8 (.take 9 (.take 10 (.take 11 (.take 12 (.take 13 (.done))))))))))))))) rfl (by kernel_rfl) ?_)|(with_reducible refine qv H ?_)|(with_reducible refine YV H hT3 hj hbl ?_)|(with_reducible refine qj H ?_))
    exact hq 6 s2 hf.symm hE2 g3
   have k3:decide ((kd.kids.length:Int) > 0)=false:=by rw[hks];rfl
   rw[hks] at hf
   simp only[List.isEmpty_nil,Bool.not_true,cond_false] at hf
   obtain⟨cwn,cwm⟩:=hT3 cwd cd hcd
   have ep2:=fun {d}=>qlr (d:=d) kn cwn
   have ei2:zZ s2 [k,cwd]=true:=by simp[zZ,kn,cwn]
   by_cases hkc:k=cwd
   ·have bk:Nat.beq k cwd=true:=by rw[hkc];simp
    rw[bk] at ep2 hf
    simp only[cond_true,Option.some.injEq] at hf
    repeat (first|with_reducible (refine q9 H ?_;constructor)|simp only[rB,rP,rQ,q8,qf,q7,qc,reduceIte,Nat.reduceAdd,Nat.reduceLT,Nat.reduceEqDiff,pe3,pf3,qD,qA,qK,qI,Qe,Q8,hn,hm,vn,vm,jn,jm,ndA,lk,lk2,QI,qh,qB,zv,Zh,Zo,Q3,ZV,Vv,Qo,Q4,Zx,Qn,zw,qJ,k1,kn,km,ep,zf ei,lm,k2,k3,qlw,hx3,ep2,zf ei2]|(with_reducible refine qq H (i:=3) (.take 0 (.take 1 (.take 2 (.take 3 (.take 4 (.take 5 (.take 6 (.take 7 (.take 8 (.take 9 (.take 10 (.take 11 (.take 12 (.take 13 (.done))))))))))))))) rfl (by kernel_rfl) ?_)|(with_reducible refine qv H ?_)|(with_reducible refine YV H hT3 hj hbl ?_)|(with_reducible refine qj H ?_))
    exact hq 13 s2 hf.symm hE2 g3
   have bk:Nat.beq k cwd=false:=Qk hkc
   rw[bk] at ep2 hf
   simp only[cond_false] at hf
   unfold qkx at hf
   cases hdp:Qh T 20 v with
   | none=>rw[hdp] at hf;cases hf
   | some d =>
   rw[hdp] at hf
   simp only at hf
   cases hpv:zM T 20 v with
   | none=>rw[hpv] at hf;cases hf
   | some pv =>
   rw[hpv] at hf
   simp only at hf
   cases hbd:(Nat.ble d 900&&(Nat.ble (pv.length+nm.length) 1000000&&Nat.ble (zd pv nm).length 100000)) with
   | false=>rw[hbd] at hf;cases hf
   | true =>
   rw[hbd] at hf
   simp only[cond_true] at hf
   simp only[Bool.and_eq_true] at hbd
   have hb1:=Nat.le_of_ble_eq_true hbd.1
   have hb2:=Nat.le_of_ble_eq_true hbd.2.2
   have ej:=fun {r a dst k kp}=>Yg (r:=r) (a:=a) (dst:=dst) (s:=s2) (k:=k) (kp:=kp) hbd.2.1
   have ew:IntKind.i64.wrap ((d:Int)+1)=((d+1:Nat):Int):=by
    rw[show (d:Int)+1=((d+1:Nat):Int) from by simp]
    exact qM (by omega)
   have hE3:Ext s2 (two s2 d (zd pv nm).length):=qb9
   have hB3:qb (two s2 d (zd pv nm).length):=XO g3
   cases hfit:Qy (d+1) (zd pv nm).length with
   | false =>
    rw[hfit] at hf
    simp only[cond_false,Option.some.injEq] at hf
    repeat (first|with_reducible (refine q9 H ?_;constructor)|simp only[rB,rP,rQ,q8,qf,q7,qc,reduceIte,Nat.reduceAdd,Nat.reduceLT,Nat.reduceEqDiff,pe3,pf3,qD,qA,qK,qI,Qe,Q8,hn,hm,vn,vm,jn,jm,ndA,lk,lk2,QI,qh,qB,zv,Zh,Zo,Q3,ZV,Vv,Qo,Q4,Zx,Qn,zw,qJ,k1,kn,km,ep,zf ei,lm,k2,k3,qlw,hx3,ep2,zf ei2,ej,ew,qO,qx,qf,VH,Yo,n1,n2,hfit]|(with_reducible refine qq H (i:=3) (.take 0 (.take 1 (.take 2 (.take 3 (.take 4 (.take 5 (.take 6 (.take 7 (.take 8 (.take 9 (.take 10 (.take 11 (.take 12 (.take 13 (.done))))))))))))))) rfl (by kernel_rfl) ?_)|(with_reducible refine qv H ?_)|(with_reducible refine YV H hT3 hj hbl ?_)|(with_reducible refine Z2 H hT3 hdp ?_)|(with_reducible refine Qu H hT3 hpv ?_)|(with_reducible refine QX H ?_)|(with_reducible refine qj H ?_))
    exact hq 8 _ hf.symm (hE2.trans hE3) hB3
   | true =>
   rw[hfit] at hf
   simp only[cond_true] at hf
   cases hev:Ja T (d+1) (zd pv nm).length 20 j [] with
   | none=>rw[hev] at hf;cases hf
   | some bb =>
   rw[hev] at hf
   repeat (first|with_reducible (refine q9 H ?_;constructor)|simp only[rB,rP,rQ,q8,qf,q7,qc,reduceIte,Nat.reduceAdd,Nat.reduceLT,Nat.reduceEqDiff,pe3,pf3,qD,qA,qK,qI,Qe,Q8,hn,hm,vn,vm,jn,jm,ndA,lk,lk2,QI,qh,qB,zv,Zh,Zo,Q3,ZV,Vv,Qo,Q4,Zx,Qn,zw,qJ,k1,kn,km,ep,zf ei,lm,k2,k3,qlw,hx3,ep2,zf ei2,ej,ew,qO,qx,qf,VH,Yo,n1,n2,hfit]|(with_reducible refine qq H (i:=3) (.take 0 (.take 1 (.take 2 (.take 3 (.take 4 (.take 5 (.take 6 (.take 7 (.take 8 (.take 9 (.take 10 (.take 11 (.take 12 (.take 13 (.done))))))))))))))) rfl (by kernel_rfl) ?_)|(with_reducible refine qv H ?_)|(with_reducible refine YV H hT3 hj hbl ?_)|(with_reducible refine Z2 H hT3 hdp ?_)|(with_reducible refine Qu H hT3 hpv ?_)|(with_reducible refine QX H ?_))
   refine qdr H (s:=two s2 d (zd pv nm).length) (by omega) hb2 hev (hT3.ext g3 hE3) hB3 qqp qr1 (fun s5 hbb hE5 hB5=>?_) (fun s5 hbb hE5 hB5=>?_)
   rotate_left
   ·subst hbb
    simp only[Option.some.injEq] at hf
    repeat (first|with_reducible (refine q9 H ?_;constructor)|simp only[rB,rP,rQ,q8,qf,q7,qc,reduceIte,Nat.reduceAdd,Nat.reduceLT,Nat.reduceEqDiff,pe3,pf3])
    exact hq 8 _ hf.symm ((hE2.trans hE3).trans hE5) hB5
   subst hbb
   simp only at hf
   cases hjj:(Nat.beq j u||Nat.beq j v) with
   | true=>rw[hjj] at hf;cases hf
   | false =>
   rw[hjj] at hf
   simp only[cond_false,Option.some.injEq] at hf
   rw[Bool.or_eq_false_iff] at hjj
   have hju:j≠u:=fun hh=>by rw[hh] at hjj;simp at hjj
   have hjv:j≠v:=fun hh=>by rw[hh] at hjj;simp at hjj
   have hE6:=(hE3.trans hE5)
   have hE7:=hE2.trans hE6
   obtain⟨hn5,hm5⟩:=(hT.ext hB hE7) u ud hu
   obtain⟨vn5,vm5⟩:=(hT.ext hB hE7) v vd hv
   obtain⟨jn5,jm5⟩:=(hT.ext hB hE7) j jd hj
   have hx5:=(hE7.2 x hxs).trans hx
   have c5:=(hE6.2 (s.nx+1) hlt).trans c1
   have hus:=hB _ _ (hT u ud hu).1
   have hms:=hB _ _ (hT u ud hu).2
   have hvs:=hB _ _ (hT v vd hv).1
   have hvm:=hB _ _ (hT v vd hv).2
   have hjs:=hB _ _ (hT j jd hj).1
   have hjm:=hB _ _ (hT j jd hj).2
   have dl:=KC hm5 hl
   have umj:j≠ud.mp:=fun hh=>by rw[← hh,jn5] at hm5;cases hm5
   have umv:v≠ud.mp:=fun hh=>by rw[← hh,vn5] at hm5;cases hm5
   have uvj:j≠vd.mp:=fun hh=>by rw[← hh,jn5] at vm5;cases vm5
   have hvx:v≠x:=fun hh=>by rw[hh,hx5] at vn5;simp[ndA] at vn5
   have w1:(x=ud.mp)=False:=by simp[hxm]
   have w2:(s.nx+1=ud.mp)=False:=by simp;omega
   have ew2:IntKind.i64.wrap (many - 1)=many - 1:=Go.IntWalk.i64_in _ (by omega)
   have hNR:qfz { s5 with h:=(s5.h.set ud.mp (.map (qL (qH old ud.kids)))).set x (.cells [.ptr root 0,.ptr cwd 0,f0,f1,f2,f3,f4,f5,f6,f7,.raw (.int .i64 (many - 1))] 120 0) } v (QK u v old ud vd):=by
    unfold QK
    by_cases huv:u=v
    ·subst huv
     rw[show Nat.beq u u=true from by simp]
     exact⟨(qa hvx).trans ((qa umv).trans hn5),(qa (fun hh=>hxm hh.symm)).trans hs_same⟩
    ·rw[Qk huv]
     exact⟨(qa hvx).trans ((qa umv).trans vn5),(qa (fun hh=>hxv hh.symm)).trans ((qa (fun hh=>huv (hinj u v ud vd hu hv hh.symm))).trans vm5)⟩
   have hjn:(({ s5 with h:=(s5.h.set ud.mp (.map (qL (qH old ud.kids)))).set x (.cells [.ptr root 0,.ptr cwd 0,f0,f1,f2,f3,f4,f5,f6,f7,.raw (.int .i64 (many - 1))] 120 0) }:St)).h.get j=some (ndA jd):=(qa (fun hh=>hxj hh.symm)).trans ((qa umj).trans jn5)
   have hB6:qb { s5 with h:=(s5.h.set ud.mp (.map (qL (qH old ud.kids)))).set x (.cells [.ptr root 0,.ptr cwd 0,f0,f1,f2,f3,f4,f5,f6,f7,.raw (.int .i64 (many - 1))] 120 0) }:=qe (qe hB5 (hB5 _ _ hm5) _) (hB5 _ _ hx5) _
   have hx6:(({ s5 with h:=(s5.h.set ud.mp (.map (qL (qH old ud.kids)))).set x (.cells [.ptr root 0,.ptr cwd 0,f0,f1,f2,f3,f4,f5,f6,f7,.raw (.int .i64 (many - 1))] 120 0) }:St)).h.get x=some (.cells [.ptr root 0,.ptr cwd 0,f0,f1,f2,f3,f4,f5,f6,f7,.raw (.int .i64 (many - 1))] 120 0):=hs_same
   have hrest:∀ i,i < s.nx+2→i≠ud.mp→i≠x→(({ s5 with h:=(s5.h.set ud.mp (.map (qL (qH old ud.kids)))).set x (.cells [.ptr root 0,.ptr cwd 0,f0,f1,f2,f3,f4,f5,f6,f7,.raw (.int .i64 (many - 1))] 120 0) }:St)).h.get i=s5.h.get i:=fun i _ a1 a2=>(qa a2).trans (qa a1)
   have hum:(({ s5 with h:=(s5.h.set ud.mp (.map (qL (qH old ud.kids)))).set x (.cells [.ptr root 0,.ptr cwd 0,f0,f1,f2,f3,f4,f5,f6,f7,.raw (.int .i64 (many - 1))] 120 0) }:St)).h.get ud.mp=some (.map (qL (qH old ud.kids))):=(qa (fun hh=>hxm hh.symm)).trans hs_same
   repeat (first|with_reducible (refine q9 H ?_;constructor)|simp only[rB,rP,rQ,q8,qf,q7,qc,reduceIte,Nat.reduceAdd,Nat.reduceLT,Nat.reduceEqDiff,pe3,pf3,qD,qK,qI,Q8,hn5,hm5,ndA,dl,Qo,Zo,ZV,Qn,zw,qJ,QI,qgn,hx5,w1,w2,Yo,zj,ew2])
   refine Vo H hB6 hNR hjn (fun hh=>hjv hh.symm) (fun s7 hnx hC hB7=>?_)
   obtain⟨_,hC1,hC2⟩:=hC
   have emp:(QK u v old ud vd).mp=vd.mp:=by
    unfold QK
    by_cases huv:u=v
    ·subst huv
     rw[hu] at hv
     cases hv
     rw[show Nat.beq u u=true from by simp]
     rfl
    ·rw[Qk huv]
     rfl
   rw[emp] at hC1 hC2
   have q1:=hC1 _ List.mem_cons_self
   have q2:=hC1 _ (List.mem_cons_of_mem _ List.mem_cons_self)
   simp only at q1 q2
   have hnx5:s.nx+2≤s5.nx:=by
    have:=hB5 _ _ c5
    omega
   have hC3:∀ i,i < s.nx+2→i≠j→i≠ud.mp→i≠vd.mp→i≠x→s7.h.get i=s5.h.get i:=fun i a0 a1 a2 a3 a4=>(hC2 i (by show i < s5.nx;omega) (by
    intro q hq
    simp only[List.mem_cons,List.not_mem_nil,or_false] at hq
    rcases hq with rfl|rfl
    ·exact a1
    ·exact a3)).trans (hrest i a0 a2 a4)
   have c7:s7.h.get (s.nx+1)=some (.cells (anL 0 0 0 0 [] nilS) 38 0):=(hC3 (s.nx+1) (by omega) (by omega) (by omega) (by omega) (by omega)).trans c5
   repeat (first|with_reducible (refine q9 H ?_;constructor)|simp only[rB,rP,rQ,q8,qf,q7,qc,reduceIte,Nat.reduceAdd,Nat.reduceLT,Nat.reduceEqDiff,pe3,pf3,c7,qha,Qj,zr,zb,zD,qY,Tryz.results63])
   refine hk1 _ ud vd jd _ hf.symm hu hv hj hju hjv (by show s.nx≤s7.nx;rw[hnx];show s.nx≤s5.nx;omega) ((qa (by show j≠s.nx+1;omega)).trans q1) ((qa (by omega)).trans q2) (fun huv=>(qa (by omega)).trans ?_) ((qa (by omega)).trans ?_) (fun i a0 a1 a2 a3 a4=>(qa (by omega)).trans ((hC3 i (by omega) a1 a2 a3 a4).trans (hE7.2 i a0))) (qe hB7 (hB7 _ _ c7) _)
   ·refine (hC2 ud.mp (by show ud.mp < s5.nx;omega) (by
     intro q hq
     simp only[List.mem_cons,List.not_mem_nil,or_false] at hq
     rcases hq with rfl|rfl
     ·exact fun hh=>umj hh.symm
     ·exact fun hh=>huv (hinj u v ud vd hu hv hh))).trans hum
   ·refine (hC2 x (by show x < s5.nx;omega) (by
     intro q hq
     simp only[List.mem_cons,List.not_mem_nil,or_false] at hq
     rcases hq with rfl|rfl
     ·exact hxj
     ·exact hxv)).trans hx6
  ·have k1:(jd.kind==1)=false:=by rw[beq_eq_false_iff_ne];exact hd
   rw[decide_eq_false hd] at hf
   simp only[cond_false] at hf
   unfold yT at hf
   rw[hkk] at hf
   simp only at hf
   by_cases hkd:kd.kind=1
   ·have k2:(kd.kind==1)=true:=by rw[hkd];rfl
    rw[decide_eq_true hkd] at hf
    simp only[Bool.not_true,Bool.not_false,Bool.and_self,Bool.false_and,cond_true,cond_false,Option.some.injEq] at hf
    repeat (first|with_reducible (refine q9 H ?_;constructor)|simp only[rB,rP,rQ,q8,qf,q7,qc,reduceIte,Nat.reduceAdd,Nat.reduceLT,Nat.reduceEqDiff,pe3,pf3,qD,qA,qK,qI,Qe,Q8,hn,hm,vn,vm,jn,jm,ndA,lk,lk2,QI,qh,qB,zv,Zh,Zo,Q3,ZV,Vv,Qo,Q4,Zx,Qn,zw,qJ,k1,kn,km,ep,zf ei,lm,k2]|(with_reducible refine qq H (i:=3) (.take 0 (.take 1 (.take 2 (.take 3 (.take 4 (.take 5 (.take 6 (.take 7 (.take 8 (.take 9 (.take 10 (.take 11 (.take 12 (.take 13 (.done))))))))))))))) rfl (by kernel_rfl) ?_)|(with_reducible refine qv H ?_)|(with_reducible refine qj H ?_))
    exact hq 4 s2 hf.symm hE2 g3
   have k2:(kd.kind==1)=false:=by rw[beq_eq_false_iff_ne];exact hkd
   rw[decide_eq_false hkd] at hf
   simp only[Bool.not_false,Bool.false_and,Bool.and_false,cond_false] at hf
   by_cases hks:kd.kids=[]
   rotate_left
   ·have k3:decide ((kd.kids.length:Int) > 0)=true:=by
     rw[decide_eq_true_eq]
     have:kd.kids.length≠0:=fun hh=>hks (List.eq_nil_of_length_eq_zero hh)
     omega
    have k4:kd.kids.isEmpty=false:=by rw[List.isEmpty_eq_false_iff];exact hks
    rw[k4] at hf
    simp only[Bool.not_false,cond_true,Option.some.injEq] at hf
    repeat (first|with_reducible (refine q9 H ?_;constructor)|simp only[rB,rP,rQ,q8,qf,q7,qc,reduceIte,Nat.reduceAdd,Nat.reduceLT,Nat.reduceEqDiff,pe3,pf3,qD,qA,qK,qI,Qe,Q8,hn,hm,vn,vm,jn,jm,ndA,lk,lk2,QI,qh,qB,zv,Zh,Zo,Q3,ZV,Vv,Qo,Q4,Zx,Qn,zw,qJ,k1,kn,km,ep,zf ei,lm,k2,k3]|(with_reducible refine qq H (i:=3) (.take 0 (.take 1 (.take 2 (.take 3 (.take 4 (.take 5 (.take 6 (.take 7 (.take 8 (.take 9 (.take 10 (.take 11 (.take 12 (.take 13 (.done))))))))))))))) rfl (by kernel_rfl) ?_)|(with_reducible refine qv H ?_)|(with_reducible refine qj H ?_))
    exact hq 6 s2 hf.symm hE2 g3
   have k3:decide ((kd.kids.length:Int) > 0)=false:=by rw[hks];rfl
   rw[hks] at hf
   simp only[List.isEmpty_nil,Bool.not_true,cond_false] at hf
   obtain⟨cwn,cwm⟩:=hT3 cwd cd hcd
   have ep2:=fun {d}=>qlr (d:=d) kn cwn
   have ei2:zZ s2 [k,cwd]=true:=by simp[zZ,kn,cwn]
   by_cases hkc:k=cwd
   ·have bk:Nat.beq k cwd=true:=by rw[hkc];simp
    rw[bk] at ep2 hf
    simp only[cond_true,Option.some.injEq] at hf
    repeat (first|with_reducible (refine q9 H ?_;constructor)|simp only[rB,rP,rQ,q8,qf,q7,qc,reduceIte,Nat.reduceAdd,Nat.reduceLT,Nat.reduceEqDiff,pe3,pf3,qD,qA,qK,qI,Qe,Q8,hn,hm,vn,vm,jn,jm,ndA,lk,lk2,QI,qh,qB,zv,Zh,Zo,Q3,ZV,Vv,Qo,Q4,Zx,Qn,zw,qJ,k1,kn,km,ep,zf ei,lm,k2,k3,qlw,hx3,ep2,zf ei2]|(with_reducible refine qq H (i:=3) (.take 0 (.take 1 (.take 2 (.take 3 (.take 4 (.take 5 (.take 6 (.take 7 (.take 8 (.take 9 (.take 10 (.take 11 (.take 12 (.take 13 (.done))))))))))))))) rfl (by kernel_rfl) ?_)|(with_reducible refine qv H ?_)|(with_reducible refine qj H ?_))
    exact hq 13 s2 hf.symm hE2 g3
   have bk:Nat.beq k cwd=false:=Qk hkc
   rw[bk] at ep2 hf
   simp only[cond_false] at hf
   unfold qkx at hf
   cases hdp:Qh T 20 v with
   | none=>rw[hdp] at hf;cases hf
   | some d =>
   rw[hdp] at hf
   simp only at hf
   cases hpv:zM T 20 v with
   | none=>rw[hpv] at hf;cases hf
   | some pv =>
   rw[hpv] at hf
   simp only at hf
   cases hbd:(Nat.ble d 900&&(Nat.ble (pv.length+nm.length) 1000000&&Nat.ble (zd pv nm).length 100000)) with
   | false=>rw[hbd] at hf;cases hf
   | true =>
   rw[hbd] at hf
   simp only[cond_true] at hf
   simp only[Bool.and_eq_true] at hbd
   have hb1:=Nat.le_of_ble_eq_true hbd.1
   have hb2:=Nat.le_of_ble_eq_true hbd.2.2
   have ej:=fun {r a dst k kp}=>Yg (r:=r) (a:=a) (dst:=dst) (s:=s2) (k:=k) (kp:=kp) hbd.2.1
   have ew:IntKind.i64.wrap ((d:Int)+1)=((d+1:Nat):Int):=by
    rw[show (d:Int)+1=((d+1:Nat):Int) from by simp]
    exact qM (by omega)
   have hE3:Ext s2 (two s2 d (zd pv nm).length):=qb9
   have hB3:qb (two s2 d (zd pv nm).length):=XO g3
   cases hfit:Qy (d+1) (zd pv nm).length with
   | false =>
    rw[hfit] at hf
    simp only[cond_false,Option.some.injEq] at hf
    repeat (first|with_reducible (refine q9 H ?_;constructor)|simp only[rB,rP,rQ,q8,qf,q7,qc,reduceIte,Nat.reduceAdd,Nat.reduceLT,Nat.reduceEqDiff,pe3,pf3,qD,qA,qK,qI,Qe,Q8,hn,hm,vn,vm,jn,jm,ndA,lk,lk2,QI,qh,qB,zv,Zh,Zo,Q3,ZV,Vv,Qo,Q4,Zx,Qn,zw,qJ,k1,kn,km,ep,zf ei,lm,k2,k3,qlw,hx3,ep2,zf ei2,ej,ew,qO,qx,qf,VH,Yo,n1,n2,hfit]|(with_reducible refine qq H (i:=3) (.take 0 (.take 1 (.take 2 (.take 3 (.take 4 (.take 5 (.take 6 (.take 7 (.take 8 (.take 9 (.take 10 (.take 11 (.take 12 (.take 13 (.done))))))))))))))) rfl (by kernel_rfl) ?_)|(with_reducible refine qv H ?_)|(with_reducible refine Z2 H hT3 hdp ?_)|(with_reducible refine Qu H hT3 hpv ?_)|(with_reducible refine QX H ?_)|(with_reducible refine qj H ?_))
    exact hq 8 _ hf.symm (hE2.trans hE3) hB3
   | true =>
   rw[hfit] at hf
   simp only[cond_true] at hf
   cases hev:Ja T (d+1) (zd pv nm).length 20 j [] with
   | none=>rw[hev] at hf;cases hf
   | some bb =>
   rw[hev] at hf
   repeat (first|with_reducible (refine q9 H ?_;constructor)|simp only[rB,rP,rQ,q8,qf,q7,qc,reduceIte,Nat.reduceAdd,Nat.reduceLT,Nat.reduceEqDiff,pe3,pf3,qD,qA,qK,qI,Qe,Q8,hn,hm,vn,vm,jn,jm,ndA,lk,lk2,QI,qh,qB,zv,Zh,Zo,Q3,ZV,Vv,Qo,Q4,Zx,Qn,zw,qJ,k1,kn,km,ep,zf ei,lm,k2,k3,qlw,hx3,ep2,zf ei2,ej,ew,qO,qx,qf,VH,Yo,n1,n2,hfit]|(with_reducible refine qq H (i:=3) (.take 0 (.take 1 (.take 2 (.take 3 (.take 4 (.take 5 (.take 6 (.take 7 (.take 8 (.take 9 (.take 10 (.take 11 (.take 12 (.take 13 (.done))))))))))))))) rfl (by kernel_rfl) ?_)|(with_reducible refine qv H ?_)|(with_reducible refine Z2 H hT3 hdp ?_)|(with_reducible refine Qu H hT3 hpv ?_)|(with_reducible refine QX H ?_))
   refine qdr H (s:=two s2 d (zd pv nm).length) (by omega) hb2 hev (hT3.ext g3 hE3) hB3 qqp qr1 (fun s5 hbb hE5 hB5=>?_) (fun s5 hbb hE5 hB5=>?_)
   rotate_left
   ·subst hbb
    simp only[Option.some.injEq] at hf
    repeat (first|with_reducible (refine q9 H ?_;constructor)|simp only[rB,rP,rQ,q8,qf,q7,qc,reduceIte,Nat.reduceAdd,Nat.reduceLT,Nat.reduceEqDiff,pe3,pf3])
    exact hq 8 _ hf.symm ((hE2.trans hE3).trans hE5) hB5
   subst hbb
   simp only at hf
   cases hjj:(Nat.beq j u||Nat.beq j v) with
   | true=>rw[hjj] at hf;cases hf
   | false =>
   rw[hjj] at hf
   simp only[cond_false,Option.some.injEq] at hf
   rw[Bool.or_eq_false_iff] at hjj
   have hju:j≠u:=fun hh=>by rw[hh] at hjj;simp at hjj
   have hjv:j≠v:=fun hh=>by rw[hh] at hjj;simp at hjj
   have hE6:=(hE3.trans hE5)
   have hE7:=hE2.trans hE6
   obtain⟨hn5,hm5⟩:=(hT.ext hB hE7) u ud hu
   obtain⟨vn5,vm5⟩:=(hT.ext hB hE7) v vd hv
   obtain⟨jn5,jm5⟩:=(hT.ext hB hE7) j jd hj
   have hx5:=(hE7.2 x hxs).trans hx
   have c5:=(hE6.2 (s.nx+1) hlt).trans c1
   have hus:=hB _ _ (hT u ud hu).1
   have hms:=hB _ _ (hT u ud hu).2
   have hvs:=hB _ _ (hT v vd hv).1
   have hvm:=hB _ _ (hT v vd hv).2
   have hjs:=hB _ _ (hT j jd hj).1
   have hjm:=hB _ _ (hT j jd hj).2
   have dl:=KC hm5 hl
   have umj:j≠ud.mp:=fun hh=>by rw[← hh,jn5] at hm5;cases hm5
   have umv:v≠ud.mp:=fun hh=>by rw[← hh,vn5] at hm5;cases hm5
   have uvj:j≠vd.mp:=fun hh=>by rw[← hh,jn5] at vm5;cases vm5
   have hvx:v≠x:=fun hh=>by rw[hh,hx5] at vn5;simp[ndA] at vn5
   have w1:(x=ud.mp)=False:=by simp[hxm]
   have w2:(s.nx+1=ud.mp)=False:=by simp;omega
   have ew2:IntKind.i64.wrap (many - 1)=many - 1:=Go.IntWalk.i64_in _ (by omega)
   have hNR:qfz { s5 with h:=(s5.h.set ud.mp (.map (qL (qH old ud.kids)))).set x (.cells [.ptr root 0,.ptr cwd 0,f0,f1,f2,f3,f4,f5,f6,f7,.raw (.int .i64 (many - 1))] 120 0) } v (QK u v old ud vd):=by
    unfold QK
    by_cases huv:u=v
    ·subst huv
     rw[show Nat.beq u u=true from by simp]
     exact⟨(qa hvx).trans ((qa umv).trans hn5),(qa (fun hh=>hxm hh.symm)).trans hs_same⟩
    ·rw[Qk huv]
     exact⟨(qa hvx).trans ((qa umv).trans vn5),(qa (fun hh=>hxv hh.symm)).trans ((qa (fun hh=>huv (hinj u v ud vd hu hv hh.symm))).trans vm5)⟩
   have hjn:(({ s5 with h:=(s5.h.set ud.mp (.map (qL (qH old ud.kids)))).set x (.cells [.ptr root 0,.ptr cwd 0,f0,f1,f2,f3,f4,f5,f6,f7,.raw (.int .i64 (many - 1))] 120 0) }:St)).h.get j=some (ndA jd):=(qa (fun hh=>hxj hh.symm)).trans ((qa umj).trans jn5)
   have hB6:qb { s5 with h:=(s5.h.set ud.mp (.map (qL (qH old ud.kids)))).set x (.cells [.ptr root 0,.ptr cwd 0,f0,f1,f2,f3,f4,f5,f6,f7,.raw (.int .i64 (many - 1))] 120 0) }:=qe (qe hB5 (hB5 _ _ hm5) _) (hB5 _ _ hx5) _
   have hx6:(({ s5 with h:=(s5.h.set ud.mp (.map (qL (qH old ud.kids)))).set x (.cells [.ptr root 0,.ptr cwd 0,f0,f1,f2,f3,f4,f5,f6,f7,.raw (.int .i64 (many - 1))] 120 0) }:St)).h.get x=some (.cells [.ptr root 0,.ptr cwd 0,f0,f1,f2,f3,f4,f5,f6,f7,.raw (.int .i64 (many - 1))] 120 0):=hs_same
   have hrest:∀ i,i < s.nx+2→i≠ud.mp→i≠x→(({ s5 with h:=(s5.h.set ud.mp (.map (qL (qH old ud.kids)))).set x (.cells [.ptr root 0,.ptr cwd 0,f0,f1,f2,f3,f4,f5,f6,f7,.raw (.int .i64 (many - 1))] 120 0) }:St)).h.get i=s5.h.get i:=fun i _ a1 a2=>(qa a2).trans (qa a1)
   have hum:(({ s5 with h:=(s5.h.set ud.mp (.map (qL (qH old ud.kids)))).set x (.cells [.ptr root 0,.ptr cwd 0,f0,f1,f2,f3,f4,f5,f6,f7,.raw (.int .i64 (many - 1))] 120 0) }:St)).h.get ud.mp=some (.map (qL (qH old ud.kids))):=(qa (fun hh=>hxm hh.symm)).trans hs_same
   repeat (first|with_reducible (refine q9 H ?_;constructor)|simp only[rB,rP,rQ,q8,qf,q7,qc,reduceIte,Nat.reduceAdd,Nat.reduceLT,Nat.reduceEqDiff,pe3,pf3,qD,qK,qI,Q8,hn5,hm5,ndA,dl,Qo,Zo,ZV,Qn,zw,qJ,QI,qgn,hx5,w1,w2,Yo,zj,ew2])
   refine Vo H hB6 hNR hjn (fun hh=>hjv hh.symm) (fun s7 hnx hC hB7=>?_)
   obtain⟨_,hC1,hC2⟩:=hC
   have emp:(QK u v old ud vd).mp=vd.mp:=by
    unfold QK
    by_cases huv:u=v
    ·subst huv
     rw[hu] at hv
     cases hv
     rw[show Nat.beq u u=true from by simp]
     rfl
    ·rw[Qk huv]
     rfl
   rw[emp] at hC1 hC2
   have q1:=hC1 _ List.mem_cons_self
   have q2:=hC1 _ (List.mem_cons_of_mem _ List.mem_cons_self)
   simp only at q1 q2
   have hnx5:s.nx+2≤s5.nx:=by
    have:=hB5 _ _ c5
    omega
   have hC3:∀ i,i < s.nx+2→i≠j→i≠ud.mp→i≠vd.mp→i≠x→s7.h.get i=s5.h.get i:=fun i a0 a1 a2 a3 a4=>(hC2 i (by show i < s5.nx;omega) (by
    intro q hq
    simp only[List.mem_cons,List.not_mem_nil,or_false] at hq
    rcases hq with rfl|rfl
    ·exact a1
    ·exact a3)).trans (hrest i a0 a2 a4)
   have c7:s7.h.get (s.nx+1)=some (.cells (anL 0 0 0 0 [] nilS) 38 0):=(hC3 (s.nx+1) (by omega) (by omega) (by omega) (by omega) (by omega)).trans c5
   repeat (first|with_reducible (refine q9 H ?_;constructor)|simp only[rB,rP,rQ,q8,qf,q7,qc,reduceIte,Nat.reduceAdd,Nat.reduceLT,Nat.reduceEqDiff,pe3,pf3,c7,qha,Qj,zr,zb,zD,qY,Tryz.results63])
   refine hk1 _ ud vd jd _ hf.symm hu hv hj hju hjv (by show s.nx≤s7.nx;rw[hnx];show s.nx≤s5.nx;omega) ((qa (by show j≠s.nx+1;omega)).trans q1) ((qa (by omega)).trans q2) (fun huv=>(qa (by omega)).trans ?_) ((qa (by omega)).trans ?_) (fun i a0 a1 a2 a3 a4=>(qa (by omega)).trans ((hC3 i (by omega) a1 a2 a3 a4).trans (hE7.2 i a0))) (qe hB7 (hB7 _ _ c7) _)
   ·refine (hC2 ud.mp (by show ud.mp < s5.nx;omega) (by
     intro q hq
     simp only[List.mem_cons,List.not_mem_nil,or_false] at hq
     rcases hq with rfl|rfl
     ·exact fun hh=>umj hh.symm
     ·exact fun hh=>huv (hinj u v ud vd hu hv hh))).trans hum
   ·refine (hC2 x (by show x < s5.nx;omega) (by
     intro q hq
     simp only[List.mem_cons,List.not_mem_nil,or_false] at hq
     rcases hq with rfl|rfl
     ·exact hxj
     ·exact hxv)).trans hx6
end Go.AX
