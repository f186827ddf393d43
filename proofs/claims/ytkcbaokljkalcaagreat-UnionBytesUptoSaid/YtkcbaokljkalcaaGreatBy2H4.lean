import Derived.Shelf.SlSortCmp.WholeK
import Derived.Shelf.SlSortCmp.NoneTotal
import Derived.Shelf.SlGeneric
import Derived.Ground.SlsfProg
import Derived.Test.YtkcbaokljkalcaaGreatProg
import Derived.Test.YtkcbaokljkalcaaGreatBy2H2
import Derived.Test.YtkcbaokljkalcaaGreatBy2H3
import Derived.Test.YtkcbaokljkalcaaGreatBy2A5
set_option linter.unusedVariables false
set_option linter.unusedSimpArgs false
set_option linter.defProp false
namespace Go.Proofs
open Go.Shelf
def Tryz.laysSF_ren:Go.Shelf.Ren:=⟨fun|6=>145|15=>170|14=>169|28=>190|29=>191|20=>182|21=>183|22=>184|23=>185|24=>186|25=>187|26=>188|27=>189|46=>208|47=>209|48=>210|49=>211|50=>212|57=>222|n=>n,fun|22=>29|24=>34|25=>186|3=>3|39=>35|0=>0|53=>207|55=>210|4=>4|46=>216|45=>215|50=>220|5=>5|9=>9|66=>233|70=>237|76=>248|77=>87|n=>n,fun|n=>n⟩
theorem Tryz.laysSF:Go.Proofs.SlLaysF0.n6 Tryz.prog Tryz.laysSF_ren:={
 mixed:=by kernel_rfl
 f6:=⟨Tryz.f145.name,by decide,Tryz.func145.trans (congrArg some (by kernel_rfl))⟩
 f14:=⟨Tryz.f169.name,by decide,Tryz.func169.trans (congrArg some (by kernel_rfl))⟩
 f15:=Tryz.func170.trans (congrArg some (by kernel_rfl))
 f20:=⟨Tryz.f182.name,by decide,Tryz.func182.trans (congrArg some (by kernel_rfl))⟩
 f21:=⟨Tryz.f183.name,by decide,Tryz.func183.trans (congrArg some (by kernel_rfl))⟩
 f22:=⟨Tryz.f184.name,by decide,Tryz.func184.trans (congrArg some (by kernel_rfl))⟩
 f23:=⟨Tryz.f185.name,by decide,Tryz.func185.trans (congrArg some (by kernel_rfl))⟩
 f24:=⟨Tryz.f186.name,by decide,Tryz.func186.trans (congrArg some (by kernel_rfl))⟩
 f25:=⟨Tryz.f187.name,by decide,Tryz.func187.trans (congrArg some (by kernel_rfl))⟩
 f26:=⟨Tryz.f188.name,by decide,Tryz.func188.trans (congrArg some (by kernel_rfl))⟩
 f27:=⟨Tryz.f189.name,by decide,Tryz.func189.trans (congrArg some (by kernel_rfl))⟩
 f28:=Tryz.func190.trans (congrArg some (by kernel_rfl))
 f29:=Tryz.func191.trans (congrArg some (by kernel_rfl))
 f46:=⟨Tryz.f208.name,by decide,Tryz.func208.trans (congrArg some (by kernel_rfl))⟩
 f47:=Tryz.func209.trans (congrArg some (by kernel_rfl))
 f48:=Tryz.func210.trans (congrArg some (by kernel_rfl))
 f49:=⟨Tryz.f211.name,by decide,Tryz.func211.trans (congrArg some (by kernel_rfl))⟩
 f50:=⟨Tryz.f212.name,by decide,Tryz.func212.trans (congrArg some (by kernel_rfl))⟩
 f57:=⟨Tryz.f222.name,by decide,Tryz.func222.trans (congrArg some (by kernel_rfl))⟩
 t0:=Tryz.underlying0
 a0:=Tryz.isAgg0
 z0:=Tryz.sizeOf0
 v0:=Tryz.zeroValue0
 t3:=Tryz.underlying3
 a3:=Tryz.isAgg3
 z3:=Tryz.sizeOf3
 v3:=Tryz.zeroValue3
 t4:=Tryz.underlying4
 a4:=Tryz.isAgg4
 z4:=Tryz.sizeOf4
 v4:=Tryz.zeroValue4
 t5:=Tryz.underlying5
 a5:=Tryz.isAgg5
 z5:=Tryz.sizeOf5
 v5:=Tryz.zeroValue5
 t9:=Tryz.underlying9
 a9:=Tryz.isAgg9
 z9:=Tryz.sizeOf9
 v9:=Tryz.zeroValue9
 t22:=Tryz.underlying29
 a22:=Tryz.isAgg29
 z22:=Tryz.sizeOf29
 v22:=Tryz.zeroValue29
 t25:=Tryz.underlying186
 a25:=Tryz.isAgg186
 z25:=Tryz.sizeOf186
 v25:=Tryz.zeroValue186
 t39:=Tryz.underlying35
 a39:=Tryz.isAgg35
 z39:=Tryz.sizeOf35
 v39:=Tryz.zeroValue35
 t45:=Tryz.underlying215
 a45:=Tryz.isAgg215
 z45:=Tryz.sizeOf215
 v45:=Tryz.zeroValue215
 t46:=Tryz.underlying216
 a46:=Tryz.isAgg216
 z46:=Tryz.sizeOf216
 v46:=Tryz.zeroValue216
 t50:=Tryz.underlying220
 a50:=Tryz.isAgg220
 z50:=Tryz.sizeOf220
 v50:=Tryz.zeroValue220
 t53:=Tryz.underlying207
 a53:=Tryz.isAgg207
 z53:=Tryz.sizeOf207
 v53:=Tryz.zeroValue207
 t55:=Tryz.underlying210
 a55:=Tryz.isAgg210
 z55:=Tryz.sizeOf210
 v55:=Tryz.zeroValue210
 t66:=Tryz.underlying233
 a66:=Tryz.isAgg233
 z66:=Tryz.sizeOf233
 v66:=Tryz.zeroValue233
 t70:=Tryz.underlying237
 a70:=Tryz.isAgg237
 z70:=Tryz.sizeOf237
 v70:=Tryz.zeroValue237
 t76:=Tryz.underlying248
 a76:=Tryz.isAgg248
 z76:=Tryz.sizeOf248
 v76:=Tryz.zeroValue248
 t77:=Tryz.underlying87
 a77:=Tryz.isAgg87
 z77:=Tryz.sizeOf87
 v77:=Tryz.zeroValue87 }
end Go.Proofs
namespace Go.AX
open Go.Proofs Go.RowKit Go.Sort
set_option maxRecDepth 1000000
set_option maxHeartbeats 400000000
set_option linter.unusedSimpArgs false
set_option linter.unusedVariables false
theorem swoP {n:Nat}:SWO (ltOf fun (x y:EA n)=>YF x.1.1 y.1.1) where
 irrefl x:=by
  show decide (YF x.1.1 x.1.1 < 0)=false
  exact decide_eq_false Q1
 trans x y z h1 h2:=by
  have h1:YF x.1.1 y.1.1 < 0:=of_decide_eq_true h1
  have h2:YF y.1.1 z.1.1 < 0:=of_decide_eq_true h2
  exact decide_eq_true (show YF x.1.1 z.1.1 < 0 from Qi (show LtP _ _ from h1) (show LtP _ _ from h2))
 ntrans x y z h1 h2:=by
  have h1:¬ YF x.1.1 y.1.1 < 0:=of_decide_eq_false h1
  have h2:¬ YF y.1.1 z.1.1 < 0:=of_decide_eq_false h2
  refine decide_eq_false (show ¬ YF x.1.1 z.1.1 < 0 from ?_)
  show ¬ LtP (qq x.1.1) (qq z.1.1)
  intro h3
  by_cases e1:qq x.1.1=qq y.1.1
  ·rw[e1] at h3;exact h2 h3
  ·have:=Xx e1 h1
   exact h2 (Qi this h3)
theorem q37 (H:Ok TE Tryz.prog pr3) {e e':En} (h1:e.1.length≤140) (h2:e'.1.length≤140) {kr kp:AV→St→Bool} (hk:∀ s',kr (.raw (.int .i64 (YF e.1 e'.1))) s'=true) :
  (sem Tryz.prog).call 146 [.agg (Ww e),.agg (Ww e')] st0 kr kp=true:=by
 refine qp H 10 q16 rfl rfl ?_
 have B0:qc st0:=fun i o h=>by cases h
 have hB1:qc ((st0.alloc (.cells (celE e) 34 0)).alloc (.cells (celE e') 34 0)):=qx (qx B0 _) _
 have c1:((st0.alloc (.cells (celE e) 34 0)).alloc (.cells (celE e') 34 0)).h.get 0=some (.cells (celE e) 34 0):=(zg (show (0:Nat)≠1 by decide)).trans qu
 have c2:((st0.alloc (.cells (celE e) 34 0)).alloc (.cells (celE e') 34 0)).h.get 1=some (.cells (celE e') 34 0):=qu
 have e1:Ww e=celE e:=rfl
 have e2:Ww e'=celE e':=rfl
 have n0:st0.nx=0:=rfl
 have pa:=ZN (b:=e.1)
 have pb:=ZN (b:=e'.1)
 rw[e1,e2]
 repeat (first|with_reducible (refine q9 H ?_;constructor)|simp only[rB,rP,rQ,q8,qa,q7,qb,reduceIte,reduceCtorEq,Nat.reduceAdd,Nat.reduceLT,Nat.reduceEqDiff,UInt8.reduceToNat,pe3,pf3,qf,n0])
 generalize ((st0.alloc (.cells (celE e) 34 0)).alloc (.cells (celE e') 34 0))=s1 at *
 repeat (first|with_reducible (refine q9 H ?_;constructor)|simp only[rB,rP,rQ,q8,qa,q7,qb,reduceIte,reduceCtorEq,Nat.reduceAdd,Nat.reduceLT,Nat.reduceEqDiff,UInt8.reduceToNat,pe3,pf3,c1,c2,qg,qD,zm,ze])
 refine KQ H hB1 (by omega) (by omega) (by omega) (by omega) (fun s2 hE2 hB2=>?_)
 repeat (first|with_reducible (refine q9 H ?_;constructor)|simp only[rB,rP,rQ,q8,qa,q7,qb,reduceIte,reduceCtorEq,Nat.reduceAdd,Nat.reduceLT,Nat.reduceEqDiff,UInt8.reduceToNat,pe3,pf3,Tryz.results146])
 exact hk s2
theorem qg9:∀ {es:List En},Yi es=Q8 es
 | []=>rfl
 | e::l=>by
  show Ww e++Yi l=_
  rw[qg9]
  rfl
theorem qw5 {s:St} (H:Ok TE Tryz.prog pr3) {q cap fz:Nat} {ex:Bool} {es:List En} (hg:s.h.get q=some (.cells (Q8 es) 34 fz)) (hl:∀ e∈es,e.1.length≤140) (hsz:es.length < 1000000000) {kr kp:AV→St→Bool}
  (hk:∀ es':List En,es'.Perm es→es'.Pairwise (fun a b=>¬ YF b.1 a.1 < 0)→kr (.tuple []) { s with h:=s.h.set q (.cells (Q8 es') 34 fz) }=true) :
  (sem Tryz.prog).call 145 [.slice q 0 es.length 0 cap ex,.fn 146 []] s kr kp=true:=by
 rw[← qg9] at hg
 refine qvq (n:=140) (c:=fun a b=>YF a.1 b.1) (enters_of Tryz.func145 (by kernel_rfl) rfl)
  (fun blk off cap d w hcmp hH hblk hsz=>AnyQ.slices_SortFunc Tryz.laysSF 4 Tryz.isAgg34 Tryz.sizeOf34 (JI (n:=140)) qi4 qp8 (fun x y=>YF x.1.1 y.1.1) swoP 146 #[] blk off cap d w (enters_of Tryz.func146 (by kernel_rfl) rfl) hcmp hH hblk hsz)
  (fun x y kr kp h=>q37 H x.2.1 y.2.1 h) hg hl hsz (fun es' h1 h2=>?_)
 rw[qg9]
 exact hk es' h1 h2
theorem qn1 {P:Program} {f g:Nat} (hE:Qy P f) (hS:∀ w,Calls P f #[.slice none 0 0,.func (.func g) #[] #[]] w fun e w'=>e=.returned (.tuple #[])∧w'=w)
  {s:St} {kr kp:AV→St→Bool} (hk:kr (.tuple []) s=true):(sem P).call f [.raw (.slice none 0 0),.fn g []] s kr kp=true:=by
 refine sem_call.2 fun w0 w E Args R Rp hv hs hkr hkp=>⟨hE,ZK ?_⟩
 simp only[VRels,VRel] at hv
 obtain⟨V,Vs,rfl,⟨V2,Vs2,⟨C0,rfl,rfl⟩,rfl,rfl⟩,rfl⟩:=hv
 refine (hS w).mono fun e w' ⟨he,hw⟩=>?_
 subst he hw
 exact hkr E _ _ _ w' (Em.le_refl E) (by simp only[VRel,VRels];exact⟨[],rfl,rfl⟩) hs hk
theorem qwy {s:St} (H:Ok TE Tryz.prog pr3) {kr kp:AV→St→Bool} (hk:kr (.tuple []) s=true) :
  (sem Tryz.prog).call 145 [.raw (.slice none 0 0),.fn 146 []] s kr kp=true :=
 qn1 (enters_of Tryz.func145 (by kernel_rfl) rfl) (fun w=>AnyF.slices_SortFunc_none Tryz.laysSF none 0 _ w) hk
def qdx (seen:List Nat) (N:List (List Nat × En)) (ix:List Nat):List (Nat × (List Nat × En)):=(ix.zip N).filter fun y=>!qbs y.1 seen
theorem qgy {seen:List Nat}:∀ {N:List (List Nat × En)} {ix:List Nat},zE seen (zn agE N) ix=(qdx seen N ix).map fun y=>(y.1,(.str y.2.1,agE y.2.2))
 | [],ix=>by cases ix <;> rfl
 | q::N,[]=>rfl
 | q::N,k::ix=>by
  have ih:=qgy (seen:=seen) (N:=N) (ix:=ix)
  simp only[zn,qdx] at ih
  simp only[zn,List.map_cons,zE,qdx,List.zip_cons_cons,List.filter_cons]
  cases qbs k seen <;> simp[ih]
theorem qfr {y:Nat × (List Nat × En)} {seen:List Nat}:∀ {L:List (Nat × (List Nat × En))},(L.map (·.1)).Nodup→y∈L.filter (fun z=>!qbs z.1 seen)→(y::L.filter (fun z=>!qbs z.1 (y.1::seen))).Perm (L.filter (fun z=>!qbs z.1 seen))
 | [],_,h=>by simp at h
 | z::L,hn,h=>by
  simp only[List.map_cons,List.nodup_cons] at hn
  have ih:=qfr (y:=y) (seen:=seen) (L:=L) hn.2
  have hm:qbs z.1 (y.1::seen)=(bif Nat.beq z.1 y.1 then true else qbs z.1 seen):=rfl
  simp only[List.filter_cons,hm] at h ⊢
  cases hs:qbs z.1 seen with
  | true =>
   rw[hs] at h
   cases Nat.beq z.1 y.1 <;> simpa [hs] using ih (by simpa using h)
  | false =>
   rw[hs] at h
   simp only[Bool.not_false,if_true,List.mem_cons] at h ⊢
   cases hb:Nat.beq z.1 y.1 with
   | true =>
    have e:=Nat.eq_of_beq_eq_true hb
    have hyz:y=z:=by
     rcases h with h|h
     ·exact h
     ·exact absurd (List.mem_map.2 ⟨y,(List.mem_filter.1 h).1,e.symm⟩) hn.1
    have hc:L.filter (fun w=>!qbs w.1 (y.1::seen))=L.filter (fun w=>!qbs w.1 seen):=by
     refine List.filter_congr fun w hw=>?_
     have hne:Nat.beq w.1 y.1=false:=by
      cases hb2:Nat.beq w.1 y.1 with
      | false=>rfl
      | true =>
       have e2:=Nat.eq_of_beq_eq_true hb2
       exact absurd (List.mem_map.2 ⟨w,hw,e2.trans e.symm⟩) hn.1
     show (!(bif Nat.beq w.1 y.1 then true else qbs w.1 seen))=_
     rw[hne]
     rfl
    simp only[cond_true,Bool.not_true,Bool.false_eq_true,if_false,hc]
    rw[hyz]
   | false =>
    have h':y∈L.filter (fun w=>!qbs w.1 seen):=by
     rcases h with h|h
     ·subst h
      rw[Nat.beq_refl] at hb
      cases hb
     ·exact h
    simp only[cond_false,Bool.not_false,if_true]
    exact (List.Perm.swap z y _).trans (List.Perm.cons z (ih h'))
theorem LR.keep {s s':St} {fb nb kb it:Nat} {l:List (List Nat × En)} {ix seen:List Nat} {K:List (List Nat × Int)} (R:LR s fb nb kb it l ix seen K) (h:∀ i o,s.h.get i=some o→(match o with | .cells _ el _=>Nat.beq el 34|_=>false)=false→s'.h.get i=some o):LR s' fb nb kb it l ix seen K :=
 ⟨h _ _ R.f rfl,h _ _ R.n rfl,h _ _ R.i rfl,h _ _ R.k rfl⟩
theorem LR.ext {s s':St} {fb nb kb it:Nat} {l:List (List Nat × En)} {ix seen:List Nat} {K:List (List Nat × Int)} (R:LR s fb nb kb it l ix seen K) (hB:qc s) (h:Ext s s'):LR s' fb nb kb it l ix seen K :=
 ⟨(h.2 _ (hB _ _ R.f)).trans R.f,(h.2 _ (hB _ _ R.n)).trans R.n,(h.2 _ (hB _ _ R.i)).trans R.i,(h.2 _ (hB _ _ R.k)).trans R.k⟩
theorem ErB.ext {b:Nat} {s s':St} {V:AV} {acc:List En} (h:ErB b s V acc) (hB:qc s) (hE:Ext s s'):ErB b s' V acc:=by
 rcases h with h|⟨id,h1,h2,h3⟩
 ·exact Or.inl h
 ·exact Or.inr ⟨id,h1,h2,(hE.2 _ (hB _ _ h3)).trans h3⟩
theorem ErB.set {b:Nat} {s:St} {V:AV} {acc:List En} (h:ErB b s V acc) {i:Nat} {o x:AO} (hi:s.h.get i=some o) (ho:(match o with | .cells _ el _=>Nat.beq el 34|_=>false)=false):ErB b { s with h:=s.h.set i x } V acc:=by
 rcases h with h|⟨id,h1,h2,h3⟩
 ·exact Or.inl h
 ·refine Or.inr ⟨id,h1,h2,(qe ?_).trans h3⟩
  intro e
  rw[e,hi] at h3
  cases h3
  cases ho
theorem qzp {s:St} {e:En}:zq TE s 29 1 [(0,agE e)]=some (.slice s.nx 0 1 0 1 true,s.alloc (.cells (celE e) 34 0)):=qze
theorem qkm {s:St} (H:Ok TE Tryz.prog pr3) (hB:qc s) {fb nb kb:Nat} {N:List (List Nat × En)} {K:List (List Nat × Int)} (R:FR s fb nb kb N K) (hp:∀ q∈N,q.2.1.length≤140) (hlen:N.length≤20000) {kr kp:AV→St→Bool}
  (hk:∀ s' V es,Ext s s'→qc s'→ErB s.nx s' V es→es.Perm (N.map (·.2))→es.Pairwise (fun a b=>¬ YF b.1 a.1 < 0)→kr V s'=true) :
  (sem Tryz.prog).call 127 [.ptr fb 0] s kr kp=true:=by
 refine qp H 22 q29 rfl rfl ?_
 have f1:=R.f
 have rg:=qz6 R.n
 have hs:=hB _ _ R.n
 have hsk:=hB _ _ R.k
 have hsf:=hB _ _ R.f
 repeat (first|with_reducible (refine q9 H ?_;constructor)|simp only[rB,rP,rQ,q8,qa,q7,qb,reduceIte,reduceCtorEq,Nat.reduceAdd,Nat.reduceLT,Nat.reduceEqDiff,UInt8.reduceToNat,pe3,pf3,f1,qT,qC,qnd,rg])
 have el:(zn agE N).length=N.length:=by simp[zn]
 have L0:LR { h:=(s.h.set s.nx (.miter nb [])).set nb (.rmap (zn agE N) s.nx (zB (zn agE N).length 0)),nx:=s.nx+1 } fb nb kb s.nx N (zB N.length 0) [] K:=by
  rw[el]
  exact⟨(qe R.fn).trans ((qe (by omega)).trans R.f),hs_same,(qe (by omega)).trans hs_same,(qe R.d.symm).trans ((qe (by omega)).trans R.k)⟩
 have F0:∀ i,i < s.nx→i≠nb→((s.h.set s.nx (.miter nb [])).set nb (.rmap (zn agE N) s.nx (zB (zn agE N).length 0))).get i=s.h.get i:=fun i hi h1=>(qe h1).trans (qe (by omega))
 have B0:qc { h:=(s.h.set s.nx (.miter nb [])).set nb (.rmap (zn agE N) s.nx (zB (zn agE N).length 0)),nx:=s.nx+1 }:=by
  have:=qx hB (.miter nb [])
  exact qn this (by show nb < s.nx+1;omega) _
 have P0:(([]:List En)++(qdx [] N (zB N.length 0)).map (·.2.2)).Perm (N.map (·.2)):=by
  have h1:qdx [] N (zB N.length 0)=(zB N.length 0).zip N:=List.filter_eq_self.2 fun y _=>rfl
  have h2:((zB N.length 0).zip N).map (·.2)=N:=by rw[← List.unzip_snd,List.unzip_zip_right];rw[Jr];exact Nat.le_refl _
  have h3:((zB N.length 0).zip N).map (·.2.2)=N.map (·.2):=by
   conv=>rhs;rw[← h2]
   rw[List.map_map]
   rfl
  rw[h1,h3]
  exact List.Perm.refl _
 refine qB H (fun n t s'=>∃ acc seen V,n=(zE seen (zn agE N) (zB N.length 0)).length∧tg t 3=V∧tg t 10=.ptr s.nx 0∧LR s' fb nb kb s.nx N (zB N.length 0) seen K∧(∀ i,i < s.nx→i≠nb→s'.h.get i=s.h.get i)∧s.nx < s'.nx∧qc s'∧ErB s.nx s' V acc∧(acc++(qdx seen N (zB N.length 0)).map (·.2.2)).Perm (N.map (·.2))) (n:=(zE [] (zn agE N) (zB N.length 0)).length)
  ⟨[],[],_,rfl,by simp only[rB,rP,rQ,q8,qa,q7,qb,reduceIte,reduceCtorEq,Nat.reduceAdd,Nat.reduceLT,Nat.reduceEqDiff,UInt8.reduceToNat];rfl,by simp only[rB,rP,rQ,q8,qa,q7,qb,reduceIte,reduceCtorEq,Nat.reduceAdd,Nat.reduceLT,Nat.reduceEqDiff,UInt8.reduceToNat],L0,F0,Nat.lt_succ_self _,B0,Or.inl ⟨rfl,rfl⟩,P0⟩ ?_
 rintro n t s' ih ⟨acc,seen,V,hn,t3,t10,L,hF,hnx,hB',hE,hP⟩
 cases hl:zE seen (zn agE N) (zB N.length 0) with
 | nil =>
  have nk:=fun {k}=>qda (k:=k) L.i L.n hl
  have NE:=L.ne
  have E4:Ext s { s' with h:=s'.h.set nb (.map (zn agE N)) }:=by
   refine⟨Nat.le_of_lt hnx,fun i hi=>?_⟩
   by_cases h:i=nb
   ·subst h
    exact hs_same.trans R.n.symm
   ·exact (qe h).trans (hF i hi h)
  have B4:qc { s' with h:=s'.h.set nb (.map (zn agE N)) }:=qn hB' (hB' _ _ L.n) _
  have V4:ErB s.nx { s' with h:=s'.h.set nb (.map (zn agE N)) } V acc:=hE.set L.n rfl
  have P4:acc.Perm (N.map (·.2)):=by
   have:qdx seen N (zB N.length 0)=[]:=by
    rw[qgy] at hl
    exact List.map_eq_nil_iff.1 hl
   rw[this,List.map_nil,List.append_nil] at hP
   exact hP
  generalize ({ s' with h:=s'.h.set nb (.map (zn agE N)) }:St)=s4 at *
  repeat (first|with_reducible (refine q9 H ?_;constructor)|simp only[rB,rP,rQ,q8,qa,q7,qb,reduceIte,reduceCtorEq,Nat.reduceAdd,Nat.reduceLT,Nat.reduceEqDiff,UInt8.reduceToNat,pe3,pf3,t3,t10,qic,nk])
  rcases V4 with⟨rfl,rfl⟩|⟨id,v1,rfl,v2⟩
  ·refine qwy H ?_
   repeat (first|with_reducible (refine q9 H ?_;constructor)|simp only[rB,rP,rQ,q8,qa,q7,qb,reduceIte,reduceCtorEq,Nat.reduceAdd,Nat.reduceLT,Nat.reduceEqDiff,UInt8.reduceToNat,pe3,pf3,t3,Tryz.results127])
   exact hk s4 _ [] E4 B4 (Or.inl ⟨rfl,rfl⟩) P4 List.Pairwise.nil
  ·have pl:=P4.length_eq
   refine qw5 H v2 (fun e he=>?_) (by rw[List.length_map] at pl;omega) (fun es' p1 p2=>?_)
   ·have:=P4.mem_iff.1 he
    obtain⟨q,hq,rfl⟩:=List.mem_map.1 this
    exact hp q hq
   ·repeat (first|with_reducible (refine q9 H ?_;constructor)|simp only[rB,rP,rQ,q8,qa,q7,qb,reduceIte,reduceCtorEq,Nat.reduceAdd,Nat.reduceLT,Nat.reduceEqDiff,UInt8.reduceToNat,pe3,pf3,t3,Tryz.results127])
    refine hk _ _ es' ⟨E4.1,fun i hi=>(qe (by omega)).trans (E4.2 i hi)⟩ (qn B4 (B4 _ _ v2) _) (Or.inr ⟨id,v1,by rw[p1.length_eq],hs_same⟩) (p1.trans P4) p2
 | cons y0 ys =>
  have nk:=fun {k}=>qej (k:=k) L.i L.n (by rw[hl];simp)
  repeat (first|with_reducible (refine q9 H ?_;constructor)|simp only[rB,rP,rQ,q8,qa,q7,qb,reduceIte,reduceCtorEq,Nat.reduceAdd,Nat.reduceLT,Nat.reduceEqDiff,UInt8.reduceToNat,pe3,pf3,t3,t10,qic,nk])
  refine List.all_eq_true.2 (fun q hq=>?_)
  have hlt:=qco hq
  obtain⟨j,j1,j2,j3⟩:=Xn hq
  have hq':=hq
  rw[qgy] at hq'
  obtain⟨y,hy,hyq⟩:=List.mem_map.1 hq'
  subst hyq
  simp only at j1 j2 j3 hq hlt ⊢
  have nd:(((zB N.length 0).zip N).map (·.1)).Nodup:=by
   have:((zB N.length 0).zip N).map (·.1)=zB N.length 0:=by rw[← List.unzip_fst,List.unzip_zip_left];rw[Jr];exact Nat.le_refl _
   rw[this]
   exact Yr
  have hst:=qfr nd hy
  obtain⟨i,p,e⟩:=y
  simp only at j1 j2 j3 hq hlt hst ⊢
  have L1:=L.seen (seen':=i::seen)
  have B1:qc { s' with h:=s'.h.set s.nx (.miter nb (i::seen)) }:=qn hB' (hB' _ _ L.i) _
  have F1:∀ z,z < s.nx→z≠nb→(s'.h.set s.nx (.miter nb (i::seen))).get z=s.h.get z:=fun z hz h1=>(qe (by omega)).trans (hF z hz h1)
  have E1:ErB s.nx { s' with h:=s'.h.set s.nx (.miter nb (i::seen)) } V acc:=hE.set L.i rfl
  have F1':∀ z,z < s.nx→z≠nb→({ s' with h:=s'.h.set s.nx (.miter nb (i::seen)) }:St).h.get z=s.h.get z:=F1
  have n1:({ s' with h:=s'.h.set s.nx (.miter nb (i::seen)) }:St).nx=s'.nx:=rfl
  clear F1
  generalize ({ s' with h:=s'.h.set s.nx (.miter nb (i::seen)) }:St)=s1 at *
  have en:=qix L1.i L1.n (qbc Yr j1 j2)
  have ids:QB s1 [s.nx,nb]=true:=by simp[QB,L1.i,L1.n]
  have B2:qc { h:=(s1.alloc (.cells [.str [],.raw (.int .i64 0),.raw (.int .i64 0),.str []] 34 0)).h.set s1.nx (.cells (celE e) 34 0),nx:=s1.nx+1 }:=zy B1
  have X2:Ext s1 { h:=(s1.alloc (.cells [.str [],.raw (.int .i64 0),.raw (.int .i64 0),.str []] 34 0)).h.set s1.nx (.cells (celE e) 34 0),nx:=s1.nx+1 }:=Q7
  have c2:({ h:=(s1.alloc (.cells [.str [],.raw (.int .i64 0),.raw (.int .i64 0),.str []] 34 0)).h.set s1.nx (.cells (celE e) 34 0),nx:=s1.nx+1 }:St).h.get s1.nx=some (.cells (celE e) 34 0):=hs_same
  generalize hS2:({ h:=(s1.alloc (.cells [.str [],.raw (.int .i64 0),.raw (.int .i64 0),.str []] 34 0)).h.set s1.nx (.cells (celE e) 34 0),nx:=s1.nx+1 }:St)=s2 at *
  have X3:Ext s1 (s2.alloc (.cells (celE e) 34 0)):=X2.trans (Ext.alloc _ _)
  have B3:qc (s2.alloc (.cells (celE e) 34 0)):=qx B2 _
  have c3:(s2.alloc (.cells (celE e) 34 0)).h.get s2.nx=some (.cells (Q8 [e]) 34 0):=qu
  have L3:=L1.ext B1 X3
  have E3:=E1.ext B1 X3
  have bs:=qzp (s:=s2) (e:=e)
  generalize s2.alloc (.cells (celE e) 34 0)=s3 at *
  have hal:acc.length≤20000:=by
   have:=hP.length_eq
   simp only[List.length_append,List.length_map] at this
   omega
  obtain⟨V',s4,a1,a2,a3,a4,a5,a6,a7⟩:=qte (Nat.le_of_lt (by have:=X3.1;omega:s.nx < s3.nx)) B3 E3 hal c3
  repeat (first|with_reducible (refine q9 H ?_;constructor)|simp only[rB,rP,rQ,q8,qa,q7,qb,reduceIte,reduceCtorEq,Nat.reduceAdd,Nat.reduceLT,Nat.reduceEqDiff,UInt8.reduceToNat,pe3,pf3,t3,t10,qlp,en,q60,ids,cond_true,YK,VN,YI,hS2,c2,QM,Qe,bs,a1])
  refine ih _ _ _ (by rw[hn];exact hlt) ⟨acc++[e],i::seen,V',rfl,by simp only[rB,rP,rQ,q8,qa,q7,qb,reduceIte,reduceCtorEq,Nat.reduceAdd,Nat.reduceLT,Nat.reduceEqDiff,UInt8.reduceToNat],by simp only[rB,rP,rQ,q8,qa,q7,qb,reduceIte,reduceCtorEq,Nat.reduceAdd,Nat.reduceLT,Nat.reduceEqDiff,UInt8.reduceToNat,t10],L3.keep a5,fun z hz h1=>(a3.2.2 z hz).trans ((X3.2 z (by omega)).trans (F1' z hz h1)),by have:=a3.1;have:=X3.1;omega,a4,a2,?_⟩
  refine List.Perm.trans ?_ hP
  rw[List.append_assoc]
  refine List.Perm.append_left acc ?_
  have:=hst.map (·.2.2)
  simpa [qdx] using this
end Go.AX
