import Derived.Shelf.SlSortCmp.WholeK
import Derived.Shelf.SlSortCmp.NoneTotal
import Derived.Shelf.SlGeneric
import Derived.Ground.SlsfProg
import Derived.Test.YtkcbaokljkalcaaGreatProg
import Derived.Test.YtkcbaokljkalcaaGreatAp3H2
import Derived.Test.YtkcbaokljkalcaaGreatAp3H3
import Derived.Test.YtkcbaokljkalcaaGreatAp3A5
set_option linter.unusedVariables false
set_option linter.unusedSimpArgs false
set_option linter.defProp false
namespace Go.Proofs
open Go.Shelf
def Tryz.laysSF_ren:Go.Shelf.Ren:=⟨fun|6=>145|15=>170|14=>169|28=>190|29=>191|20=>182|21=>183|22=>184|23=>185|24=>186|25=>187|26=>188|27=>189|46=>208|47=>209|48=>210|49=>211|50=>212|57=>222|n=>n,fun|22=>29|24=>34|25=>186|3=>3|39=>35|0=>0|53=>207|55=>210|4=>4|46=>216|45=>215|50=>220|5=>5|9=>9|66=>233|70=>237|76=>248|77=>87|n=>n,fun|n=>n⟩
theorem Tryz.laysSF:Go.Proofs.SlLaysF0.n6 Tryz.prog Tryz.laysSF_ren:={
 mixed:=by kernel_rfl
 f6:=⟨Tryz.f145.name,by decide,Tryz.func145.trans (congrArg some (by kernel_rfl))⟩
 f14:=⟨Tryz.f169.name,by decide,Tryz.func169.trans (congrArg some (by kernel_rfl))⟩
 f15:=Tryz.func170.trans (congrArg some (by kernel_rfl))
 f20:=⟨Tryz.f182.name,by decide,Tryz.func182.trans (congrArg some (by kernel_rfl))⟩
 f21:=⟨Tryz.f183.name,by decide,Tryz.func183.trans (congrArg some (by kernel_rfl))⟩
 f22:=⟨Tryz.f184.name,by decide,Tryz.func184.trans (congrArg some (by kernel_rfl))⟩
 f23:=⟨Tryz.f185.name,by decide,Tryz.func185.trans (congrArg some (by kernel_rfl))⟩
 f24:=⟨Tryz.f186.name,by decide,Tryz.func186.trans (congrArg some (by kernel_rfl))⟩
 f25:=⟨Tryz.f187.name,by decide,Tryz.func187.trans (congrArg some (by kernel_rfl))⟩
 f26:=⟨Tryz.f188.name,by decide,Tryz.func188.trans (congrArg some (by kernel_rfl))⟩
 f27:=⟨Tryz.f189.name,by decide,Tryz.func189.trans (congrArg some (by kernel_rfl))⟩
 f28:=Tryz.func190.trans (congrArg some (by kernel_rfl))
 f29:=Tryz.func191.trans (congrArg some (by kernel_rfl))
 f46:=⟨Tryz.f208.name,by decide,Tryz.func208.trans (congrArg some (by kernel_rfl))⟩
 f47:=Tryz.func209.trans (congrArg some (by kernel_rfl))
 f48:=Tryz.func210.trans (congrArg some (by kernel_rfl))
 f49:=⟨Tryz.f211.name,by decide,Tryz.func211.trans (congrArg some (by kernel_rfl))⟩
 f50:=⟨Tryz.f212.name,by decide,Tryz.func212.trans (congrArg some (by kernel_rfl))⟩
 f57:=⟨Tryz.f222.name,by decide,Tryz.func222.trans (congrArg some (by kernel_rfl))⟩
 t0:=Tryz.underlying0
 a0:=Tryz.isAgg0
 z0:=Tryz.sizeOf0
 v0:=Tryz.zeroValue0
 t3:=Tryz.underlying3
 a3:=Tryz.isAgg3
 z3:=Tryz.sizeOf3
 v3:=Tryz.zeroValue3
 t4:=Tryz.underlying4
 a4:=Tryz.isAgg4
 z4:=Tryz.sizeOf4
 v4:=Tryz.zeroValue4
 t5:=Tryz.underlying5
 a5:=Tryz.isAgg5
 z5:=Tryz.sizeOf5
 v5:=Tryz.zeroValue5
 t9:=Tryz.underlying9
 a9:=Tryz.isAgg9
 z9:=Tryz.sizeOf9
 v9:=Tryz.zeroValue9
 t22:=Tryz.underlying29
 a22:=Tryz.isAgg29
 z22:=Tryz.sizeOf29
 v22:=Tryz.zeroValue29
 t25:=Tryz.underlying186
 a25:=Tryz.isAgg186
 z25:=Tryz.sizeOf186
 v25:=Tryz.zeroValue186
 t39:=Tryz.underlying35
 a39:=Tryz.isAgg35
 z39:=Tryz.sizeOf35
 v39:=Tryz.zeroValue35
 t45:=Tryz.underlying215
 a45:=Tryz.isAgg215
 z45:=Tryz.sizeOf215
 v45:=Tryz.zeroValue215
 t46:=Tryz.underlying216
 a46:=Tryz.isAgg216
 z46:=Tryz.sizeOf216
 v46:=Tryz.zeroValue216
 t50:=Tryz.underlying220
 a50:=Tryz.isAgg220
 z50:=Tryz.sizeOf220
 v50:=Tryz.zeroValue220
 t53:=Tryz.underlying207
 a53:=Tryz.isAgg207
 z53:=Tryz.sizeOf207
 v53:=Tryz.zeroValue207
 t55:=Tryz.underlying210
 a55:=Tryz.isAgg210
 z55:=Tryz.sizeOf210
 v55:=Tryz.zeroValue210
 t66:=Tryz.underlying233
 a66:=Tryz.isAgg233
 z66:=Tryz.sizeOf233
 v66:=Tryz.zeroValue233
 t70:=Tryz.underlying237
 a70:=Tryz.isAgg237
 z70:=Tryz.sizeOf237
 v70:=Tryz.zeroValue237
 t76:=Tryz.underlying248
 a76:=Tryz.isAgg248
 z76:=Tryz.sizeOf248
 v76:=Tryz.zeroValue248
 t77:=Tryz.underlying87
 a77:=Tryz.isAgg87
 z77:=Tryz.sizeOf87
 v77:=Tryz.zeroValue87 }
end Go.Proofs
namespace Go.AX
open Go.Proofs Go.RowKit Go.Sort
set_option maxRecDepth 1000000
set_option maxHeartbeats 400000000
set_option linter.unusedSimpArgs false
set_option linter.unusedVariables false
theorem swoP {n:Nat}:SWO (ltOf fun (x y:EA n)=>Jh x.1.1 y.1.1) where
 irrefl x:=by
  show decide (Jh x.1.1 x.1.1 < 0)=false
  exact decide_eq_false Qt
 trans x y z h1 h2:=by
  have h1:Jh x.1.1 y.1.1 < 0:=of_decide_eq_true h1
  have h2:Jh y.1.1 z.1.1 < 0:=of_decide_eq_true h2
  exact decide_eq_true (show Jh x.1.1 z.1.1 < 0 from QU (show LtP _ _ from h1) (show LtP _ _ from h2))
 ntrans x y z h1 h2:=by
  have h1:¬ Jh x.1.1 y.1.1 < 0:=of_decide_eq_false h1
  have h2:¬ Jh y.1.1 z.1.1 < 0:=of_decide_eq_false h2
  refine decide_eq_false (show ¬ Jh x.1.1 z.1.1 < 0 from ?_)
  show ¬ LtP (qw x.1.1) (qw z.1.1)
  intro h3
  by_cases e1:qw x.1.1=qw y.1.1
  ·rw[e1] at h3;exact h2 h3
  ·have:=XS e1 h1
   exact h2 (QU this h3)
theorem q2t (H:Ok TE Tryz.prog pr3) {e e':En} (h1:e.1.length≤140) (h2:e'.1.length≤140) {kr kp:AV→St→Bool} (hk:∀ s',kr (.raw (.int .i64 (Jh e.1 e'.1))) s'=true) :
  (sem Tryz.prog).call 146 [.agg (WV e),.agg (WV e')] st0 kr kp=true:=by
 refine qk H 10 q13 rfl rfl ?_
 have B0:qb st0:=fun i o h=>by cases h
 have hB1:qb ((st0.alloc (.cells (celE e) 34 0)).alloc (.cells (celE e') 34 0)):=z8 (z8 B0 _) _
 have c1:((st0.alloc (.cells (celE e) 34 0)).alloc (.cells (celE e') 34 0)).h.get 0=some (.cells (celE e) 34 0):=(zm (show (0:Nat)≠1 by decide)).trans qt
 have c2:((st0.alloc (.cells (celE e) 34 0)).alloc (.cells (celE e') 34 0)).h.get 1=some (.cells (celE e') 34 0):=qt
 have e1:WV e=celE e:=rfl
 have e2:WV e'=celE e':=rfl
 have n0:st0.nx=0:=rfl
 have pa:=JC (b:=e.1)
 have pb:=JC (b:=e'.1)
 rw[e1,e2]
 repeat (first|with_reducible (refine q9 H ?_;constructor)|simp only[rB,rQ,reduceIte,Nat.reduceLT,Nat.reduceEqDiff,pe3,pf3,qd,n0])
 generalize ((st0.alloc (.cells (celE e) 34 0)).alloc (.cells (celE e') 34 0))=s1 at *
 repeat (first|with_reducible (refine q9 H ?_;constructor)|simp only[rB,rQ,reduceIte,Nat.reduceLT,Nat.reduceEqDiff,pe3,pf3,c1,c2,qi,qA,zW,zB])
 refine Wg H hB1 (by omega) (by omega) (by omega) (by omega) (fun s2 hE2 hB2=>?_)
 repeat (first|with_reducible (refine q9 H ?_;constructor)|simp only[rB,rQ,reduceIte,Nat.reduceLT,Nat.reduceEqDiff,pe3,pf3,Tryz.results146])
 exact hk s2
theorem qhm:∀ {es:List En},Yr es=Qm es
 | []=>rfl
 | e::l=>by
  show WV e++Yr l=_
  rw[qhm]
  rfl
theorem qvd {s:St} (H:Ok TE Tryz.prog pr3) {q cap fz:Nat} {ex:Bool} {es:List En} (hg:s.h.get q=some (.cells (Qm es) 34 fz)) (hl:∀ e∈es,e.1.length≤140) (hsz:es.length < 1000000000) {kr kp:AV→St→Bool}
  (hk:∀ es':List En,es'.Perm es→es'.Pairwise (fun a b=>¬ Jh b.1 a.1 < 0)→kr (.tuple []) { s with h:=s.h.set q (.cells (Qm es') 34 fz) }=true) :
  (sem Tryz.prog).call 145 [.slice q 0 es.length 0 cap ex,.fn 146 []] s kr kp=true:=by
 rw[← qhm] at hg
 refine qug (n:=140) (c:=fun a b=>Jh a.1 b.1) (enters_of Tryz.func145 (by kernel_rfl) rfl)
  (fun blk off cap d w hcmp hH hblk hsz=>AnyQ.slices_SortFunc Tryz.laysSF 4 Tryz.isAgg34 Tryz.sizeOf34 (Xi (n:=140)) qh2 qqo (fun x y=>Jh x.1.1 y.1.1) swoP 146 #[] blk off cap d w (enters_of Tryz.func146 (by kernel_rfl) rfl) hcmp hH hblk hsz)
  (fun x y kr kp h=>q2t H x.2.1 y.2.1 h) hg hl hsz (fun es' h1 h2=>?_)
 rw[qhm]
 exact hk es' h1 h2
theorem qna {P:Program} {f g:Nat} (hE:QN P f) (hS:∀ w,Calls P f #[.slice none 0 0,.func (.func g) #[] #[]] w fun e w'=>e=.returned (.tuple #[])∧w'=w)
  {s:St} {kr kp:AV→St→Bool} (hk:kr (.tuple []) s=true):(sem P).call f [.raw (.slice none 0 0),.fn g []] s kr kp=true:=by
 refine sem_call.2 fun w0 w E Args R Rp hv hs hkr hkp=>⟨hE,Ye ?_⟩
 simp only[VRels,VRel] at hv
 obtain⟨V,Vs,rfl,⟨V2,Vs2,⟨C0,rfl,rfl⟩,rfl,rfl⟩,rfl⟩:=hv
 refine (hS w).mono fun e w' ⟨he,hw⟩=>?_
 subst he hw
 exact hkr E _ _ _ w' (Em.le_refl E) (by simp only[VRel,VRels];exact⟨[],rfl,rfl⟩) hs hk
theorem qvv {s:St} (H:Ok TE Tryz.prog pr3) {kr kp:AV→St→Bool} (hk:kr (.tuple []) s=true) :
  (sem Tryz.prog).call 145 [.raw (.slice none 0 0),.fn 146 []] s kr kp=true :=
 qna (enters_of Tryz.func145 (by kernel_rfl) rfl) (fun w=>AnyF.slices_SortFunc_none Tryz.laysSF none 0 _ w) hk
def qd3 (seen:List Nat) (N:List (List Nat × En)) (ix:List Nat):List (Nat × (List Nat × En)):=(ix.zip N).filter fun y=>!qdc y.1 seen
theorem qhx {seen:List Nat}:∀ {N:List (List Nat × En)} {ix:List Nat},zR seen (zK agE N) ix=(qd3 seen N ix).map fun y=>(y.1,(.str y.2.1,agE y.2.2))
 | [],ix=>by cases ix <;> rfl
 | q::N,[]=>rfl
 | q::N,k::ix=>by
  have ih:=qhx (seen:=seen) (N:=N) (ix:=ix)
  simp only[zK,qd3] at ih
  simp only[zK,List.map_cons,zR,qd3,List.zip_cons_cons,List.filter_cons]
  cases qdc k seen <;> simp[ih]
theorem qer {y:Nat × (List Nat × En)} {seen:List Nat}:∀ {L:List (Nat × (List Nat × En))},(L.map (·.1)).Nodup→y∈L.filter (fun z=>!qdc z.1 seen)→(y::L.filter (fun z=>!qdc z.1 (y.1::seen))).Perm (L.filter (fun z=>!qdc z.1 seen))
 | [],_,h=>by simp at h
 | z::L,hn,h=>by
  simp only[List.map_cons,List.nodup_cons] at hn
  have ih:=qer (y:=y) (seen:=seen) (L:=L) hn.2
  have hm:qdc z.1 (y.1::seen)=(bif Nat.beq z.1 y.1 then true else qdc z.1 seen):=rfl
  simp only[List.filter_cons,hm] at h ⊢
  cases hs:qdc z.1 seen with
  | true =>
   rw[hs] at h
   cases Nat.beq z.1 y.1 <;> simpa [hs] using ih (by simpa using h)
  | false =>
   rw[hs] at h
   simp only[Bool.not_false,if_true,List.mem_cons] at h ⊢
   cases hb:Nat.beq z.1 y.1 with
   | true =>
    have e:=Nat.eq_of_beq_eq_true hb
    have hyz:y=z:=by
     rcases h with h|h
     ·exact h
     ·exact absurd (List.mem_map.2 ⟨y,(List.mem_filter.1 h).1,e.symm⟩) hn.1
    have hc:L.filter (fun w=>!qdc w.1 (y.1::seen))=L.filter (fun w=>!qdc w.1 seen):=by
     refine List.filter_congr fun w hw=>?_
     have hne:Nat.beq w.1 y.1=false:=by
      cases hb2:Nat.beq w.1 y.1 with
      | false=>rfl
      | true =>
       have e2:=Nat.eq_of_beq_eq_true hb2
       exact absurd (List.mem_map.2 ⟨w,hw,e2.trans e.symm⟩) hn.1
     show (!(bif Nat.beq w.1 y.1 then true else qdc w.1 seen))=_
     rw[hne]
     rfl
    simp only[cond_true,Bool.not_true,Bool.false_eq_true,if_false,hc]
    rw[hyz]
   | false =>
    have h':y∈L.filter (fun w=>!qdc w.1 seen):=by
     rcases h with h|h
     ·subst h
      rw[Nat.beq_refl] at hb
      cases hb
     ·exact h
    simp only[cond_false,Bool.not_false,if_true]
    exact (List.Perm.swap z y _).trans (List.Perm.cons z (ih h'))
theorem LR.keep {s s':St} {fb nb kb it:Nat} {l:List (List Nat × En)} {ix seen:List Nat} {K:List (List Nat × Int)} (R:LR s fb nb kb it l ix seen K) (h:∀ i o,s.h.get i=some o→(match o with | .cells _ el _=>Nat.beq el 34|_=>false)=false→s'.h.get i=some o):LR s' fb nb kb it l ix seen K :=
 ⟨h _ _ R.f rfl,h _ _ R.n rfl,h _ _ R.i rfl,h _ _ R.k rfl⟩
theorem LR.ext {s s':St} {fb nb kb it:Nat} {l:List (List Nat × En)} {ix seen:List Nat} {K:List (List Nat × Int)} (R:LR s fb nb kb it l ix seen K) (hB:qb s) (h:Ext s s'):LR s' fb nb kb it l ix seen K :=
 ⟨(h.2 _ (hB _ _ R.f)).trans R.f,(h.2 _ (hB _ _ R.n)).trans R.n,(h.2 _ (hB _ _ R.i)).trans R.i,(h.2 _ (hB _ _ R.k)).trans R.k⟩
theorem ErB.ext {b:Nat} {s s':St} {V:AV} {acc:List En} (h:ErB b s V acc) (hB:qb s) (hE:Ext s s'):ErB b s' V acc:=by
 rcases h with h|⟨id,h1,h2,h3⟩
 ·exact Or.inl h
 ·exact Or.inr ⟨id,h1,h2,(hE.2 _ (hB _ _ h3)).trans h3⟩
theorem ErB.set {b:Nat} {s:St} {V:AV} {acc:List En} (h:ErB b s V acc) {i:Nat} {o x:AO} (hi:s.h.get i=some o) (ho:(match o with | .cells _ el _=>Nat.beq el 34|_=>false)=false):ErB b { s with h:=s.h.set i x } V acc:=by
 rcases h with h|⟨id,h1,h2,h3⟩
 ·exact Or.inl h
 ·refine Or.inr ⟨id,h1,h2,(qa ?_).trans h3⟩
  intro e
  rw[e,hi] at h3
  cases h3
  cases ho
theorem qzl {s:St} {e:En}:Q6 TE s 29 1 [(0,agE e)]=some (.slice s.nx 0 1 0 1 true,s.alloc (.cells (celE e) 34 0)):=qzg
theorem qkf {s:St} (H:Ok TE Tryz.prog pr3) (hB:qb s) {fb nb kb:Nat} {N:List (List Nat × En)} {K:List (List Nat × Int)} (R:FR s fb nb kb N K) (hp:∀ q∈N,q.2.1.length≤140) (hlen:N.length≤20000) {kr kp:AV→St→Bool}
  (hk:∀ s' V es,Ext s s'→qb s'→ErB s.nx s' V es→es.Perm (N.map (·.2))→es.Pairwise (fun a b=>¬ Jh b.1 a.1 < 0)→kr V s'=true) :
  (sem Tryz.prog).call 127 [.ptr fb 0] s kr kp=true:=by
 refine qk H 22 qx7 rfl rfl ?_
 have f1:=R.f
 have rg:=qzs R.n
 have hs:=hB _ _ R.n
 have hsk:=hB _ _ R.k
 have hsf:=hB _ _ R.f
 repeat (first|with_reducible (refine q9 H ?_;constructor)|simp only[rB,rQ,q7,qc,reduceIte,Nat.reduceLT,Nat.reduceEqDiff,pe3,pf3,f1,zc,qF,ql8,rg])
 have el:(zK agE N).length=N.length:=by simp[zK]
 have L0:LR { h:=(s.h.set s.nx (.miter nb [])).set nb (.rmap (zK agE N) s.nx (zL (zK agE N).length 0)),nx:=s.nx+1 } fb nb kb s.nx N (zL N.length 0) [] K:=by
  rw[el]
  exact⟨(qa R.fn).trans ((qa (by omega)).trans R.f),hs_same,(qa (by omega)).trans hs_same,(qa R.d.symm).trans ((qa (by omega)).trans R.k)⟩
 have F0:∀ i,i < s.nx→i≠nb→((s.h.set s.nx (.miter nb [])).set nb (.rmap (zK agE N) s.nx (zL (zK agE N).length 0))).get i=s.h.get i:=fun i hi h1=>(qa h1).trans (qa (by omega))
 have B0:qb { h:=(s.h.set s.nx (.miter nb [])).set nb (.rmap (zK agE N) s.nx (zL (zK agE N).length 0)),nx:=s.nx+1 }:=by
  have:=z8 hB (.miter nb [])
  exact qe this (by show nb < s.nx+1;omega) _
 have P0:(([]:List En)++(qd3 [] N (zL N.length 0)).map (·.2.2)).Perm (N.map (·.2)):=by
  have h1:qd3 [] N (zL N.length 0)=(zL N.length 0).zip N:=List.filter_eq_self.2 fun y _=>rfl
  have h2:((zL N.length 0).zip N).map (·.2)=N:=by rw[← List.unzip_snd,List.unzip_zip_right];rw[JK];exact Nat.le_refl _
  have h3:((zL N.length 0).zip N).map (·.2.2)=N.map (·.2):=by
   conv=>rhs;rw[← h2]
   rw[List.map_map]
   rfl
  rw[h1,h3]
  exact List.Perm.refl _
 refine qZ H (fun n t s'=>∃ acc seen V,n=(zR seen (zK agE N) (zL N.length 0)).length∧tg t 3=V∧tg t 10=.ptr s.nx 0∧LR s' fb nb kb s.nx N (zL N.length 0) seen K∧(∀ i,i < s.nx→i≠nb→s'.h.get i=s.h.get i)∧s.nx < s'.nx∧qb s'∧ErB s.nx s' V acc∧(acc++(qd3 seen N (zL N.length 0)).map (·.2.2)).Perm (N.map (·.2))) (n:=(zR [] (zK agE N) (zL N.length 0)).length)
  ⟨[],[],_,rfl,by simp only[rB,rQ,q7,qc,reduceIte,Nat.reduceLT,Nat.reduceEqDiff];rfl,by simp only[rB,rQ,q7,qc,reduceIte,Nat.reduceLT,Nat.reduceEqDiff],L0,F0,Nat.lt_succ_self _,B0,Or.inl ⟨rfl,rfl⟩,P0⟩ ?_
 rintro n t s' ih ⟨acc,seen,V,hn,t3,t10,L,hF,hnx,hB',hE,hP⟩
 cases hl:zR seen (zK agE N) (zL N.length 0) with
 | nil =>
  have nk:=fun {k}=>qeb (k:=k) L.i L.n hl
  have NE:=L.ne
  have E4:Ext s { s' with h:=s'.h.set nb (.map (zK agE N)) }:=by
   refine⟨Nat.le_of_lt hnx,fun i hi=>?_⟩
   by_cases h:i=nb
   ·subst h
    exact hs_same.trans R.n.symm
   ·exact (qa h).trans (hF i hi h)
  have B4:qb { s' with h:=s'.h.set nb (.map (zK agE N)) }:=qe hB' (hB' _ _ L.n) _
  have V4:ErB s.nx { s' with h:=s'.h.set nb (.map (zK agE N)) } V acc:=hE.set L.n rfl
  have P4:acc.Perm (N.map (·.2)):=by
   have:qd3 seen N (zL N.length 0)=[]:=by
    rw[qhx] at hl
    exact List.map_eq_nil_iff.1 hl
   rw[this,List.map_nil,List.append_nil] at hP
   exact hP
  generalize ({ s' with h:=s'.h.set nb (.map (zK agE N)) }:St)=s4 at *
  repeat (first|with_reducible (refine q9 H ?_;constructor)|simp only[rB,rQ,q7,qc,reduceIte,Nat.reduceLT,Nat.reduceEqDiff,pe3,pf3,t3,t10,qh0,nk])
  rcases V4 with⟨rfl,rfl⟩|⟨id,v1,rfl,v2⟩
  ·refine qvv H ?_
   repeat (first|with_reducible (refine q9 H ?_;constructor)|simp only[rB,rQ,q7,qc,reduceIte,Nat.reduceLT,Nat.reduceEqDiff,pe3,pf3,t3,Tryz.results127])
   exact hk s4 _ [] E4 B4 (Or.inl ⟨rfl,rfl⟩) P4 List.Pairwise.nil
  ·have pl:=P4.length_eq
   refine qvd H v2 (fun e he=>?_) (by rw[List.length_map] at pl;omega) (fun es' p1 p2=>?_)
   ·have:=P4.mem_iff.1 he
    obtain⟨q,hq,rfl⟩:=List.mem_map.1 this
    exact hp q hq
   ·repeat (first|with_reducible (refine q9 H ?_;constructor)|simp only[rB,rQ,q7,qc,reduceIte,Nat.reduceLT,Nat.reduceEqDiff,pe3,pf3,t3,Tryz.results127])
    refine hk _ _ es' ⟨E4.1,fun i hi=>(qa (by omega)).trans (E4.2 i hi)⟩ (qe B4 (B4 _ _ v2) _) (Or.inr ⟨id,v1,by rw[p1.length_eq],hs_same⟩) (p1.trans P4) p2
 | cons y0 ys =>
  have nk:=fun {k}=>qdq (k:=k) L.i L.n (by rw[hl];simp)
  repeat (first|with_reducible (refine q9 H ?_;constructor)|simp only[rB,rQ,q7,qc,reduceIte,Nat.reduceLT,Nat.reduceEqDiff,pe3,pf3,t3,t10,qh0,nk])
  refine List.all_eq_true.2 (fun q hq=>?_)
  have hlt:=qck hq
  obtain⟨j,j1,j2,j3⟩:=XP hq
  have hq':=hq
  rw[qhx] at hq'
  obtain⟨y,hy,hyq⟩:=List.mem_map.1 hq'
  subst hyq
  simp only at j1 j2 j3 hq hlt ⊢
  have nd:(((zL N.length 0).zip N).map (·.1)).Nodup:=by
   have:((zL N.length 0).zip N).map (·.1)=zL N.length 0:=by rw[← List.unzip_fst,List.unzip_zip_left];rw[JK];exact Nat.le_refl _
   rw[this]
   exact YL
  have hst:=qer nd hy
  obtain⟨i,p,e⟩:=y
  simp only at j1 j2 j3 hq hlt hst ⊢
  have L1:=L.seen (seen':=i::seen)
  have B1:qb { s' with h:=s'.h.set s.nx (.miter nb (i::seen)) }:=qe hB' (hB' _ _ L.i) _
  have F1:∀ z,z < s.nx→z≠nb→(s'.h.set s.nx (.miter nb (i::seen))).get z=s.h.get z:=fun z hz h1=>(qa (by omega)).trans (hF z hz h1)
  have E1:ErB s.nx { s' with h:=s'.h.set s.nx (.miter nb (i::seen)) } V acc:=hE.set L.i rfl
  have F1':∀ z,z < s.nx→z≠nb→({ s' with h:=s'.h.set s.nx (.miter nb (i::seen)) }:St).h.get z=s.h.get z:=F1
  have n1:({ s' with h:=s'.h.set s.nx (.miter nb (i::seen)) }:St).nx=s'.nx:=rfl
  clear F1
  generalize ({ s' with h:=s'.h.set s.nx (.miter nb (i::seen)) }:St)=s1 at *
  have en:=qiu L1.i L1.n (qc0 YL j1 j2)
  have ids:zZ s1 [s.nx,nb]=true:=by simp[zZ,L1.i,L1.n]
  have B2:qb { h:=(s1.alloc (.cells [.str [],.raw (.int .i64 0),.raw (.int .i64 0),.str []] 34 0)).h.set s1.nx (.cells (celE e) 34 0),nx:=s1.nx+1 }:=zH B1
  have X2:Ext s1 { h:=(s1.alloc (.cells [.str [],.raw (.int .i64 0),.raw (.int .i64 0),.str []] 34 0)).h.set s1.nx (.cells (celE e) 34 0),nx:=s1.nx+1 }:=Ql
  have c2:({ h:=(s1.alloc (.cells [.str [],.raw (.int .i64 0),.raw (.int .i64 0),.str []] 34 0)).h.set s1.nx (.cells (celE e) 34 0),nx:=s1.nx+1 }:St).h.get s1.nx=some (.cells (celE e) 34 0):=hs_same
  generalize hS2:({ h:=(s1.alloc (.cells [.str [],.raw (.int .i64 0),.raw (.int .i64 0),.str []] 34 0)).h.set s1.nx (.cells (celE e) 34 0),nx:=s1.nx+1 }:St)=s2 at *
  have X3:Ext s1 (s2.alloc (.cells (celE e) 34 0)):=X2.trans (Ext.alloc _ _)
  have B3:qb (s2.alloc (.cells (celE e) 34 0)):=z8 B2 _
  have c3:(s2.alloc (.cells (celE e) 34 0)).h.get s2.nx=some (.cells (Qm [e]) 34 0):=qt
  have L3:=L1.ext B1 X3
  have E3:=E1.ext B1 X3
  have bs:=qzl (s:=s2) (e:=e)
  generalize s2.alloc (.cells (celE e) 34 0)=s3 at *
  have hal:acc.length≤20000:=by
   have:=hP.length_eq
   simp only[List.length_append,List.length_map] at this
   omega
  obtain⟨V',s4,a1,a2,a3,a4,a5,a6,a7⟩:=qs9 (Nat.le_of_lt (by have:=X3.1;omega:s.nx < s3.nx)) B3 E3 hal c3
  repeat (first|with_reducible (refine q9 H ?_;constructor)|simp only[rB,rQ,q7,qc,reduceIte,Nat.reduceLT,Nat.reduceEqDiff,pe3,pf3,t3,t10,qnr,en,q5q,ids,cond_true,Ji,KB,Jl,hS2,c2,Zf,QE,bs,a1])
  refine ih _ _ _ (by rw[hn];exact hlt) ⟨acc++[e],i::seen,V',rfl,by simp only[rB,rQ,q7,qc,reduceIte,Nat.reduceLT,Nat.reduceEqDiff],by simp only[rB,rQ,q7,qc,reduceIte,Nat.reduceLT,Nat.reduceEqDiff,t10],L3.keep a5,fun z hz h1=>(a3.2.2 z hz).trans ((X3.2 z (by omega)).trans (F1' z hz h1)),by have:=a3.1;have:=X3.1;omega,a4,a2,?_⟩
  refine List.Perm.trans ?_ hP
  rw[List.append_assoc]
  refine List.Perm.append_left acc ?_
  have:=hst.map (·.2.2)
  simpa [qd3] using this
end Go.AX
