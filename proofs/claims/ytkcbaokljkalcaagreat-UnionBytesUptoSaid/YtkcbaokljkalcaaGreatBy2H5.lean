import Derived.Test.YtkcbaokljkalcaaGreatBy2H3
import Derived.Test.YtkcbaokljkalcaaGreatBy2H2
import Derived.Test.YtkcbaokljkalcaaGreatBy2H4
set_option linter.unusedVariables false
set_option linter.unusedSimpArgs false
set_option linter.defProp false
namespace Go.AX
open Go.Proofs Go.RowKit
set_option maxRecDepth 1000000
set_option maxHeartbeats 400000000
set_option linter.unusedSimpArgs false
set_option linter.unusedVariables false
theorem qyf {p q:List Nat}:hpB p q=true↔∃ r,p=q++r:=by
 unfold hpB
 constructor
 ·intro h
  cases hd:decide ((p.length:Int) ≥ (q.length:Int)) with
  | false=>rw[hd] at h;cases h
  | true =>
   rw[hd,cond_true] at h
   have e:p.take q.length=q:=by rw[qG] at h;exact of_decide_eq_true h
   exact⟨p.drop q.length,by conv=>lhs;rw[← List.take_append_drop q.length p,e]⟩
 ·rintro⟨r,rfl⟩
  have:decide (((q++r).length:Int) ≥ (q.length:Int))=true:=by rw[decide_eq_true_eq,List.length_append];omega
  rw[this,cond_true,List.take_left,qG,decide_eq_true_eq]
theorem belK_iff {p q:List Nat}:Xj p q=true↔∃ r,q=p++47::r:=by
 unfold Xj
 rw[qyf]
 simp[List.append_assoc]
theorem qb4 {b:List Nat} {c:Nat}:∀ {n i:Nat},Q9 b c n=(i:Int)→b[i]?=some c
 | 0,i,h=>by simp only[Q9] at h;omega
 | n+1,i,h=>by
  simp only[Q9] at h
  cases hx:b[n]? with
  | none =>
   rw[hx] at h
   exact qb4 h
  | some x =>
   rw[hx] at h
   simp only at h
   cases hb:Nat.beq x c with
   | true =>
    rw[hb,cond_true] at h
    have:n=i:=by omega
    rw[← this,hx,Nat.eq_of_beq_eq_true hb]
   | false =>
    rw[hb,cond_false] at h
    exact qb4 h
theorem qh2 {b:List Nat} {c:Nat}:∀ {n i:Nat},i < n→b[i]?=some c→(i:Int)≤Q9 b c n
 | 0,i,h,_=>by omega
 | n+1,i,h,hi=>by
  simp only[Q9]
  by_cases e:i=n
  ·subst e
   rw[hi]
   simp only[Nat.beq_refl,cond_true]
   exact Int.le_refl _
  ·have ih:=qh2 (n:=n) (by omega) hi
   cases hx:b[n]? with
   | none=>exact ih
   | some x =>
    simp only
    cases Nat.beq x c with
    | true=>simp only[cond_true];omega
    | false=>exact ih
theorem JT {k p:List Nat} (h:upE k=p) (hp:p≠[]):Xj p k=true:=by
 have hl:=Xd (b:=k) (c:=47) (n:=k.length)
 have hc:=qbx (p:=k)
 have hlen:p.length=Z8 k:=by rw[← h];unfold upE;rw[List.length_take];omega
 have hpos:0 < p.length:=List.length_pos_iff.mpr hp
 have hI:Q9 k 47 k.length=((Z8 k:Nat):Int):=by unfold Z8;unfold Z8 at hlen;omega
 have hat:=qb4 hI
 rw[belK_iff]
 have hlt:Z8 k < k.length:=(List.getElem?_eq_some_iff.1 hat).1
 refine⟨k.drop (Z8 k+1),?_⟩
 have e1:k=k.take (Z8 k)++k.drop (Z8 k):=(List.take_append_drop _ _).symm
 have e2:k.drop (Z8 k)=47::k.drop (Z8 k+1):=by
  rw[List.drop_eq_getElem_cons hlt,(List.getElem?_eq_some_iff.1 hat).2]
 rw[← h]
 unfold upE
 rw[← e2]
 exact e1
theorem qty {p k:List Nat} (hp:p≠[]) (h:Xj p k=true):upE k=p∨(Xj p (upE k)=true∧upE k≠[]∧(upE k).length < k.length):=by
 rw[belK_iff] at h
 obtain⟨r,rfl⟩:=h
 have hat:(p++47::r)[p.length]?=some 47:=by rw[List.getElem?_append_right (Nat.le_refl _)];simp
 have hlt:p.length < (p++47::r).length:=by simp
 have hge:=qh2 hlt hat
 have hl:=Xd (b:=p++47::r) (c:=47) (n:=(p++47::r).length)
 have hc:Z8 (p++47::r)=(Q9 (p++47::r) 47 (p++47::r).length).toNat:=rfl
 have hle:=qbx (p:=p++47::r)
 by_cases e:Z8 (p++47::r)=p.length
 ·refine Or.inl ?_
  unfold upE
  rw[e,List.take_left]
 ·refine Or.inr ?_
  obtain⟨d,hd⟩:∃ d,Z8 (p++47::r)=p.length+(d+1):=⟨Z8 (p++47::r) - p.length - 1,by omega⟩
  have hu:upE (p++47::r)=p++47::r.take d:=by
   unfold upE
   rw[hd,List.take_length_add_append,List.take_succ_cons]
  rw[hu]
  refine⟨belK_iff.2 ⟨_,rfl⟩,by simp,?_⟩
  rw[← hu]
  unfold upE
  rw[List.length_take]
  omega
theorem Wd {p q k:List Nat} (h1:Xj p q=true) (h2:Xj q k=true):Xj p k=true:=by
 rw[belK_iff] at *
 obtain⟨r,rfl⟩:=h1
 obtain⟨r',rfl⟩:=h2
 exact⟨r++47::r',by simp[List.append_assoc]⟩
theorem qk3 {p:List Nat}:Xj p p=false:=by
 rw[← Bool.not_eq_true,belK_iff]
 rintro⟨r,h⟩
 have:=congrArg List.length h
 simp at this
theorem q2x {p:List Nat} (hp:p≠[]):(upE p).length < p.length:=by
 have hl:=Xd (b:=p) (c:=47) (n:=p.length)
 have hpos:0 < p.length:=List.length_pos_iff.mpr hp
 unfold upE Z8
 rw[List.length_take]
 omega
theorem XT {p:List Nat} (hp:p≠[]):upE p≠p:=fun h=>by have:=q2x hp;rw[h] at this;omega
theorem Vf {p:List Nat} (hp:p≠[]):Xj p (upE p)=false:=by
 rw[← Bool.not_eq_true,belK_iff]
 rintro⟨r,h⟩
 have h1:=q2x hp
 rw[h] at h1
 simp at h1
 omega
theorem ZA {α:Type} {p:List Nat} {v:α}:∀ {l:List (List Nat × α)},qz p l=some v→(p,v)∈l
 | [],h=>by cases h
 | (q,w)::l,h=>by
  simp only[qz] at h
  cases he:eqB p q with
  | true =>
   rw[he,cond_true] at h
   rw[qG] at he
   cases h
   rw[of_decide_eq_true he]
   exact List.mem_cons_self
  | false =>
   rw[he] at h
   exact List.mem_cons_of_mem _ (ZA h)
theorem lookG_none {α:Type} {p:List Nat}:∀ {l:List (List Nat × α)},qz p l=none↔p∉l.map (·.1)
 | []=>by simp[qz]
 | (q,w)::l=>by
  have ih:=lookG_none (p:=p) (l:=l)
  simp only[qz,List.map_cons,List.mem_cons,not_or]
  cases he:eqB p q with
  | true =>
   rw[qG] at he
   have:=of_decide_eq_true he
   simp[this]
  | false =>
   rw[qG] at he
   have:=of_decide_eq_false he
   simp[this,ih]
theorem Xf {α:Type} {p:List Nat} {v w:α}:∀ {l:List (List Nat × α)},qz p l=some w→(Y5 p v l).map (·.1)=l.map (·.1)
 | [],h=>by cases h
 | (q,x)::l,h=>by
  simp only[qz] at h
  simp only[Y5]
  cases he:eqB p q with
  | true =>
   rw[qG] at he
   simp[of_decide_eq_true he]
  | false =>
   rw[he] at h
   simp[Xf h]
theorem qdk {α:Type} {p:List Nat}:∀ {l:List (List Nat × α)},(Y0 p l).map (·.1)=(l.map (·.1)).erase p
 | []=>rfl
 | (q,x)::l=>by
  simp only[Y0,List.map_cons,List.erase_cons]
  cases he:eqB p q with
  | true =>
   rw[qG] at he
   simp[of_decide_eq_true he]
  | false =>
   rw[qG] at he
   have:=of_decide_eq_false he
   have h2:(q==p)=false:=by rw[beq_eq_false_iff_ne];exact fun h=>this h.symm
   simp[h2,qdk (l:=l)]
theorem delG_sub {α:Type} {p:List Nat}:∀ {l:List (List Nat × α)},(Y0 p l).Sublist l
 | []=>List.Sublist.refl _
 | (q,x)::l=>by
  simp only[Y0]
  cases eqB p q with
  | true=>exact List.sublist_cons_self _ _
  | false=>exact List.Sublist.cons_cons _ delG_sub
theorem XC {α:Type} {p q:List Nat} {v:α}:∀ {l:List (List Nat × α)},qz q (Y5 p v l)=if q=p then some v else qz q l
 | []=>by
  simp only[Y5,qz]
  cases he:eqB q p with
  | true=>rw[qG] at he;simp[of_decide_eq_true he]
  | false=>rw[qG] at he;simp[of_decide_eq_false he]
 | (r,x)::l=>by
  have ih:=XC (p:=p) (q:=q) (v:=v) (l:=l)
  simp only[Y5]
  cases he:eqB p r with
  | true =>
   rw[qG] at he
   have:=of_decide_eq_true he
   subst this
   simp only[cond_true,qz]
   cases h2:eqB q p with
   | true=>rw[qG] at h2;simp[of_decide_eq_true h2]
   | false=>rw[qG] at h2;simp[of_decide_eq_false h2]
  | false =>
   rw[qG] at he
   have hpr:=of_decide_eq_false he
   simp only[cond_false,qz,ih]
   cases h2:eqB q r with
   | true =>
    rw[qG] at h2
    have:=of_decide_eq_true h2
    subst this
    have:¬ q=p:=fun h=>hpr h.symm
    simp[this]
   | false=>rfl
theorem Jy {α:Type} {p q:List Nat}:∀ {l:List (List Nat × α)},(l.map (·.1)).Nodup→qz q (Y0 p l)=if q=p then none else qz q l
 | [],_=>by simp[Y0,qz]
 | (r,x)::l,hn=>by
  simp only[List.map_cons,List.nodup_cons] at hn
  have ih:=Jy (p:=p) (q:=q) (l:=l) hn.2
  simp only[Y0]
  cases he:eqB p r with
  | true =>
   rw[qG] at he
   have:=of_decide_eq_true he
   subst this
   simp only[cond_true,qz]
   by_cases h:q=p
   ·subst h
    rw[if_pos rfl]
    exact lookG_none.2 hn.1
   ·have:eqB q p=false:=by rw[qG];exact decide_eq_false h
    simp[this,h]
  | false =>
   rw[qG] at he
   have hpr:=of_decide_eq_false he
   simp only[cond_false,qz,ih]
   cases h2:eqB q r with
   | true =>
    rw[qG] at h2
    have:=of_decide_eq_true h2
    subst this
    have:¬ q=p:=fun h=>hpr h.symm
    simp[this]
   | false=>rfl
theorem WI {α:Type} {p:List Nat} {v:α} {l:List (List Nat × α)} (h:(l.map (·.1)).Nodup):((Y5 p v l).map (·.1)).Nodup:=by
 cases hl:qz p l with
 | some w=>rw[Xf hl];exact h
 | none =>
  rw[QY l hl,List.map_append,List.nodup_append]
  refine⟨h,by simp,fun a ha b hb=>?_⟩
  simp at hb
  subst hb
  intro e
  subst e
  exact lookG_none.1 hl ha
theorem qag {α:Type} {p:List Nat} {l:List (List Nat × α)} (h:(l.map (·.1)).Nodup):((Y0 p l).map (·.1)).Nodup:=h.sublist (delG_sub.map _)
theorem qjp {D:List (List Nat)} {q:List Nat}:∀ {K:List (List Nat × Int)},(K.map (·.1)).Nodup→((Yy D K).map (·.1)).Nodup∧qz q (Yy D K)=if q∈D then none else qz q K:=by
 induction D with
 | nil=>intro K h;exact⟨h,by simp[Yy]⟩
 | cons d D ih =>
  intro K h
  have h':=qag (p:=d) h
  obtain⟨i1,i2⟩:=ih h'
  have e:Yy (d::D) K=Yy D (Y0 d K):=rfl
  rw[e]
  refine⟨i1,?_⟩
  rw[i2,Jy h]
  by_cases hq:q∈D
  ·simp[hq]
  ·by_cases hd:q=d
   ·simp[hd]
   ·simp[hq,hd]
def qQ (N:List (List Nat × En)):List (List Nat):=N.map (·.1)
def upB (q k:List Nat):Bool:=eqB (upE k) q
structure FI (B:Nat) (N:List (List Nat × En)) (K:List (List Nat × Int)):Prop where
 nd:(qQ N).Nodup
 kd:(K.map (·.1)).Nodup
 key:∀ x∈N,x.2.1=x.1
 par:∀ k∈qQ N,upE k≠[]→upE k∈qQ N
 cnt:∀ q,(qz q K).getD 0=((qQ N).countP (upB q):Int)
 len:N.length≤B
 ne:[]∉qQ N
theorem FI.zero:FI 0 [] []:=⟨by simp[qQ],by simp,by simp,by simp[qQ],fun q=>by simp[qz,qQ],Nat.le_refl _,by simp[qQ]⟩
def WK (p:List Nat) (N:List (List Nat × En)):List (List Nat × En):=Y0 p (N.filter fun q=>!Xj p q.1)
theorem W6 {p:List Nat} {N:List (List Nat × En)}:qQ (N.filter fun q=>!Xj p q.1)=(qQ N).filter fun k=>!Xj p k:=by
 unfold qQ
 induction N with
 | nil=>rfl
 | cons x l ih =>
  simp only[List.filter_cons,List.map_cons]
  cases Xj p x.1 <;> simp[ih]
theorem qbt {p:List Nat} {N:List (List Nat × En)}:qQ (WK p N)=((qQ N).filter fun k=>!Xj p k).erase p:=by
 unfold WK
 rw[← W6]
 exact qdk
theorem XN {p k:List Nat} {N:List (List Nat × En)} (hn:(qQ N).Nodup):k∈qQ (WK p N)↔k∈qQ N∧Xj p k=false∧k≠p:=by
 rw[qbt,List.Nodup.mem_erase_iff (hn.sublist List.filter_sublist),List.mem_filter]
 constructor
 ·rintro⟨h1,h2,h3⟩
  exact⟨h2,by simpa using h3,h1⟩
 ·rintro⟨h1,h2,h3⟩
  exact⟨h3,h1,by rw[h2];rfl⟩
theorem upB_iff {q k:List Nat}:upB q k=true↔upE k=q:=by unfold upB;rw[qG,decide_eq_true_eq]
theorem qk9 {N:List (List Nat × En)} (par:∀ k∈qQ N,upE k≠[]→upE k∈qQ N) {p:List Nat} (hp:p≠[]) (h0:(qQ N).countP (upB p)=0):∀ n k,k.length≤n→k∈qQ N→Xj p k=false:=by
 intro n
 induction n with
 | zero =>
  intro k hk _
  rw[← Bool.not_eq_true,belK_iff]
  rintro⟨r,rfl⟩
  simp at hk
 | succ n ih =>
  intro k hk hm
  rw[← Bool.not_eq_true]
  intro hb
  rcases qty hp hb with h|⟨h1,h2,h3⟩
  ·rw[List.countP_eq_zero] at h0
   exact h0 k hm (upB_iff.2 h)
  ·have:=ih (upE k) (by omega) (par k hm h2)
   rw[this] at h1
   cases h1
theorem qzy {x:Int} (h:-9000000000≤x∧x≤9000000000):IntKind.i64.wrap x=x:=Go.IntWalk.i64_in _ (by omega)
theorem qdj {p q:List Nat} {d:Int} {K:List (List Nat × Int)}:(qz q (JX p d K)).getD 0=if q=p then IntKind.i64.wrap ((qz p K).getD 0+d) else (qz q K).getD 0:=by
 unfold JX
 rw[XC]
 split <;> rfl
theorem FI.gone {B:Nat} {N:List (List Nat × En)} {K:List (List Nat × Int)} (F:FI B N K) {p:List Nat} (hp:p≠[]) (hB:B≤1000000) {old:En} (hm:qz p N=some old) {D:List (List Nat)} {N1:List (List Nat × En)} (hG:GoneD N K p D N1) :
  Y0 p N1=WK p N∧FI B (WK p N) (JX (upE p) (-1) (Y0 p (Yy D K)))∧qz p (WK p N)=none∧(upE p≠[]→upE p∈qQ (WK p N)):=by
 have hpm:p∈qQ N:=List.mem_map.2 ⟨_,ZA hm,rfl⟩
 have hbel:N1=N.filter (fun q=>!Xj p q.1)∧∀ d,d∈D↔d∈qQ N∧Xj p d=true:=by
  rcases hG with⟨_,h1,h2⟩|⟨h0,h1,h2⟩
  ·exact⟨h1,h2⟩
  ·have hc:(qQ N).countP (upB p)=0:=by
    have h3:decide ((qz p K).getD 0 > 0)=false:=by
     cases hd:decide ((qz p K).getD 0 > 0) with
     | false=>rfl
     | true=>rw[hd] at h0;cases h0
    have h4:=of_decide_eq_false h3
    rw[F.cnt p] at h4
    omega
   have nb:=fun k (hk:k∈qQ N)=>qk9 F.par hp hc k.length k (Nat.le_refl _) hk
   refine⟨?_,fun d=>?_⟩
   ·rw[h1]
    refine (List.filter_eq_self.2 fun x hx=>?_).symm
    rw[nb x.1 (List.mem_map.2 ⟨x,hx,rfl⟩)]
    rfl
   ·rw[h2]
    simp only[List.not_mem_nil,false_iff]
    rintro⟨h3,h4⟩
    rw[nb d h3] at h4
    cases h4
 obtain⟨hN1,hD⟩:=hbel
 have eN:Y0 p N1=WK p N:=by rw[hN1];rfl
 have hnd:(qQ (WK p N)).Nodup:=by rw[qbt];exact (F.nd.sublist List.filter_sublist).erase _
 have hsub:(WK p N).Sublist N:=delG_sub.trans List.filter_sublist
 have hupm:upE p≠[]→upE p∈qQ (WK p N):=fun h=>(XN F.nd).2 ⟨F.par p hpm h,Vf hp,XT hp⟩
 have hlk:=fun q=>(qjp (D:=D) (q:=q) F.kd)
 have hkd:((Y0 p (Yy D K)).map (·.1)).Nodup:=qag (hlk p).1
 refine⟨eN,⟨hnd,WI hkd,fun x hx=>F.key x (hsub.mem hx),fun k hk hu=>?_,fun q=>?_,Nat.le_trans hsub.length_le F.len,fun h=>F.ne ((XN F.nd).1 h).1⟩,?_,hupm⟩
 ·obtain⟨h1,h2,h3⟩:=(XN F.nd).1 hk
  refine (XN F.nd).2 ⟨F.par k h1 hu,?_,?_⟩
  ·rw[← Bool.not_eq_true]
   intro hb
   rw[Wd hb (JT rfl hu)] at h2
   cases h2
  ·intro e
   rw[JT e hp] at h2
   cases h2
 ·have hlen:(qQ N).countP (upB (upE p))≤1000000:=Nat.le_trans (Nat.le_trans List.countP_le_length (by rw[qQ,List.length_map];exact F.len)) hB
  -- what the count comes to
  have c1:(qQ (WK p N)).countP (upB q)+(if upE p=q then 1 else 0)=((qQ N).filter fun k=>!Xj p k).countP (upB q):=by
   have hpf:p∈(qQ N).filter fun k=>!Xj p k:=List.mem_filter.2 ⟨hpm,by rw[qk3];rfl⟩
   have:=(List.perm_cons_erase hpf).countP_eq (upB q)
   rw[qbt,this,List.countP_cons]
   by_cases h:upE p=q
   ·rw[if_pos h,if_pos (upB_iff.2 h)]
   ·rw[if_neg h,if_neg (fun e=>h (upB_iff.1 e))]
  have c2:((qQ N).filter fun k=>!Xj p k).countP (upB q)=if q=p∨q∈D then 0 else (qQ N).countP (upB q):=by
   by_cases hq:q=p∨q∈D
   ·rw[if_pos hq,List.countP_eq_zero]
    intro k hk hu
    have hu:=upB_iff.1 hu
    obtain⟨h1,h2⟩:=List.mem_filter.1 hk
    have h2:Xj p k=false:=by simpa using h2
    rcases hq with rfl|hq
    ·rw[JT hu hp] at h2
     cases h2
    ·have hbq:=((hD q).1 hq).2
     have hqn:q≠[]:=fun e=>by
      rw[e] at hq
      exact F.ne ((hD []).1 hq).1
     rw[Wd hbq (JT hu hqn)] at h2
     cases h2
   ·rw[if_neg hq]
    rw[List.countP_filter]
    refine List.countP_congr fun k hk=>?_
    constructor
    ·intro h
     exact (Bool.and_eq_true_iff.1 h).1
    ·intro h
     refine Bool.and_eq_true_iff.2 ⟨h,?_⟩
     have hu:=upB_iff.1 h
     cases hb:Xj p k with
     | false=>rfl
     | true =>
      exfalso
      rcases qty hp hb with h1|⟨h1,h2,_⟩
      ·exact hq (Or.inl (hu.symm.trans h1))
      ·rw[hu] at h1 h2
       exact hq (Or.inr ((hD q).2 ⟨by rw[← hu];exact F.par k hk (by rw[hu];exact h2),h1⟩))
  rw[qdj]
  have lk:∀ z,(qz z (Y0 p (Yy D K))).getD 0=if z=p∨z∈D then 0 else ((qQ N).countP (upB z):Int):=by
   intro z
   rw[Jy (hlk z).1,(hlk z).2]
   by_cases h1:z=p
   ·simp[h1]
   ·by_cases h2:z∈D
    ·simp[h1,h2]
    ·simp only[h1,h2,if_false,or_self]
     exact F.cnt z
  by_cases hq:q=upE p
  ·subst hq
   have n1:¬ (upE p=p∨upE p∈D):=by
    rintro (h|h)
    ·exact XT hp h
    ·have:=((hD _).1 h).2
     rw[Vf hp] at this
     cases this
   rw[if_pos rfl,lk,if_neg n1]
   rw[if_pos rfl,c2,if_neg n1] at c1
   rw[qzy (by omega)]
   omega
  ·rw[if_neg hq,lk]
   rw[if_neg (fun e=>hq e.symm),c2] at c1
   rw[Nat.add_zero] at c1
   rw[c1]
   split <;> rfl
 ·rw[lookG_none]
  intro h
  exact ((XN F.nd).1 h).2.2 rfl
def Wu (N:List (List Nat × En)) (e:En):Bool:=bif eqB (upE e.1) [] then true else !(((qz (upE e.1) N).getD enZ).2.1 != 1)
def Zm (N:List (List Nat × En)) (e:En):Option (List (List Nat × En)):=bif Wu N e then (match qz e.1 N with
 | none=>bif e.2.1==4 then none else some (N++[(e.1,kd5 e)])
 | some old=>bif e.2.1==1&&old.2.1==1 then some (Y5 e.1 (old.1,old.2.1,e.2.2.1,old.2.2.2) N) else bif e.2.1==4 then some (WK e.1 N) else some (WK e.1 N++[(e.1,kd5 e)])) else none
structure FI0 (B:Nat) (N:List (List Nat × En)) (K:List (List Nat × Int)):Prop where
 nd:(qQ N).Nodup
 kd:(K.map (·.1)).Nodup
 key:∀ x∈N,x.2.1=x.1
 cnt:∀ q,(qz q K).getD 0=((qQ N).countP (upB q):Int)
 len:N.length≤B
 ne:[]∉qQ N
theorem FI.to0 {B:Nat} {N:List (List Nat × En)} {K:List (List Nat × Int)} (F:FI B N K):FI0 B N K:=⟨F.nd,F.kd,F.key,F.cnt,F.len,F.ne⟩
theorem FI0.to {B:Nat} {N:List (List Nat × En)} {K:List (List Nat × Int)} (F:FI0 B N K) (par:∀ k∈qQ N,upE k≠[]→upE k∈qQ N):FI B N K:=⟨F.nd,F.kd,F.key,par,F.cnt,F.len,F.ne⟩
theorem FI0.put {B:Nat} {N:List (List Nat × En)} {K:List (List Nat × Int)} (F:FI0 B N K) (hB:B≤1000000) {v:En} (hne:v.1≠[]) (hl:qz v.1 N=none):FI0 (B+1) (N++[(v.1,v)]) (JX (upE v.1) 1 K):=by
 have hk:qQ (N++[(v.1,v)])=qQ N++[v.1]:=by simp[qQ]
 have hnot:=lookG_none.1 hl
 refine⟨?_,WI F.kd,fun x hx=>?_,fun q=>?_,by simp;exact F.len,?_⟩
 ·rw[hk,List.nodup_append]
  refine⟨F.nd,by simp,fun a ha b hb=>?_⟩
  simp at hb
  subst hb
  intro e
  subst e
  exact hnot ha
 ·rcases List.mem_append.1 hx with h|h
  ·exact F.key x h
  ·simp at h;rw[h]
 ·have hc:(qQ N).countP (upB q)≤1000000:=Nat.le_trans (Nat.le_trans List.countP_le_length (by rw[qQ,List.length_map];exact F.len)) hB
  rw[qdj,hk,List.countP_append,List.countP_singleton]
  by_cases hq:q=upE v.1
  ·subst hq
   rw[if_pos rfl,F.cnt,if_pos (upB_iff.2 rfl),qzy (by omega)]
   omega
  ·rw[if_neg hq,F.cnt,if_neg (fun e=>hq (upB_iff.1 e).symm)]
   omega
 ·rw[hk,List.mem_append]
  rintro (h|h)
  ·exact F.ne h
  ·simp at h;exact hne h
theorem FI.putP {B:Nat} {N:List (List Nat × En)} {K:List (List Nat × Int)} (F:FI B N K) (hB:B≤1000000) {v:En} (hne:v.1≠[]) (hl:qz v.1 N=none) (hp:upE v.1≠[]→upE v.1∈qQ N):FI (B+1) (N++[(v.1,v)]) (JX (upE v.1) 1 K):=by
 refine (F.to0.put hB hne hl).to fun k hk hu=>?_
 have hk':qQ (N++[(v.1,v)])=qQ N++[v.1]:=by simp[qQ]
 rw[hk',List.mem_append] at hk ⊢
 rcases hk with h|h
 ·exact Or.inl (F.par k h hu)
 ·simp at h
  subst h
  exact Or.inl (hp hu)
theorem qdw {N:List (List Nat × En)} {e:En} (h:eqB (upE e.1) []=true∨(((qz (upE e.1) N).getD enZ).2.1 != 1)=false):Wu N e=true∧(upE e.1≠[]→upE e.1∈qQ N):=by
 have h1:upE e.1≠[]→eqB (upE e.1) []=false:=fun hu=>by rw[qG];exact decide_eq_false hu
 constructor
 ·unfold Wu
  cases h2:eqB (upE e.1) [] with
  | true=>rfl
  | false =>
   rcases h with h|h
   ·rw[h2] at h;cases h
   ·rw[h];rfl
 ·intro hu
  rcases h with h|h
  ·rw[h1 hu] at h;cases h
  ·cases hl:qz (upE e.1) N with
   | none=>rw[hl] at h;cases h
   | some w=>exact List.mem_map.2 ⟨_,ZA hl,rfl⟩
theorem ApR.fin {B:Nat} {N N':List (List Nat × En)} {K K':List (List Nat × Int)} {e:En} {b:Bool} (F:FI B N K) (hne:e.1≠[]) (hB:B≤1000000) (A:ApR N K e b N' K'):(b=true∧Zm N e=some N'∧FI (B+1) N' K')∨(b=false∧Zm N e=none):=by
 cases A with
 | up h1 h2 =>
  refine Or.inr ⟨rfl,?_⟩
  have:Wu N e=false:=by unfold Wu;rw[h1,h2];rfl
  unfold Zm
  rw[this]
  rfl
 | gone0 h1 h2 =>
  refine Or.inr ⟨rfl,?_⟩
  unfold Zm
  rw[h2,h1]
  cases Wu N e <;> rfl
 | mode old h1 h2 h3 h4 =>
  refine Or.inl ⟨rfl,?_,?_⟩
  ·unfold Zm
   rw[(qdw h1).1,h2,h3]
   simp[h4]
  ·have hk:qQ (Y5 e.1 (old.1,old.2.1,e.2.2.1,old.2.2.2) N)=qQ N:=Xf h2
   have ho:old.1=e.1:=F.key _ (ZA h2)
   refine⟨by rw[hk];exact F.nd,F.kd,fun x hx=>?_,by rw[hk];exact F.par,by rw[hk];exact F.cnt,?_,by rw[hk];exact F.ne⟩
   ·have:∀ {l:List (List Nat × En)},x∈Y5 e.1 (old.1,old.2.1,e.2.2.1,old.2.2.2) l→x∈l∨x=(e.1,(old.1,old.2.1,e.2.2.1,old.2.2.2)):=by
     intro l
     induction l with
     | nil=>intro h;simp[Y5] at h;exact Or.inr h
     | cons y l ih =>
      obtain⟨q,w⟩:=y
      intro h
      simp only[Y5] at h
      cases hb:eqB e.1 q with
      | true =>
       rw[hb,cond_true] at h
       rcases List.mem_cons.1 h with h|h
       ·exact Or.inr h
       ·exact Or.inl (List.mem_cons_of_mem _ h)
      | false =>
       rw[hb,cond_false] at h
       rcases List.mem_cons.1 h with h|h
       ·exact Or.inl (h ▸ List.mem_cons_self)
       ·rcases ih h with h|h
        ·exact Or.inl (List.mem_cons_of_mem _ h)
        ·exact Or.inr h
    rcases this hx with h|h
    ·exact F.key x h
    ·rw[h];exact ho
   ·have:=congrArg List.length hk
    simp only[qQ,List.length_map] at this
    have:=F.len
    omega
 | gone1 old D N1 h1 h2 h3 h4 =>
  obtain⟨g1,g2,g3,g4⟩:=F.gone hne hB h2 h4
  refine Or.inl ⟨rfl,?_,?_⟩
  ·unfold Zm
   rw[(qdw h1).1,h2,h3,g1]
   rfl
  ·rw[g1]
   exact⟨g2.nd,g2.kd,g2.key,g2.par,g2.cnt,Nat.le_succ_of_le g2.len,g2.ne⟩
 | over old D N1 h1 h2 h3 h4 h5 =>
  obtain⟨g1,g2,g3,g4⟩:=F.gone hne hB h2 h5
  have e1:(e.2.1==1&&old.2.1==1)=false:=by
   cases ha:e.2.1==1 with
   | false=>rfl
   | true =>
    have:=h4 (by simpa using ha)
    simp[this]
  have e2:(e.2.1==4)=false:=by rw[beq_eq_false_iff_ne];exact h3
  refine Or.inl ⟨rfl,?_,?_⟩
  ·unfold Zm
   rw[(qdw h1).1,h2]
   simp only[cond_true,e1,cond_false,e2]
   rw[g1,QY _ g3]
  ·rw[g1,QY _ g3]
   have:=g2.putP (v:=kd5 e) hB hne g3 g4
   exact this
 | new h1 h2 h3 =>
  have e2:(e.2.1==4)=false:=by rw[beq_eq_false_iff_ne];exact h3
  refine Or.inl ⟨rfl,?_,?_⟩
  ·unfold Zm
   rw[(qdw h1).1,h2]
   simp only[cond_true,e2,cond_false]
   rw[QY _ h2]
  ·rw[QY _ h2]
   have:=F.putP (v:=kd5 e) hB hne h2 (qdw h1).2
   exact this
def Wz:List (List Nat × En)→List En→Option (List (List Nat × En))
 | N,[]=>some N
 | N,e::l=>match Zm N e with
  | none=>none
  | some N'=>Wz N' l
def Zj (es:List En):List (List Nat × En):=es.map fun e=>(e.1,e)
theorem J1 {es:List En}:qQ (Zj es)=es.map (·.1):=by simp[qQ,Zj]
theorem Ky:∀ {es pre:List En} {K:List (List Nat × Int)} {B:Nat},FI0 B (Zj pre) K→((pre++es).map (·.1)).Nodup→[]∉es.map (·.1)→B+es.length≤1000000→(QS (Zj pre,K) es).1=Zj (pre++es)∧FI0 (B+es.length) (QS (Zj pre,K) es).1 (QS (Zj pre,K) es).2
 | [],pre,K,B,F,_,_,_=>by simpa [QS] using F
 | e::l,pre,K,B,F,hn,h0,hB=>by
  have hne:e.1≠[]:=fun h=>h0 (by simp[h])
  have hl:qz e.1 (Zj pre)=none:=by
   rw[lookG_none]
   show e.1∉qQ (Zj pre)
   rw[J1]
   intro hm
   rw[List.map_append,List.nodup_append] at hn
   exact hn.2.2 _ hm e.1 (by simp) rfl
  have F1:=F.put (v:=e) (by simp at hB;omega) hne hl
  have ep:Zj pre++[(e.1,e)]=Zj (pre++[e]):=by simp[Zj]
  rw[ep] at F1
  have e0:QS (Zj pre,K) (e::l)=QS (Zj (pre++[e]),JX (upE e.1) 1 K) l:=by
   simp only[QS,QY _ hl,ep]
  obtain⟨i1,i2⟩:=Ky (es:=l) F1 (by simpa using hn) (fun h=>h0 (by simp;exact Or.inr (by simpa using h))) (by simp at hB;omega)
  rw[e0]
  refine⟨by rw[i1];simp,?_⟩
  have:B+(e::l).length=B+1+l.length:=by simp;omega
  rw[this]
  exact i2
def unP:List (List Nat)→List Nat
 | []=>[]
 | [p]=>p
 | p::q::l=>p++47::unP (q::l)
theorem unP_pieces:∀ {b:List Nat},unP (qv b)=b∧qv b≠[]
 | []=>⟨rfl,by simp[qv]⟩
 | c::l=>by
  obtain⟨i1,i2⟩:=unP_pieces (b:=l)
  simp only[qv]
  cases hl:qv l with
  | nil=>exact absurd hl i2
  | cons p ps =>
   rw[hl] at i1
   cases hc:Nat.beq c 47 with
   | true =>
    have:=Nat.eq_of_beq_eq_true hc
    subst this
    refine⟨?_,by simp⟩
    simp only[cond_true,unP,List.nil_append,i1]
   | false =>
    refine⟨?_,by simp⟩
    simp only[cond_false]
    cases ps with
    | nil=>simp only[unP] at i1 ⊢;rw[i1]
    | cons q r=>simp only[unP,List.cons_append] at i1 ⊢;rw[i1]
theorem qdc {a b:List Nat} (h:qq a=qq b):a=b:=by
 cases a with
 | nil =>
  cases b with
  | nil=>rfl
  | cons y l=>exact absurd h.symm (unP_pieces (b:=y::l)).2
 | cons x k =>
  cases b with
  | nil=>exact absurd h (unP_pieces (b:=x::k)).2
  | cons y l =>
   have h:qv (x::k)=qv (y::l):=h
   have:=congrArg unP h
   rw[unP_pieces.1,unP_pieces.1] at this
   exact this
def qgi (e:En):List En→List En
 | []=>[e]
 | x::l=>bif decide (YF e.1 x.1 < 0) then e::x::l else x::qgi e l
def KG:List En→List En
 | []=>[]
 | e::l=>qgi e (KG l)
theorem insEn_perm {e:En}:∀ {l:List En},(qgi e l).Perm (e::l)
 | []=>List.Perm.refl _
 | x::l=>by
  simp only[qgi]
  cases decide (YF e.1 x.1 < 0) with
  | true=>exact List.Perm.refl _
  | false=>exact (List.Perm.cons x insEn_perm).trans (List.Perm.swap e x l)
theorem sortEn_perm:∀ {l:List En},(KG l).Perm l
 | []=>List.Perm.refl _
 | e::l=>insEn_perm.trans (List.Perm.cons e sortEn_perm)
def Vd (l:List En):Prop:=l.Pairwise fun a b=>YF a.1 b.1 < 0
theorem qac {e:En}:∀ {l:List En},Vd l→e.1∉l.map (·.1)→Vd (qgi e l)
 | [],_,_=>by simp[Vd,qgi]
 | x::l,h,hm=>by
  simp only[Vd,List.pairwise_cons] at h
  simp only[qgi]
  cases hd:decide (YF e.1 x.1 < 0) with
  | true =>
   have hd:=of_decide_eq_true hd
   simp only[cond_true,Vd,List.pairwise_cons]
   refine⟨fun y hy=>?_,h⟩
   rcases List.mem_cons.1 hy with rfl|hy
   ·exact hd
   ·exact Qi (show LtP _ _ from hd) (show LtP _ _ from h.1 y hy)
  | false =>
   have hd:=of_decide_eq_false hd
   simp only[cond_false,Vd,List.pairwise_cons]
   refine⟨fun y hy=>?_,qac h.2 (fun hh=>hm (List.mem_cons_of_mem _ hh))⟩
   rcases List.mem_cons.1 (insEn_perm.mem_iff.1 hy) with rfl|hy
   ·exact Xx (fun h=>hm (by rw[qdc h];simp)) hd
   ·exact h.1 y hy
theorem JO:∀ {l:List En},(l.map (·.1)).Nodup→Vd (KG l)
 | [],_=>by simp[Vd,KG]
 | e::l,h=>by
  simp only[List.map_cons,List.nodup_cons] at h
  refine qac (JO h.2) fun hm=>h.1 ?_
  exact ((sortEn_perm (l:=l)).map (·.1)).mem_iff.1 hm
theorem qm9 {l l':List En} (hn:(l.map (·.1)).Nodup) (hp:l'.Perm l) (hs:l'.Pairwise fun a b=>¬ YF b.1 a.1 < 0):l'=KG l:=by
 have hn':(l'.map (·.1)).Nodup:=(hp.map (·.1)).nodup_iff.2 hn
 refine Yq (r:=fun a b:En=>YF a.1 b.1 < 0) (fun a h=>Q1 (show LtP _ _ from h)) (fun a b c h1 h2=>Qi (show LtP _ _ from h1) (show LtP _ _ from h2)) ?_ (JO hn) fun a=>by rw[hp.mem_iff,sortEn_perm.mem_iff]
 rw[List.Nodup,List.pairwise_map] at hn'
 exact (hs.and hn').imp fun {a b} ⟨h1,h2⟩=>Xx (fun h=>h2 (qdc h).symm) h1
def Wj (lower es:List En):Option (List En):=match ofT lower with
 | none=>none
 | some _=>bif (qpz es).2 != 0 then none else match Wz (Zj lower) es with
  | none=>none
  | some N=>bif decide ((N.length:Int) > 128) then none else some (KG (N.map (·.2)))
structure GoodE (es:List En):Prop where
 may:∀ e∈es,YW e=true
 rise:Vd es
 par:∀ e∈es,upE e.1≠[]→upE e.1∈es.map (·.1)
 len:es.length≤128
theorem qcw {p:List Nat} {u:Nat}:∀ {K:List (List Nat × Nat)},qM p K=some u→p∈K.map (·.1)
 | [],h=>by cases h
 | (q,j)::l,h=>by
  simp only[qM] at h
  cases he:eqB p q with
  | true=>rw[qG] at he;simp[of_decide_eq_true he]
  | false =>
   rw[he] at h
   exact List.mem_cons_of_mem _ (qcw h)
theorem qdf {p q:List Nat} {j:Nat}:∀ {K:List (List Nat × Nat)},q∈(setK p j K).map (·.1)→q=p∨q∈K.map (·.1)
 | [],h=>by simp[setK] at h;exact Or.inl h
 | (r,i)::l,h=>by
  simp only[setK] at h
  cases he:eqB p r with
  | true =>
   rw[he,cond_true] at h
   rcases List.mem_cons.1 h with h|h
   ·exact Or.inl h
   ·exact Or.inr (List.mem_cons_of_mem _ h)
  | false =>
   rw[he,cond_false] at h
   rcases List.mem_cons.1 h with h|h
   ·exact Or.inr (h ▸ List.mem_cons_self)
   ·rcases qdf h with h|h
    ·exact Or.inl h
    ·exact Or.inr (List.mem_cons_of_mem _ h)
theorem XV:∀ {l:List En} {M M':Md} {K:List (List Nat × Nat)} {pv:Option (List Nat)},Zc l M K pv=some M'→(∀ e∈l,YW e=true)∧Vd l∧(∀ p,pv=some p→∀ e∈l,YF p e.1 < 0)∧∀ e∈l,upE e.1∈K.map (·.1)∨upE e.1∈l.map (·.1)
 | [],_,_,_,_,_=>⟨fun _ h=>(by cases h),List.Pairwise.nil,fun _ _ _ h=>(by cases h),fun _ h=>(by cases h)⟩
 | e::l,M,M',K,pv,h=>by
  simp only[Zc] at h
  cases hm:YW e with
  | false=>rw[hm] at h;cases h
  | true =>
  rw[hm,cond_true] at h
  have hpv:∀ p,pv=some p→YF p e.1 < 0:=by
   intro p hp
   subst hp
   cases hd:decide (YF p e.1 < 0) with
   | true=>exact of_decide_eq_true hd
   | false=>simp[hd] at h
  have h:(match qM (e.1.take (Z8 e.1)) K with
   | none=>none
   | some u=>match M.T u with
    | none=>none
    | some ud=>bif ud.kind != 1 then none else Zc l (VP M u ud (Yz e.1) ⟨e.2.1,e.2.2.1,e.2.2.2,[],some u,Yz e.1,0⟩) (setK e.1 M.nodes.length K) (some e.1))=some M':=by
   cases pv with
   | none=>exact h
   | some p =>
    simp only[hpv p rfl,decide_true,cond_true] at h
    exact h
  cases hk:qM (e.1.take (Z8 e.1)) K with
  | none=>rw[hk] at h;cases h
  | some u =>
  rw[hk] at h
  simp only at h
  cases hu:M.T u with
  | none=>rw[hu] at h;cases h
  | some ud =>
  rw[hu] at h
  simp only at h
  cases hd:ud.kind != 1 with
  | true=>rw[hd] at h;cases h
  | false =>
  rw[hd,cond_false] at h
  obtain⟨i1,i2,i3,i4⟩:=XV h
  have h3:=i3 e.1 rfl
  refine⟨fun x hx=>?_,List.pairwise_cons.2 ⟨h3,i2⟩,fun p hp x hx=>?_,fun x hx=>?_⟩
  ·rcases List.mem_cons.1 hx with rfl|hx
   ·exact hm
   ·exact i1 x hx
  ·rcases List.mem_cons.1 hx with rfl|hx
   ·exact hpv p hp
   ·exact Qi (show LtP _ _ from hpv p hp) (show LtP _ _ from h3 x hx)
  ·rcases List.mem_cons.1 hx with rfl|hx
   ·exact Or.inl (qcw hk)
   ·rcases i4 x hx with h|h
    ·rcases qdf h with h|h
     ·exact Or.inr (by simp[h])
     ·exact Or.inl h
    ·exact Or.inr (List.mem_cons_of_mem _ h)
theorem qlq {es:List En} {M:Md} (h:ofT es=some M):GoodE es:=by
 unfold ofT at h
 cases hl:decide ((es.length:Int) > 128) with
 | true=>rw[hl] at h;cases h
 | false =>
  rw[hl,cond_false] at h
  have hl:=of_decide_eq_false hl
  cases hr:Zc es MZ [([],0)] none with
  | none=>rw[hr] at h;cases h
  | some M' =>
   obtain⟨i1,i2,_,i4⟩:=XV hr
   refine⟨i1,i2,fun e he hu=>?_,by omega⟩
   rcases i4 e he with h|h
   ·simp at h;exact absurd h hu
   ·exact h
theorem qef {e:En} (h:YW e=true):e.1≠[]:=by
 intro h0
 unfold YW Zd at h
 rw[h0] at h
 generalize Qf [] (47::[])=x at h
 obtain⟨q,c⟩:=x
 simp only at h
 cases hc:Nat.beq c 0 with
 | true=>rw[hc] at h;cases h
 | false=>rw[hc] at h;cases h
theorem Jl {es:List En} (h:Vd es):(es.map (·.1)).Nodup:=by
 rw[List.Nodup,List.pairwise_map]
 refine List.Pairwise.imp ?_ h
 intro a b hab he
 rw[← he] at hab
 exact Q1 (show LtP (qq a.1) (qq a.1) from hab)
theorem qbz {e:En} {pre:List En} (h:Z2 e pre=0):e.1≠[]:=by
 intro h0
 unfold Z2 at h
 cases h1:Vt e.2.1 with
 | false=>rw[h1] at h;cases h
 | true =>
  rw[h1,cond_true] at h
  have hp:QP e pre=1303:=by
   unfold QP
   rw[h0]
   generalize Qf [] (47::[])=x
   obtain⟨q,c⟩:=x
   simp only
   cases Nat.beq c 0 <;> rfl
  rw[hp] at h
  cases h
theorem qpk {es:List En}:∀ {l:List En} {k:Nat},(qhk es k l).2=0→∀ e∈l,∃ pre,Z2 e pre=0
 | [],_,_,_,h=>by cases h
 | x::l,k,h,e,he=>by
  simp only[qhk] at h
  cases hf:Z2 x (es.take k) != 0 with
  | true =>
   rw[hf,cond_true] at h
   simp only at h
   rw[h] at hf
   cases hf
  | false =>
   rw[hf,cond_false] at h
   rcases List.mem_cons.1 he with rfl|he
   ·exact⟨_,by simpa using hf⟩
   ·exact qpk h e he
theorem qpx {es:List En} (h:(qpz es).2=0):es.length≤256∧∀ e∈es,∃ pre,Z2 e pre=0:=by
 unfold qpz at h
 cases hl:decide ((es.length:Int) > 256) with
 | true=>rw[hl] at h;cases h
 | false =>
  rw[hl,cond_false] at h
  have hl:=of_decide_eq_false hl
  exact⟨by omega,qpk h⟩
theorem qgu {N N':List (List Nat × En)} {e:En} (h:Zm N e=some N'):∀ k∈qQ N',k∈qQ N∨k=e.1:=by
 unfold Zm at h
 cases hu:Wu N e with
 | false=>rw[hu] at h;cases h
 | true =>
  rw[hu,cond_true] at h
  have cut:∀ k∈qQ (WK e.1 N),k∈qQ N:=fun k hk=>by
   obtain⟨x,hx,rfl⟩:=List.mem_map.1 hk
   exact List.mem_map.2 ⟨x,(delG_sub.trans List.filter_sublist).mem hx,rfl⟩
  cases hl:qz e.1 N with
  | none =>
   rw[hl] at h
   simp only at h
   cases h4:e.2.1==4 with
   | true=>rw[h4] at h;cases h
   | false =>
    rw[h4] at h
    cases h
    intro k hk
    rcases List.mem_append.1 (by simpa [qQ] using hk:k∈qQ N++[e.1]) with h|h
    ·exact Or.inl h
    ·simp at h;exact Or.inr h
  | some old =>
   rw[hl] at h
   simp only at h
   cases h1:e.2.1==1&&old.2.1==1 with
   | true =>
    rw[h1] at h
    cases h
    intro k hk
    rw[show qQ (Y5 e.1 (old.1,old.2.1,e.2.2.1,old.2.2.2) N)=qQ N from Xf hl] at hk
    exact Or.inl hk
   | false =>
    rw[h1,cond_false] at h
    cases h4:e.2.1==4 with
    | true =>
     rw[h4] at h
     cases h
     exact fun k hk=>Or.inl (cut k hk)
    | false =>
     rw[h4] at h
     cases h
     intro k hk
     rcases List.mem_append.1 (by simpa [qQ] using hk:k∈qQ (WK e.1 N)++[e.1]) with h|h
     ·exact Or.inl (cut k h)
     ·simp at h;exact Or.inr h
theorem q20 {s:St} (H:Ok TE Tryz.prog pr3) (hB:qc s) {V:AV} {es:List En} (hV:EsV s V es) (hp:∀ e∈es,e.1.length≤1048575) (hn0:es.length < 1000000000) {kr kp:AV→St→Bool}
  (hk:∀ s',Ext s s'→qc s'→kr (.raw (.bool (ofT es).isSome)) s'=true) :
  (sem Tryz.prog).call 82 [V] s kr kp=true:=by
 refine qp H 12 q6q rfl rfl ?_
 repeat (first|with_reducible (refine q9 H ?_;constructor)|simp only[rB,rP,rQ,q8,qa,q7,qb,reduceIte,reduceCtorEq,Nat.reduceAdd,Nat.reduceLT,Nat.reduceEqDiff,UInt8.reduceToNat,pe3,pf3])
 refine q82 H hB hV hp hn0 (fun s' x M h1 h2 h3 h4=>?_) (fun s' h1 h2 h3=>?_)
 ·have g:((0:Int)==0)=true:=rfl
  repeat (first|with_reducible (refine q9 H ?_;constructor)|simp only[rB,rP,rQ,q8,qa,q7,qb,reduceIte,reduceCtorEq,Nat.reduceAdd,Nat.reduceLT,Nat.reduceEqDiff,UInt8.reduceToNat,pe3,pf3,qr,g,Tryz.results82])
  have:=hk s' h2 h3.1
  rw[h1] at this
  exact this
 ·have g:((500:Int)==0)=false:=rfl
  repeat (first|with_reducible (refine q9 H ?_;constructor)|simp only[rB,rP,rQ,q8,qa,q7,qb,reduceIte,reduceCtorEq,Nat.reduceAdd,Nat.reduceLT,Nat.reduceEqDiff,UInt8.reduceToNat,pe3,pf3,qr,g,Tryz.results82])
  have:=hk s' h2 h3
  rw[h1] at this
  exact this
theorem qpw:(match TE.info 49 with|some ti=>Qv ti.desc&&Nat.beq ti.size 1|none=>false)=true:=by kernel_rfl
theorem qmt {s:St} {x:Nat}:Q3 TE s 49 (.ptr x 0)=ldG 1 (s.h.get x):=KJ qpw
theorem Xk {V:AV} {el fz:Nat}:ldG 1 (some (.cells [V] el fz))=some (.agg [V]):=(rfl)
theorem qsn {s:St} (H:Ok TE Tryz.prog pr3) (hB:qc s) {LV V:AV} {lower es:List En} (hL:EsV s LV lower) (hpl:∀ e∈lower,e.1.length≤1048575) (hnl:lower.length < 1000000000) (hV:EsV s V es) (hc:qp4 V) (hp:∀ e∈es,e.1.length≤1048575) (h1:V.cells=[V]) (h2:V.one=true) {kr kp:AV→St→Bool}
  (hk:∀ s' W out,Wj lower es=some out→Ext s s'→qc s'→ErB s.nx s' W out→(∀ e∈out,e.1.length≤140)→out.length≤128→kr (.tuple [W,.raw (.int .i64 0)]) s'=true)
  (hf:∀ s',Wj lower es=none→Ext s s'→qc s'→kr (.tuple [.raw (.slice none 0 0),.raw (.int .i64 1400)]) s'=true) :
  (sem Tryz.prog).call 88 [LV,.agg [V]] s kr kp=true:=by
 refine qp H 40 q6a rfl rfl ?_
 have hB1:qc (s.alloc (.cells [V] 49 0)):=qx hB _
 have hE1:Ext s (s.alloc (.cells [V] 49 0)):=Ext.alloc s _
 have c1:(s.alloc (.cells [V] 49 0)).h.get s.nx=some (.cells [V] 49 0):=qu
 unfold Wj at hk hf
 have vl:=hV.len
 have vi:=hV.ids
 repeat (first|with_reducible (refine q9 H ?_;constructor)|simp only[rB,rP,rQ,q8,qa,q7,qb,reduceIte,reduceCtorEq,Nat.reduceAdd,Nat.reduceLT,Nat.reduceEqDiff,UInt8.reduceToNat,pe3,pf3,qf])
 generalize s.alloc (.cells [V] 49 0)=s1 at *
 refine q20 H hB1 (hL.ext hB hE1) hpl hnl (fun s2 hE2 hB2=>?_)
 have hE12:=hE1.trans hE2
 have c2:=(hE2.2 _ (hB1 _ _ c1)).trans c1
 cases ho:ofT lower with
 | none =>
  repeat (first|with_reducible (refine q9 H ?_;constructor)|simp only[rB,rP,rQ,q8,qa,q7,qb,reduceIte,reduceCtorEq,Nat.reduceAdd,Nat.reduceLT,Nat.reduceEqDiff,UInt8.reduceToNat,pe3,pf3,ho,Option.isSome_none,Bool.not_false,Tryz.results88])
  exact hf s2 (by rw[ho]) hE12 hB2
 | some M0 =>
 have G:=qlq ho
 repeat (first|with_reducible (refine q9 H ?_;constructor)|simp only[rB,rP,rQ,q8,qa,q7,qb,reduceIte,reduceCtorEq,Nat.reduceAdd,Nat.reduceLT,Nat.reduceEqDiff,UInt8.reduceToNat,pe3,pf3,ho,Option.isSome_some,Bool.not_true,c2,qmt,Xk])
 refine qv8 H hB2 (hV.ext hB hE12) hc hp h1 h2 (fun s3 hE3 hB3=>?_)
 have hE13:=hE12.trans hE3
 have c3:=(hE3.2 _ (hB2 _ _ c2)).trans c2
 cases hm:(qpz es).2 != 0 with
 | true =>
  repeat (first|with_reducible (refine q9 H ?_;constructor)|simp only[rB,rP,rQ,q8,qa,q7,qb,reduceIte,reduceCtorEq,Nat.reduceAdd,Nat.reduceLT,Nat.reduceEqDiff,UInt8.reduceToNat,pe3,pf3,qH,hm,Tryz.results88])
  exact hf s3 (by rw[ho,hm];rfl) hE13 hB3
 | false =>
 have hm0:(qpz es).2=0:=by simpa using hm
 obtain⟨hl256,hfault⟩:=qpx hm0
 have hlow:∀ e∈lower,e.1.length≤140:=fun e he=>(XR (G.may e he)).1
 repeat (first|with_reducible (refine q9 H ?_;constructor)|simp only[rB,rP,rQ,q8,qa,q7,qb,reduceIte,reduceCtorEq,Nat.reduceAdd,Nat.reduceLT,Nat.reduceEqDiff,UInt8.reduceToNat,pe3,pf3,qH,hm])
 refine qrh H hB3 (hL.ext hB hE13) (fun e he=>by have:=hlow e he;omega) (by have:=G.len;omega) (fun s4 fb nb kb hE4 f1 f2 f3 hB4 R4=>?_)
 have hE14:=hE13.trans hE4
 have c4:=(hE4.2 _ (hB3 _ _ c3)).trans c3
 have hs3:=hE13.1
 -- the ground is sound
 obtain⟨g1,g2⟩:=Ky (es:=lower) (pre:=[]) (K:=[]) (B:=0) FI.zero.to0 (by simpa using Jl G.rise) (fun h=>by
  obtain⟨e,he,h0⟩:=List.mem_map.1 h
  exact qef (G.may e he) h0) (by have:=G.len;omega)
 rw[show (Zj [],([]:List (List Nat × Int)))=([],[]) from rfl] at g1 g2
 rw[List.nil_append] at g1
 have g2:=g2.to (by
  rw[g1,J1]
  intro k hk hu
  obtain⟨e,he,rfl⟩:=List.mem_map.1 hk
  exact G.par e he hu)
 rw[g1] at g2 R4
 have g2:FI 128 (Zj lower) _:=⟨g2.nd,g2.kd,g2.key,g2.par,g2.cnt,Nat.le_trans g2.len (by have:=G.len;omega),g2.ne⟩
 rw[hm] at hk hf
 rw[ho] at hk hf
 simp only[cond_false] at hk hf
 repeat (first|with_reducible (refine q9 H ?_;constructor)|simp only[rB,rP,rQ,q8,qa,q7,qb,reduceIte,reduceCtorEq,Nat.reduceAdd,Nat.reduceLT,Nat.reduceEqDiff,UInt8.reduceToNat,pe3,pf3,c4,YM,VO,vl,vi])
 refine qB H (fun n t s'=>∃ (k:Nat) (N:List (List Nat × En)) (K:List (List Nat × Int)),n+k=es.length∧tg t 8=.ptr fb 0∧tg t 24=V∧tg t 25=.raw (.int .i64 (es.length:Int))∧tg t 26=.raw (.int .i64 (k:Int))∧Ext s s'∧qc s'∧FR s' fb nb kb N K∧FI (128+k) N K∧(∀ q∈qQ N,q.length≤140)∧Wz (Zj lower) es=Wz N (es.drop k)) (n:=es.length)
  ⟨0,_,_,rfl,by simp only[rB,rP,rQ,q8,qa,q7,qb,reduceIte,reduceCtorEq,Nat.reduceAdd,Nat.reduceLT,Nat.reduceEqDiff,UInt8.reduceToNat],by simp only[rB,rP,rQ,q8,qa,q7,qb,reduceIte,reduceCtorEq,Nat.reduceAdd,Nat.reduceLT,Nat.reduceEqDiff,UInt8.reduceToNat],by simp only[rB,rP,rQ,q8,qa,q7,qb,reduceIte,reduceCtorEq,Nat.reduceAdd,Nat.reduceLT,Nat.reduceEqDiff,UInt8.reduceToNat],by simp only[rB,rP,rQ,q8,qa,q7,qb,reduceIte,reduceCtorEq,Nat.reduceAdd,Nat.reduceLT,Nat.reduceEqDiff,UInt8.reduceToNat];rfl,hE14,hB4,R4,g2,fun q hq=>by
   rw[J1] at hq
   obtain⟨e,he,rfl⟩:=List.mem_map.1 hq
   exact hlow e he,rfl⟩ ?_
 rintro n t s' ih ⟨k,N,K,hnk,t8,t24,t25,t26,hE,hB',R,F,hq,ha⟩
 cases n with
 | zero =>
  have g0:decide ((k:Int) < (es.length:Int))=false:=by rw[decide_eq_false_iff_not];omega
  rw[List.drop_eq_nil_of_le (by omega)] at ha
  rw[ha] at hk hf
  simp only[Wz] at hk hf
  repeat (first|with_reducible (refine q9 H ?_;constructor)|simp only[rB,rP,rQ,q8,qa,q7,qb,reduceIte,reduceCtorEq,Nat.reduceAdd,Nat.reduceLT,Nat.reduceEqDiff,UInt8.reduceToNat,pe3,pf3,t8,t24,t25,t26,zJ,g0])
  refine qvs H R ?_
  cases hN:decide ((N.length:Int) > 128) with
  | true =>
   rw[hN] at hf
   repeat (first|with_reducible (refine q9 H ?_;constructor)|simp only[rB,rP,rQ,q8,qa,q7,qb,reduceIte,reduceCtorEq,Nat.reduceAdd,Nat.reduceLT,Nat.reduceEqDiff,UInt8.reduceToNat,pe3,pf3,t8,zD,hN,Tryz.results88])
   exact hf s' rfl hE hB'
  | false =>
   rw[hN] at hk
   have hN':=of_decide_eq_false hN
   have hk140:∀ q∈N,q.2.1.length≤140:=fun x hx=>by
    rw[F.key x hx]
    exact hq _ (List.mem_map.2 ⟨x,hx,rfl⟩)
   repeat (first|with_reducible (refine q9 H ?_;constructor)|simp only[rB,rP,rQ,q8,qa,q7,qb,reduceIte,reduceCtorEq,Nat.reduceAdd,Nat.reduceLT,Nat.reduceEqDiff,UInt8.reduceToNat,pe3,pf3,t8,zD,hN])
   refine qkm H hB' R hk140 (by omega) (fun s5 W out hE5 hB5 hW hperm hsort=>?_)
   have hnd:((N.map (·.2)).map (·.1)).Nodup:=by
    have:(N.map (·.2)).map (·.1)=qQ N:=by
     unfold qQ
     rw[List.map_map]
     exact List.map_congr_left fun x hx=>F.key x hx
    rw[this]
    exact F.nd
   have hout:=qm9 hnd hperm hsort
   have hlen:out.length=N.length:=by rw[hperm.length_eq,List.length_map]
   repeat (first|with_reducible (refine q9 H ?_;constructor)|simp only[rB,rP,rQ,q8,qa,q7,qb,reduceIte,reduceCtorEq,Nat.reduceAdd,Nat.reduceLT,Nat.reduceEqDiff,UInt8.reduceToNat,pe3,pf3,t8,Tryz.results88])
   refine hk s5 W out (by rw[hout];rfl) (hE.trans hE5) hB5 ?_ (fun e he=>?_) (by omega)
   ·rcases hW with h|⟨id,w1,w2,w3⟩
    ·exact Or.inl h
    ·exact Or.inr ⟨id,Nat.le_trans hE.1 w1,w2,w3⟩
   ·obtain⟨x,hx,rfl⟩:=List.mem_map.1 (hperm.mem_iff.1 he)
    exact hk140 x hx
 | succ n =>
  have g0:decide ((k:Int) < (es.length:Int))=true:=by rw[decide_eq_true_eq];omega
  have hlt:k < es.length:=by omega
  have hke:es[k]?=some es[k]:=List.getElem?_eq_getElem hlt
  have hmem:es[k]∈es:=List.getElem_mem hlt
  rw[List.drop_eq_getElem_cons hlt] at ha
  generalize es[k]=e at hke hmem ha
  simp only[Wz] at ha
  obtain⟨pre,hpre⟩:=hfault e hmem
  have he140:=qes hpre
  have hene:=qbz hpre
  have hV':=hV.ext hB hE
  obtain⟨id,o,y1,y2,y3,y4,-⟩:=hV'.idx hke
  have hB3:qc { h:=(s'.alloc (.cells [.str [],.raw (.int .i64 0),.raw (.int .i64 0),.str []] 34 0)).h.set s'.nx (.cells (celE e) 34 0),nx:=s'.nx+1 }:=zy hB'
  have hE3:Ext s' { h:=(s'.alloc (.cells [.str [],.raw (.int .i64 0),.raw (.int .i64 0),.str []] 34 0)).h.set s'.nx (.cells (celE e) 34 0),nx:=s'.nx+1 }:=Q7
  have R3:=R.ext hB' hE3
  have ew:IntKind.i64.wrap ((k:Int)+1)=((k+1:Nat):Int):=by
   rw[show (k:Int)+1=((k+1:Nat):Int) from by simp]
   exact qU (by omega)
  repeat (first|with_reducible (refine q9 H ?_;constructor)|simp only[rB,rP,rQ,q8,qa,q7,qb,reduceIte,reduceCtorEq,Nat.reduceAdd,Nat.reduceLT,Nat.reduceEqDiff,UInt8.reduceToNat,pe3,pf3,t8,t24,t25,t26,zJ,g0,y1,y2,y3,y4,YK,VN,YI,QM,Qe])
  refine qrr H hB3 R3 F.nd (by omega) (fun s6 b N' K' hF6 hB6 A6 R6=>?_)
  have hE6:Ext s s6:=hF6.ext (hE.trans hE3) (by omega) (by omega)
  rcases A6.fin F hene (by omega) with⟨rfl,a1,a2⟩|⟨rfl,a1⟩
  ·rw[a1] at ha
   repeat (first|with_reducible (refine q9 H ?_;constructor)|simp only[rB,rP,rQ,q8,qa,q7,qb,reduceIte,reduceCtorEq,Nat.reduceAdd,Nat.reduceLT,Nat.reduceEqDiff,UInt8.reduceToNat,pe3,pf3,t8,t24,t25,t26,Bool.not_true,qI,ew])
   refine ih n _ _ (Nat.lt_succ_self n) ⟨k+1,N',K',by omega,by simp only[rB,rP,rQ,q8,qa,q7,qb,reduceIte,reduceCtorEq,Nat.reduceAdd,Nat.reduceLT,Nat.reduceEqDiff,UInt8.reduceToNat,t8],by simp only[rB,rP,rQ,q8,qa,q7,qb,reduceIte,reduceCtorEq,Nat.reduceAdd,Nat.reduceLT,Nat.reduceEqDiff,UInt8.reduceToNat,t24],by simp only[rB,rP,rQ,q8,qa,q7,qb,reduceIte,reduceCtorEq,Nat.reduceAdd,Nat.reduceLT,Nat.reduceEqDiff,UInt8.reduceToNat,t25],by simp only[rB,rP,rQ,q8,qa,q7,qb,reduceIte,reduceCtorEq,Nat.reduceAdd,Nat.reduceLT,Nat.reduceEqDiff,UInt8.reduceToNat],hE6,hB6,R6,a2,fun q hq'=>?_,ha⟩
   rcases qgu a1 q hq' with h|h
   ·exact hq q h
   ·rw[h];exact he140
  ·rw[a1] at ha
   repeat (first|with_reducible (refine q9 H ?_;constructor)|simp only[rB,rP,rQ,q8,qa,q7,qb,reduceIte,reduceCtorEq,Nat.reduceAdd,Nat.reduceLT,Nat.reduceEqDiff,UInt8.reduceToNat,pe3,pf3,t8,t24,t25,t26,Bool.not_false,Tryz.results88])
   exact hf s6 (by rw[ha]) hE6 hB6
def Xp:List En→List (List En)→Option (List En)
 | es,[]=>some es
 | es,l::r=>match Wj es l with
  | none=>none
  | some es'=>Xp es' r
def YV (im:List (List En)):Option (List En):=bif decide ((im.length:Int) > 12) then none else Xp [] im
theorem Kw:∀ {es:List En} {k:Nat} {e:En},es[k]?=some e→ZF (k * 4) 4 (Q8 es)=some (celE e)
 | [],k,e,h=>by simp at h
 | a::l,0,e,h=>by
  simp at h
  subst h
  rfl
 | a::l,k+1,e,h=>by
  have ih:=Kw (es:=l) (k:=k) (e:=e) (by simpa using h)
  have e1:(k+1) * 4=k * 4+4:=by omega
  rw[e1]
  exact ih
theorem W9:∀ {es:List En},Zr (Q8 es) (Q8 es)=true
 | []=>rfl
 | e::l=>by
  have ih:=W9 (es:=l)
  have:=qN (e:=e)
  unfold celE at this
  simp only[Q8,Zr] at this ⊢
  simp only[ih,Bool.and_true] at this ⊢
  exact this
theorem ErB.esvM {b:Nat} {s:St} {V:AV} {es:List En} (h:ErB b s V es):EsV s V es:=by
 rcases h with⟨h1,h2⟩|⟨id,_,h1,h2⟩
 ·exact Or.inl ⟨⟨_,_,h1⟩,h2⟩
 ·exact Or.inr (Or.inr ⟨id,0,0,es.length,false,_,_,h1,h2,Or.inl ⟨_,rfl⟩,W9,fun k e hk=>by rw[Nat.zero_add];exact Kw hk⟩)
def LsV (s:St) (V:AV) (im:List (List En)):Prop:=((∃ a c,V=.raw (.slice a 0 c))∧im=[])∨(∃ id off ci l z,V=.esl id off ci l z∧im=[]) ∨
 ∃ id off ci cap ex cs ob,V=.slice id off im.length ci cap ex∧s.h.get id=some ob∧((∃ fz,ob=.cells cs 49 fz)∨ob=.old cs)∧∀ k es,im[k]?=some es→∃ W,cs[off+k]?=some W∧EsV s W es∧qp4 W∧W.cells=[W]∧W.one=true
theorem LsV.len {s:St} {V:AV} {im:List (List En)} (h:LsV s V im):∀ s',Q5 TE s' [22] [V]=some (.raw (.int .i64 (im.length:Int))):=by
 intro s'
 rcases h with⟨⟨a,c,rfl⟩,rfl⟩|⟨id,off,ci,l,z,rfl,rfl⟩|⟨id,off,ci,cap,ex,cs,fz,rfl,_⟩ <;> kernel_rfl
theorem LsV.ids {s:St} {V:AV} {im:List (List En)} (h:LsV s V im):QG V=[]:=by
 rcases h with⟨⟨a,c,rfl⟩,rfl⟩|⟨id,off,ci,l,z,rfl,rfl⟩|⟨id,off,ci,cap,ex,cs,fz,rfl,_⟩ <;> rfl
theorem LsV.one {s:St} {V:AV} {im:List (List En)} (h:LsV s V im):V.cells=[V]∧V.one=true:=by
 rcases h with⟨⟨a,c,rfl⟩,rfl⟩|⟨id,off,ci,l,z,rfl,rfl⟩|⟨id,off,ci,cap,ex,cs,fz,rfl,_⟩ <;> exact⟨rfl,rfl⟩
theorem LsV.ext {s s':St} {V:AV} {im:List (List En)} (h:LsV s V im) (hB:qc s) (hE:Ext s s'):LsV s' V im:=by
 rcases h with h|h|⟨id,off,ci,cap,ex,cs,ob,h1,h2,h3,h4⟩
 ·exact Or.inl h
 ·exact Or.inr (Or.inl h)
 ·refine Or.inr (Or.inr ⟨id,off,ci,cap,ex,cs,ob,h1,(hE.2 _ (hB _ _ h2)).trans h2,h3,fun k es hk=>?_⟩)
  obtain⟨W,a1,a2,a3⟩:=h4 k es hk
  exact⟨W,a1,a2.ext hB hE,a3⟩
theorem ql6:∀ {l:List AV} {o:Nat} {x:AV},l[o]?=some x→ZF o 1 l=some [x]
 | [],o,x,h=>by simp at h
 | y::l,0,x,h=>by
  simp at h
  subst h
  simp[ZF,ZB,ZJ]
 | y::l,o+1,x,h=>by
  have:=ql6 (l:=l) (o:=o) (by simpa using h)
  simpa [ZF,ZB] using this
theorem q1w {id off n ci cap k:Nat} {ex:Bool} (h:k < n):qL TE 22 (.slice id off n ci cap ex) (.raw (.int .i64 (k:Int)))=some (.ptr id (off+k * 1)):=by
 have e:qL TE 22 (.slice id off n ci cap ex) (.raw (.int .i64 (k:Int)))=(bif Nat.blt k n then some (.ptr id (off+k * 1)) else none):=by kernel_rfl
 rw[e,Nat.blt_eq.mpr h]
 rfl
theorem LsV.idx {s:St} {V:AV} {im:List (List En)} (h:LsV s V im) {k:Nat} {es:List En} (hk:im[k]?=some es):∃ id o W,qL TE 22 V (.raw (.int .i64 (k:Int)))=some (.ptr id o)∧Q3 TE s 49 (.ptr id o)=some (.agg [W])∧(∀ b,inO (s.h.get id) b=b)∧EsV s W es∧qp4 W∧W.cells=[W]∧W.one=true:=by
 rcases h with⟨⟨a,c,rfl⟩,rfl⟩|⟨id,off,ci,l,z,rfl,rfl⟩|⟨id,off,ci,cap,ex,cs,ob,rfl,hg,ho,hc⟩
 ·simp at hk
 ·simp at hk
 ·have hlt:=(List.getElem?_eq_some_iff.mp hk).1
  obtain⟨W,a1,a2,a3,a4,a5⟩:=hc k es hk
  have hcut:ZF (off+k * 1) 1 cs=some [W]:=ql6 (by rw[Nat.mul_one];exact a1)
  rcases ho with⟨fz,rfl⟩|rfl
  ·exact⟨id,off+k * 1,W,q1w hlt,qlx qpw hg hcut,fun b=>by rw[hg];rfl,a2,a3,a4,a5⟩
  ·exact⟨id,off+k * 1,W,q1w hlt,qgw qpw hg hcut,fun b=>by rw[hg];rfl,a2,a3,a4,a5⟩
theorem q0j {s:St}:Z5 TE s 49=some (.ptr s.nx 0,s.alloc (.cells [.raw (.slice none 0 0)] 49 0)):=by
 have:zt TE 49=some (.agg [.raw (.slice none 0 0)]):=by kernel_rfl
 simp only[Z5,this];rfl
theorem qx9:qez TE 49=1:=by kernel_rfl
theorem q6x {s:St} {x:Nat} {W:AV} (hW:W.one=true):Qu TE s 49 (.ptr x 0) (.agg [W])=stA s x (s.h.get x) [W]:=by
 have hs:=qx9
 unfold qez at hs
 cases ht:TE.info 49 with
 | none=>rw[ht] at hs;cases hs
 | some ti =>
  rw[ht] at hs
  simp only at hs
  have hall:([W]:List AV).all AV.one=true:=by simp[hW]
  simp only[Qu,ht,hs,qf,zj]
  show (bif true then (match qY s x with
   | some (cs,el,fz)=>bif ([W]:List AV).all AV.one then (match JW cs 0 [W] with|some cs'=>some { s with h:=s.h.set x (.cells cs' el fz) } | none=>none) else none
   | none=>none) else none)=_
  rw[hall]
  simp only[cond_true,stA,qY]
  cases s.h.get x with
  | none=>rfl
  | some y=>cases y <;> rfl
theorem q1d {s:St} {x el fz:Nat} {a0 W:AV}:stA s x (some (.cells [a0] el fz)) [W]=some { s with h:=s.h.set x (.cells [W] el fz) }:=(rfl)
theorem WG {x:Nat}:qk TE 24 (.ptr x 0) 0=some (.ptr x 0):=by kernel_rfl
theorem qjs {s:St} {x o:Nat}:Q3 TE s 22 (.ptr x o)=ldO (s.h.get x) o:=by rw[ZP (by kernel_rfl),qdt]
theorem qv9 {s:St} (H:Ok TE Tryz.prog pr3) (hB:qc s) {V:AV} {im:List (List En)} (hI:LsV s V im) (hp:∀ es∈im,∀ e∈es,e.1.length≤1048575) {kr kp:AV→St→Bool}
  (hk:∀ s' W out,YV im=some out→Ext s s'→qc s'→ErB s.nx s' W out→(∀ e∈out,e.1.length≤140)→out.length≤128→kr (.tuple [W,.raw (.int .i64 0)]) s'=true)
  (hf:∀ s',YV im=none→Ext s s'→qc s'→kr (.tuple [.raw (.slice none 0 0),.raw (.int .i64 1400)]) s'=true) :
  (sem Tryz.prog).call 49 [.agg [V]] s kr kp=true:=by
 refine qp H 32 q8r rfl rfl ?_
 have hB1:qc (s.alloc (.cells [V] 24 0)):=qx hB _
 have hE1:Ext s (s.alloc (.cells [V] 24 0)):=Ext.alloc s _
 have c1:(s.alloc (.cells [V] 24 0)).h.get s.nx=some (.cells [V] 24 0):=qu
 unfold YV at hk hf
 have vl:=hI.len
 have vi:=hI.ids
 repeat (first|with_reducible (refine q9 H ?_;constructor)|simp only[rB,rP,rQ,q8,qa,q7,qb,reduceIte,reduceCtorEq,Nat.reduceAdd,Nat.reduceLT,Nat.reduceEqDiff,UInt8.reduceToNat,pe3,pf3,qf])
 generalize s.alloc (.cells [V] 24 0)=s1 at *
 cases hl:decide ((im.length:Int) > 12) with
 | true =>
  rw[hl] at hf
  repeat (first|with_reducible (refine q9 H ?_;constructor)|simp only[rB,rP,rQ,q8,qa,q7,qb,reduceIte,reduceCtorEq,Nat.reduceAdd,Nat.reduceLT,Nat.reduceEqDiff,UInt8.reduceToNat,pe3,pf3,c1,WG,qjs,vl,vi,zD,hl,Tryz.results49])
  exact hf s1 rfl hE1 hB1
 | false =>
 rw[hl] at hk hf
 simp only[cond_false] at hk hf
 have hl2:=of_decide_eq_false hl
 repeat (first|with_reducible (refine q9 H ?_;constructor)|simp only[rB,rP,rQ,q8,qa,q7,qb,reduceIte,reduceCtorEq,Nat.reduceAdd,Nat.reduceLT,Nat.reduceEqDiff,UInt8.reduceToNat,pe3,pf3,c1,WG,qjs,vl,vi,zD,hl])
 refine qB H (fun n t s'=>∃ (k:Nat) (W:AV) (cur:List En),n+k=im.length∧tg t 4=W∧tg t 14=V∧tg t 15=.raw (.int .i64 (im.length:Int))∧tg t 16=.raw (.int .i64 (k:Int))∧Ext s s'∧qc s'∧ErB s.nx s' W cur∧(∀ e∈cur,e.1.length≤140)∧cur.length≤128∧Xp [] im=Xp cur (im.drop k)) (n:=im.length)
  ⟨0,_,[],rfl,by simp only[rB,rP,rQ,q8,qa,q7,qb,reduceIte,reduceCtorEq,Nat.reduceAdd,Nat.reduceLT,Nat.reduceEqDiff,UInt8.reduceToNat];rfl,by simp only[rB,rP,rQ,q8,qa,q7,qb,reduceIte,reduceCtorEq,Nat.reduceAdd,Nat.reduceLT,Nat.reduceEqDiff,UInt8.reduceToNat],by simp only[rB,rP,rQ,q8,qa,q7,qb,reduceIte,reduceCtorEq,Nat.reduceAdd,Nat.reduceLT,Nat.reduceEqDiff,UInt8.reduceToNat],by simp only[rB,rP,rQ,q8,qa,q7,qb,reduceIte,reduceCtorEq,Nat.reduceAdd,Nat.reduceLT,Nat.reduceEqDiff,UInt8.reduceToNat];rfl,hE1,hB1,Or.inl ⟨rfl,rfl⟩,fun _ h=>(by cases h),Nat.zero_le _,rfl⟩ ?_
 rintro n t s' ih ⟨k,W,cur,hnk,t4,t14,t15,t16,hE,hB',hW,hc140,hc128,hm⟩
 cases n with
 | zero =>
  have g0:decide ((k:Int) < (im.length:Int))=false:=by rw[decide_eq_false_iff_not];omega
  rw[List.drop_eq_nil_of_le (by omega)] at hm
  simp only[Xp] at hm
  repeat (first|with_reducible (refine q9 H ?_;constructor)|simp only[rB,rP,rQ,q8,qa,q7,qb,reduceIte,reduceCtorEq,Nat.reduceAdd,Nat.reduceLT,Nat.reduceEqDiff,UInt8.reduceToNat,pe3,pf3,t4,t14,t15,t16,zJ,g0,Tryz.results49])
  exact hk s' W cur hm hE hB' hW hc140 hc128
 | succ n =>
  have g0:decide ((k:Int) < (im.length:Int))=true:=by rw[decide_eq_true_eq];omega
  have hlt:k < im.length:=by omega
  have hke:im[k]?=some im[k]:=List.getElem?_eq_getElem hlt
  have hmem:im[k]∈im:=List.getElem_mem hlt
  rw[List.drop_eq_getElem_cons hlt] at hm
  generalize im[k]=es at hke hmem hm
  simp only[Xp] at hm
  have hI':=hI.ext hB hE
  obtain⟨id,o,X,y1,y2,y4,x1,x2,x3,x4⟩:=hI'.idx hke
  have hB3:qc { h:=(s'.alloc (.cells [.raw (.slice none 0 0)] 49 0)).h.set s'.nx (.cells [X] 49 0),nx:=s'.nx+1 }:=zy hB'
  have hE3:Ext s' { h:=(s'.alloc (.cells [.raw (.slice none 0 0)] 49 0)).h.set s'.nx (.cells [X] 49 0),nx:=s'.nx+1 }:=Q7
  have c3:({ h:=(s'.alloc (.cells [.raw (.slice none 0 0)] 49 0)).h.set s'.nx (.cells [X] 49 0),nx:=s'.nx+1 }:St).h.get s'.nx=some (.cells [X] 49 0):=hs_same
  have ew:IntKind.i64.wrap ((k:Int)+1)=((k+1:Nat):Int):=by
   rw[show (k:Int)+1=((k+1:Nat):Int) from by simp]
   exact qU (by omega)
  have stl:=fun {s:St} {x:Nat}=>q6x (s:=s) (x:=x) x4
  generalize hS3:({ h:=(s'.alloc (.cells [.raw (.slice none 0 0)] 49 0)).h.set s'.nx (.cells [X] 49 0),nx:=s'.nx+1 }:St)=s3 at *
  repeat (first|with_reducible (refine q9 H ?_;constructor)|simp only[rB,rP,rQ,q8,qa,q7,qb,reduceIte,reduceCtorEq,Nat.reduceAdd,Nat.reduceLT,Nat.reduceEqDiff,UInt8.reduceToNat,pe3,pf3,t4,t14,t15,t16,zJ,g0,y1,y2,y4,q0j,stl,q1d,hS3,c3,qmt,Xk])
  refine qsn H hB3 (hW.esvM.ext hB' hE3) (fun e he=>by have:=hc140 e he;omega) (by omega) (x1.ext hB' hE3) x2 (hp es hmem) x3 x4 (fun s4 W' out a1 a2 a3 a4 a5 a6=>?_) (fun s4 a1 a2 a3=>?_)
  ·rw[a1] at hm
   have g1:((0:Int) != 0)=false:=rfl
   repeat (first|with_reducible (refine q9 H ?_;constructor)|simp only[rB,rP,rQ,q8,qa,q7,qb,reduceIte,reduceCtorEq,Nat.reduceAdd,Nat.reduceLT,Nat.reduceEqDiff,UInt8.reduceToNat,pe3,pf3,t4,t14,t15,t16,qH,g1,qI,ew])
   refine ih n _ _ (Nat.lt_succ_self n) ⟨k+1,W',out,by omega,by simp only[rB,rP,rQ,q8,qa,q7,qb,reduceIte,reduceCtorEq,Nat.reduceAdd,Nat.reduceLT,Nat.reduceEqDiff,UInt8.reduceToNat],by simp only[rB,rP,rQ,q8,qa,q7,qb,reduceIte,reduceCtorEq,Nat.reduceAdd,Nat.reduceLT,Nat.reduceEqDiff,UInt8.reduceToNat,t14],by simp only[rB,rP,rQ,q8,qa,q7,qb,reduceIte,reduceCtorEq,Nat.reduceAdd,Nat.reduceLT,Nat.reduceEqDiff,UInt8.reduceToNat,t15],by simp only[rB,rP,rQ,q8,qa,q7,qb,reduceIte,reduceCtorEq,Nat.reduceAdd,Nat.reduceLT,Nat.reduceEqDiff,UInt8.reduceToNat],(hE.trans hE3).trans a2,a3,?_,a5,a6,hm⟩
   rcases a4 with h|⟨id,w1,w2,w3⟩
   ·exact Or.inl h
   ·exact Or.inr ⟨id,Nat.le_trans (hE.trans hE3).1 w1,w2,w3⟩
  ·rw[a1] at hm
   have g1:((1400:Int) != 0)=true:=rfl
   repeat (first|with_reducible (refine q9 H ?_;constructor)|simp only[rB,rP,rQ,q8,qa,q7,qb,reduceIte,reduceCtorEq,Nat.reduceAdd,Nat.reduceLT,Nat.reduceEqDiff,UInt8.reduceToNat,pe3,pf3,t4,t14,t15,t16,qH,g1,Tryz.results49])
   exact hf s4 hm ((hE.trans hE3).trans a2) a3
end Go.AX
