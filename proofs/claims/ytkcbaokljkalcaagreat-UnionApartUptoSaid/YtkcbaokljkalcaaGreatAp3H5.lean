import Derived.Test.YtkcbaokljkalcaaGreatAp3H3
import Derived.Test.YtkcbaokljkalcaaGreatAp3H2
import Derived.Test.YtkcbaokljkalcaaGreatAp3H4
set_option linter.unusedVariables false
set_option linter.unusedSimpArgs false
set_option linter.defProp false
namespace Go.AX
open Go.Proofs Go.RowKit
set_option maxRecDepth 1000000
set_option maxHeartbeats 400000000
set_option linter.unusedSimpArgs false
set_option linter.unusedVariables false
theorem qvr {p q:List Nat}:hpB p q=true↔∃ r,p=q++r:=by
 unfold hpB
 constructor
 ·intro h
  cases hd:decide ((p.length:Int) ≥ (q.length:Int)) with
  | false=>rw[hd] at h;cases h
  | true =>
   rw[hd,cond_true] at h
   have e:p.take q.length=q:=by rw[qG] at h;exact of_decide_eq_true h
   exact⟨p.drop q.length,by conv=>lhs;rw[← List.take_append_drop q.length p,e]⟩
 ·rintro⟨r,rfl⟩
  have:decide (((q++r).length:Int) ≥ (q.length:Int))=true:=by rw[decide_eq_true_eq,List.length_append];omega
  rw[this,cond_true,List.take_left,qG,decide_eq_true_eq]
theorem belK_iff {p q:List Nat}:XJ p q=true↔∃ r,q=p++47::r:=by
 unfold XJ
 rw[qvr]
 simp[List.append_assoc]
theorem qb2 {b:List Nat} {c:Nat}:∀ {n i:Nat},Zj b c n=(i:Int)→b[i]?=some c
 | 0,i,h=>by simp only[Zj] at h;omega
 | n+1,i,h=>by
  simp only[Zj] at h
  cases hx:b[n]? with
  | none =>
   rw[hx] at h
   exact qb2 h
  | some x =>
   rw[hx] at h
   simp only at h
   cases hb:Nat.beq x c with
   | true =>
    rw[hb,cond_true] at h
    have:n=i:=by omega
    rw[← this,hx,Nat.eq_of_beq_eq_true hb]
   | false =>
    rw[hb,cond_false] at h
    exact qb2 h
theorem qjs {b:List Nat} {c:Nat}:∀ {n i:Nat},i < n→b[i]?=some c→(i:Int)≤Zj b c n
 | 0,i,h,_=>by omega
 | n+1,i,h,hi=>by
  simp only[Zj]
  by_cases e:i=n
  ·subst e
   rw[hi]
   simp only[Nat.beq_refl,cond_true]
   exact Int.le_refl _
  ·have ih:=qjs (n:=n) (by omega) hi
   cases hx:b[n]? with
   | none=>exact ih
   | some x =>
    simp only
    cases Nat.beq x c with
    | true=>simp only[cond_true];omega
    | false=>exact ih
theorem Xc {k p:List Nat} (h:upE k=p) (hp:p≠[]):XJ p k=true:=by
 have hl:=XX (b:=k) (c:=47) (n:=k.length)
 have hc:=qbt (p:=k)
 have hlen:p.length=Y2 k:=by rw[← h];unfold upE;rw[List.length_take];omega
 have hpos:0 < p.length:=List.length_pos_iff.mpr hp
 have hI:Zj k 47 k.length=((Y2 k:Nat):Int):=by unfold Y2;unfold Y2 at hlen;omega
 have hat:=qb2 hI
 rw[belK_iff]
 have hlt:Y2 k < k.length:=(List.getElem?_eq_some_iff.1 hat).1
 refine⟨k.drop (Y2 k+1),?_⟩
 have e1:k=k.take (Y2 k)++k.drop (Y2 k):=(List.take_append_drop _ _).symm
 have e2:k.drop (Y2 k)=47::k.drop (Y2 k+1):=by
  rw[List.drop_eq_getElem_cons hlt,(List.getElem?_eq_some_iff.1 hat).2]
 rw[← h]
 unfold upE
 rw[← e2]
 exact e1
theorem qtf {p k:List Nat} (hp:p≠[]) (h:XJ p k=true):upE k=p∨(XJ p (upE k)=true∧upE k≠[]∧(upE k).length < k.length):=by
 rw[belK_iff] at h
 obtain⟨r,rfl⟩:=h
 have hat:(p++47::r)[p.length]?=some 47:=by rw[List.getElem?_append_right (Nat.le_refl _)];simp
 have hlt:p.length < (p++47::r).length:=by simp
 have hge:=qjs hlt hat
 have hl:=XX (b:=p++47::r) (c:=47) (n:=(p++47::r).length)
 have hc:Y2 (p++47::r)=(Zj (p++47::r) 47 (p++47::r).length).toNat:=rfl
 have hle:=qbt (p:=p++47::r)
 by_cases e:Y2 (p++47::r)=p.length
 ·refine Or.inl ?_
  unfold upE
  rw[e,List.take_left]
 ·refine Or.inr ?_
  obtain⟨d,hd⟩:∃ d,Y2 (p++47::r)=p.length+(d+1):=⟨Y2 (p++47::r) - p.length - 1,by omega⟩
  have hu:upE (p++47::r)=p++47::r.take d:=by
   unfold upE
   rw[hd,List.take_length_add_append,List.take_succ_cons]
  rw[hu]
  refine⟨belK_iff.2 ⟨_,rfl⟩,by simp,?_⟩
  rw[← hu]
  unfold upE
  rw[List.length_take]
  omega
theorem KQ {p q k:List Nat} (h1:XJ p q=true) (h2:XJ q k=true):XJ p k=true:=by
 rw[belK_iff] at *
 obtain⟨r,rfl⟩:=h1
 obtain⟨r',rfl⟩:=h2
 exact⟨r++47::r',by simp[List.append_assoc]⟩
theorem qj0 {p:List Nat}:XJ p p=false:=by
 rw[← Bool.not_eq_true,belK_iff]
 rintro⟨r,h⟩
 have:=congrArg List.length h
 simp at this
theorem qzc {p:List Nat} (hp:p≠[]):(upE p).length < p.length:=by
 have hl:=XX (b:=p) (c:=47) (n:=p.length)
 have hpos:0 < p.length:=List.length_pos_iff.mpr hp
 unfold upE Y2
 rw[List.length_take]
 omega
theorem Vk {p:List Nat} (hp:p≠[]):upE p≠p:=fun h=>by have:=qzc hp;rw[h] at this;omega
theorem Vr {p:List Nat} (hp:p≠[]):XJ p (upE p)=false:=by
 rw[← Bool.not_eq_true,belK_iff]
 rintro⟨r,h⟩
 have h1:=qzc hp
 rw[h] at h1
 simp at h1
 omega
theorem ZL {α:Type} {p:List Nat} {v:α}:∀ {l:List (List Nat × α)},qC p l=some v→(p,v)∈l
 | [],h=>by cases h
 | (q,w)::l,h=>by
  simp only[qC] at h
  cases he:eqB p q with
  | true =>
   rw[he,cond_true] at h
   rw[qG] at he
   cases h
   rw[of_decide_eq_true he]
   exact List.mem_cons_self
  | false =>
   rw[he] at h
   exact List.mem_cons_of_mem _ (ZL h)
theorem lookG_none {α:Type} {p:List Nat}:∀ {l:List (List Nat × α)},qC p l=none↔p∉l.map (·.1)
 | []=>by simp[qC]
 | (q,w)::l=>by
  have ih:=lookG_none (p:=p) (l:=l)
  simp only[qC,List.map_cons,List.mem_cons,not_or]
  cases he:eqB p q with
  | true =>
   rw[qG] at he
   have:=of_decide_eq_true he
   simp[this]
  | false =>
   rw[qG] at he
   have:=of_decide_eq_false he
   simp[this,ih]
theorem XC {α:Type} {p:List Nat} {v w:α}:∀ {l:List (List Nat × α)},qC p l=some w→(Jb p v l).map (·.1)=l.map (·.1)
 | [],h=>by cases h
 | (q,x)::l,h=>by
  simp only[qC] at h
  simp only[Jb]
  cases he:eqB p q with
  | true =>
   rw[qG] at he
   simp[of_decide_eq_true he]
  | false =>
   rw[he] at h
   simp[XC h]
theorem qee {α:Type} {p:List Nat}:∀ {l:List (List Nat × α)},(Yf p l).map (·.1)=(l.map (·.1)).erase p
 | []=>rfl
 | (q,x)::l=>by
  simp only[Yf,List.map_cons,List.erase_cons]
  cases he:eqB p q with
  | true =>
   rw[qG] at he
   simp[of_decide_eq_true he]
  | false =>
   rw[qG] at he
   have:=of_decide_eq_false he
   have h2:(q==p)=false:=by rw[beq_eq_false_iff_ne];exact fun h=>this h.symm
   simp[h2,qee (l:=l)]
theorem delG_sub {α:Type} {p:List Nat}:∀ {l:List (List Nat × α)},(Yf p l).Sublist l
 | []=>List.Sublist.refl _
 | (q,x)::l=>by
  simp only[Yf]
  cases eqB p q with
  | true=>exact List.sublist_cons_self _ _
  | false=>exact List.Sublist.cons_cons _ delG_sub
theorem Vu {α:Type} {p q:List Nat} {v:α}:∀ {l:List (List Nat × α)},qC q (Jb p v l)=if q=p then some v else qC q l
 | []=>by
  simp only[Jb,qC]
  cases he:eqB q p with
  | true=>rw[qG] at he;simp[of_decide_eq_true he]
  | false=>rw[qG] at he;simp[of_decide_eq_false he]
 | (r,x)::l=>by
  have ih:=Vu (p:=p) (q:=q) (v:=v) (l:=l)
  simp only[Jb]
  cases he:eqB p r with
  | true =>
   rw[qG] at he
   have:=of_decide_eq_true he
   subst this
   simp only[cond_true,qC]
   cases h2:eqB q p with
   | true=>rw[qG] at h2;simp[of_decide_eq_true h2]
   | false=>rw[qG] at h2;simp[of_decide_eq_false h2]
  | false =>
   rw[qG] at he
   have hpr:=of_decide_eq_false he
   simp only[cond_false,qC,ih]
   cases h2:eqB q r with
   | true =>
    rw[qG] at h2
    have:=of_decide_eq_true h2
    subst this
    have:¬ q=p:=fun h=>hpr h.symm
    simp[this]
   | false=>rfl
theorem Jz {α:Type} {p q:List Nat}:∀ {l:List (List Nat × α)},(l.map (·.1)).Nodup→qC q (Yf p l)=if q=p then none else qC q l
 | [],_=>by simp[Yf,qC]
 | (r,x)::l,hn=>by
  simp only[List.map_cons,List.nodup_cons] at hn
  have ih:=Jz (p:=p) (q:=q) (l:=l) hn.2
  simp only[Yf]
  cases he:eqB p r with
  | true =>
   rw[qG] at he
   have:=of_decide_eq_true he
   subst this
   simp only[cond_true,qC]
   by_cases h:q=p
   ·subst h
    rw[if_pos rfl]
    exact lookG_none.2 hn.1
   ·have:eqB q p=false:=by rw[qG];exact decide_eq_false h
    simp[this,h]
  | false =>
   rw[qG] at he
   have hpr:=of_decide_eq_false he
   simp only[cond_false,qC,ih]
   cases h2:eqB q r with
   | true =>
    rw[qG] at h2
    have:=of_decide_eq_true h2
    subst this
    have:¬ q=p:=fun h=>hpr h.symm
    simp[this]
   | false=>rfl
theorem qa7 {α:Type} {p:List Nat} {v:α} {l:List (List Nat × α)} (h:(l.map (·.1)).Nodup):((Jb p v l).map (·.1)).Nodup:=by
 cases hl:qC p l with
 | some w=>rw[XC hl];exact h
 | none =>
  rw[ZB l hl,List.map_append,List.nodup_append]
  refine⟨h,by simp,fun a ha b hb=>?_⟩
  simp at hb
  subst hb
  intro e
  subst e
  exact lookG_none.1 hl ha
theorem qad {α:Type} {p:List Nat} {l:List (List Nat × α)} (h:(l.map (·.1)).Nodup):((Yf p l).map (·.1)).Nodup:=h.sublist (delG_sub.map _)
theorem qk2 {D:List (List Nat)} {q:List Nat}:∀ {K:List (List Nat × Int)},(K.map (·.1)).Nodup→((YO D K).map (·.1)).Nodup∧qC q (YO D K)=if q∈D then none else qC q K:=by
 induction D with
 | nil=>intro K h;exact⟨h,by simp[YO]⟩
 | cons d D ih =>
  intro K h
  have h':=qad (p:=d) h
  obtain⟨i1,i2⟩:=ih h'
  have e:YO (d::D) K=YO D (Yf d K):=rfl
  rw[e]
  refine⟨i1,?_⟩
  rw[i2,Jz h]
  by_cases hq:q∈D
  ·simp[hq]
  ·by_cases hd:q=d
   ·simp[hd]
   ·simp[hq,hd]
def qV (N:List (List Nat × En)):List (List Nat):=N.map (·.1)
def upB (q k:List Nat):Bool:=eqB (upE k) q
structure FI (B:Nat) (N:List (List Nat × En)) (K:List (List Nat × Int)):Prop where
 nd:(qV N).Nodup
 kd:(K.map (·.1)).Nodup
 key:∀ x∈N,x.2.1=x.1
 par:∀ k∈qV N,upE k≠[]→upE k∈qV N
 cnt:∀ q,(qC q K).getD 0=((qV N).countP (upB q):Int)
 len:N.length≤B
 ne:[]∉qV N
theorem FI.zero:FI 0 [] []:=⟨by simp[qV],by simp,by simp,by simp[qV],fun q=>by simp[qC,qV],Nat.le_refl _,by simp[qV]⟩
def qbg (p:List Nat) (N:List (List Nat × En)):List (List Nat × En):=Yf p (N.filter fun q=>!XJ p q.1)
theorem Ws {p:List Nat} {N:List (List Nat × En)}:qV (N.filter fun q=>!XJ p q.1)=(qV N).filter fun k=>!XJ p k:=by
 unfold qV
 induction N with
 | nil=>rfl
 | cons x l ih =>
  simp only[List.filter_cons,List.map_cons]
  cases XJ p x.1 <;> simp[ih]
theorem qda {p:List Nat} {N:List (List Nat × En)}:qV (qbg p N)=((qV N).filter fun k=>!XJ p k).erase p:=by
 unfold qbg
 rw[← Ws]
 exact qee
theorem Vz {p k:List Nat} {N:List (List Nat × En)} (hn:(qV N).Nodup):k∈qV (qbg p N)↔k∈qV N∧XJ p k=false∧k≠p:=by
 rw[qda,List.Nodup.mem_erase_iff (hn.sublist List.filter_sublist),List.mem_filter]
 constructor
 ·rintro⟨h1,h2,h3⟩
  exact⟨h2,by simpa using h3,h1⟩
 ·rintro⟨h1,h2,h3⟩
  exact⟨h3,h1,by rw[h2];rfl⟩
theorem upB_iff {q k:List Nat}:upB q k=true↔upE k=q:=by unfold upB;rw[qG,decide_eq_true_eq]
theorem qk7 {N:List (List Nat × En)} (par:∀ k∈qV N,upE k≠[]→upE k∈qV N) {p:List Nat} (hp:p≠[]) (h0:(qV N).countP (upB p)=0):∀ n k,k.length≤n→k∈qV N→XJ p k=false:=by
 intro n
 induction n with
 | zero =>
  intro k hk _
  rw[← Bool.not_eq_true,belK_iff]
  rintro⟨r,rfl⟩
  simp at hk
 | succ n ih =>
  intro k hk hm
  rw[← Bool.not_eq_true]
  intro hb
  rcases qtf hp hb with h|⟨h1,h2,h3⟩
  ·rw[List.countP_eq_zero] at h0
   exact h0 k hm (upB_iff.2 h)
  ·have:=ih (upE k) (by omega) (par k hm h2)
   rw[this] at h1
   cases h1
theorem qz7 {x:Int} (h:-9000000000≤x∧x≤9000000000):IntKind.i64.wrap x=x:=Go.IntWalk.i64_in _ (by omega)
theorem qdj {p q:List Nat} {d:Int} {K:List (List Nat × Int)}:(qC q (Xm p d K)).getD 0=if q=p then IntKind.i64.wrap ((qC p K).getD 0+d) else (qC q K).getD 0:=by
 unfold Xm
 rw[Vu]
 split <;> rfl
theorem FI.gone {B:Nat} {N:List (List Nat × En)} {K:List (List Nat × Int)} (F:FI B N K) {p:List Nat} (hp:p≠[]) (hB:B≤1000000) {old:En} (hm:qC p N=some old) {D:List (List Nat)} {N1:List (List Nat × En)} (hG:GoneD N K p D N1) :
  Yf p N1=qbg p N∧FI B (qbg p N) (Xm (upE p) (-1) (Yf p (YO D K)))∧qC p (qbg p N)=none∧(upE p≠[]→upE p∈qV (qbg p N)):=by
 have hpm:p∈qV N:=List.mem_map.2 ⟨_,ZL hm,rfl⟩
 have hbel:N1=N.filter (fun q=>!XJ p q.1)∧∀ d,d∈D↔d∈qV N∧XJ p d=true:=by
  rcases hG with⟨_,h1,h2⟩|⟨h0,h1,h2⟩
  ·exact⟨h1,h2⟩
  ·have hc:(qV N).countP (upB p)=0:=by
    have h3:decide ((qC p K).getD 0 > 0)=false:=by
     cases hd:decide ((qC p K).getD 0 > 0) with
     | false=>rfl
     | true=>rw[hd] at h0;cases h0
    have h4:=of_decide_eq_false h3
    rw[F.cnt p] at h4
    omega
   have nb:=fun k (hk:k∈qV N)=>qk7 F.par hp hc k.length k (Nat.le_refl _) hk
   refine⟨?_,fun d=>?_⟩
   ·rw[h1]
    refine (List.filter_eq_self.2 fun x hx=>?_).symm
    rw[nb x.1 (List.mem_map.2 ⟨x,hx,rfl⟩)]
    rfl
   ·rw[h2]
    simp only[List.not_mem_nil,false_iff]
    rintro⟨h3,h4⟩
    rw[nb d h3] at h4
    cases h4
 obtain⟨hN1,hD⟩:=hbel
 have eN:Yf p N1=qbg p N:=by rw[hN1];rfl
 have hnd:(qV (qbg p N)).Nodup:=by rw[qda];exact (F.nd.sublist List.filter_sublist).erase _
 have hsub:(qbg p N).Sublist N:=delG_sub.trans List.filter_sublist
 have hupm:upE p≠[]→upE p∈qV (qbg p N):=fun h=>(Vz F.nd).2 ⟨F.par p hpm h,Vr hp,Vk hp⟩
 have hlk:=fun q=>(qk2 (D:=D) (q:=q) F.kd)
 have hkd:((Yf p (YO D K)).map (·.1)).Nodup:=qad (hlk p).1
 refine⟨eN,⟨hnd,qa7 hkd,fun x hx=>F.key x (hsub.mem hx),fun k hk hu=>?_,fun q=>?_,Nat.le_trans hsub.length_le F.len,fun h=>F.ne ((Vz F.nd).1 h).1⟩,?_,hupm⟩
 ·obtain⟨h1,h2,h3⟩:=(Vz F.nd).1 hk
  refine (Vz F.nd).2 ⟨F.par k h1 hu,?_,?_⟩
  ·rw[← Bool.not_eq_true]
   intro hb
   rw[KQ hb (Xc rfl hu)] at h2
   cases h2
  ·intro e
   rw[Xc e hp] at h2
   cases h2
 ·have hlen:(qV N).countP (upB (upE p))≤1000000:=Nat.le_trans (Nat.le_trans List.countP_le_length (by rw[qV,List.length_map];exact F.len)) hB
  -- what the count comes to
  have c1:(qV (qbg p N)).countP (upB q)+(if upE p=q then 1 else 0)=((qV N).filter fun k=>!XJ p k).countP (upB q):=by
   have hpf:p∈(qV N).filter fun k=>!XJ p k:=List.mem_filter.2 ⟨hpm,by rw[qj0];rfl⟩
   have:=(List.perm_cons_erase hpf).countP_eq (upB q)
   rw[qda,this,List.countP_cons]
   by_cases h:upE p=q
   ·rw[if_pos h,if_pos (upB_iff.2 h)]
   ·rw[if_neg h,if_neg (fun e=>h (upB_iff.1 e))]
  have c2:((qV N).filter fun k=>!XJ p k).countP (upB q)=if q=p∨q∈D then 0 else (qV N).countP (upB q):=by
   by_cases hq:q=p∨q∈D
   ·rw[if_pos hq,List.countP_eq_zero]
    intro k hk hu
    have hu:=upB_iff.1 hu
    obtain⟨h1,h2⟩:=List.mem_filter.1 hk
    have h2:XJ p k=false:=by simpa using h2
    rcases hq with rfl|hq
    ·rw[Xc hu hp] at h2
     cases h2
    ·have hbq:=((hD q).1 hq).2
     have hqn:q≠[]:=fun e=>by
      rw[e] at hq
      exact F.ne ((hD []).1 hq).1
     rw[KQ hbq (Xc hu hqn)] at h2
     cases h2
   ·rw[if_neg hq]
    rw[List.countP_filter]
    refine List.countP_congr fun k hk=>?_
    constructor
    ·intro h
     exact (Bool.and_eq_true_iff.1 h).1
    ·intro h
     refine Bool.and_eq_true_iff.2 ⟨h,?_⟩
     have hu:=upB_iff.1 h
     cases hb:XJ p k with
     | false=>rfl
     | true =>
      exfalso
      rcases qtf hp hb with h1|⟨h1,h2,_⟩
      ·exact hq (Or.inl (hu.symm.trans h1))
      ·rw[hu] at h1 h2
       exact hq (Or.inr ((hD q).2 ⟨by rw[← hu];exact F.par k hk (by rw[hu];exact h2),h1⟩))
  rw[qdj]
  have lk:∀ z,(qC z (Yf p (YO D K))).getD 0=if z=p∨z∈D then 0 else ((qV N).countP (upB z):Int):=by
   intro z
   rw[Jz (hlk z).1,(hlk z).2]
   by_cases h1:z=p
   ·simp[h1]
   ·by_cases h2:z∈D
    ·simp[h1,h2]
    ·simp only[h1,h2,if_false,or_self]
     exact F.cnt z
  by_cases hq:q=upE p
  ·subst hq
   have n1:¬ (upE p=p∨upE p∈D):=by
    rintro (h|h)
    ·exact Vk hp h
    ·have:=((hD _).1 h).2
     rw[Vr hp] at this
     cases this
   rw[if_pos rfl,lk,if_neg n1]
   rw[if_pos rfl,c2,if_neg n1] at c1
   rw[qz7 (by omega)]
   omega
  ·rw[if_neg hq,lk]
   rw[if_neg (fun e=>hq e.symm),c2] at c1
   rw[Nat.add_zero] at c1
   rw[c1]
   split <;> rfl
 ·rw[lookG_none]
  intro h
  exact ((Vz F.nd).1 h).2.2 rfl
def WM (N:List (List Nat × En)) (e:En):Bool:=bif eqB (upE e.1) [] then true else !(((qC (upE e.1) N).getD enZ).2.1 != 1)
def ZN (N:List (List Nat × En)) (e:En):Option (List (List Nat × En)):=bif WM N e then (match qC e.1 N with
 | none=>bif e.2.1==4 then none else some (N++[(e.1,kd5 e)])
 | some old=>bif e.2.1==1&&old.2.1==1 then some (Jb e.1 (old.1,old.2.1,e.2.2.1,old.2.2.2) N) else bif e.2.1==4 then some (qbg e.1 N) else some (qbg e.1 N++[(e.1,kd5 e)])) else none
structure FI0 (B:Nat) (N:List (List Nat × En)) (K:List (List Nat × Int)):Prop where
 nd:(qV N).Nodup
 kd:(K.map (·.1)).Nodup
 key:∀ x∈N,x.2.1=x.1
 cnt:∀ q,(qC q K).getD 0=((qV N).countP (upB q):Int)
 len:N.length≤B
 ne:[]∉qV N
theorem FI.to0 {B:Nat} {N:List (List Nat × En)} {K:List (List Nat × Int)} (F:FI B N K):FI0 B N K:=⟨F.nd,F.kd,F.key,F.cnt,F.len,F.ne⟩
theorem FI0.to {B:Nat} {N:List (List Nat × En)} {K:List (List Nat × Int)} (F:FI0 B N K) (par:∀ k∈qV N,upE k≠[]→upE k∈qV N):FI B N K:=⟨F.nd,F.kd,F.key,par,F.cnt,F.len,F.ne⟩
theorem FI0.put {B:Nat} {N:List (List Nat × En)} {K:List (List Nat × Int)} (F:FI0 B N K) (hB:B≤1000000) {v:En} (hne:v.1≠[]) (hl:qC v.1 N=none):FI0 (B+1) (N++[(v.1,v)]) (Xm (upE v.1) 1 K):=by
 have hk:qV (N++[(v.1,v)])=qV N++[v.1]:=by simp[qV]
 have hnot:=lookG_none.1 hl
 refine⟨?_,qa7 F.kd,fun x hx=>?_,fun q=>?_,by simp;exact F.len,?_⟩
 ·rw[hk,List.nodup_append]
  refine⟨F.nd,by simp,fun a ha b hb=>?_⟩
  simp at hb
  subst hb
  intro e
  subst e
  exact hnot ha
 ·rcases List.mem_append.1 hx with h|h
  ·exact F.key x h
  ·simp at h;rw[h]
 ·have hc:(qV N).countP (upB q)≤1000000:=Nat.le_trans (Nat.le_trans List.countP_le_length (by rw[qV,List.length_map];exact F.len)) hB
  rw[qdj,hk,List.countP_append,List.countP_singleton]
  by_cases hq:q=upE v.1
  ·subst hq
   rw[if_pos rfl,F.cnt,if_pos (upB_iff.2 rfl),qz7 (by omega)]
   omega
  ·rw[if_neg hq,F.cnt,if_neg (fun e=>hq (upB_iff.1 e).symm)]
   omega
 ·rw[hk,List.mem_append]
  rintro (h|h)
  ·exact F.ne h
  ·simp at h;exact hne h
theorem FI.putP {B:Nat} {N:List (List Nat × En)} {K:List (List Nat × Int)} (F:FI B N K) (hB:B≤1000000) {v:En} (hne:v.1≠[]) (hl:qC v.1 N=none) (hp:upE v.1≠[]→upE v.1∈qV N):FI (B+1) (N++[(v.1,v)]) (Xm (upE v.1) 1 K):=by
 refine (F.to0.put hB hne hl).to fun k hk hu=>?_
 have hk':qV (N++[(v.1,v)])=qV N++[v.1]:=by simp[qV]
 rw[hk',List.mem_append] at hk ⊢
 rcases hk with h|h
 ·exact Or.inl (F.par k h hu)
 ·simp at h
  subst h
  exact Or.inl (hp hu)
theorem qew {N:List (List Nat × En)} {e:En} (h:eqB (upE e.1) []=true∨(((qC (upE e.1) N).getD enZ).2.1 != 1)=false):WM N e=true∧(upE e.1≠[]→upE e.1∈qV N):=by
 have h1:upE e.1≠[]→eqB (upE e.1) []=false:=fun hu=>by rw[qG];exact decide_eq_false hu
 constructor
 ·unfold WM
  cases h2:eqB (upE e.1) [] with
  | true=>rfl
  | false =>
   rcases h with h|h
   ·rw[h2] at h;cases h
   ·rw[h];rfl
 ·intro hu
  rcases h with h|h
  ·rw[h1 hu] at h;cases h
  ·cases hl:qC (upE e.1) N with
   | none=>rw[hl] at h;cases h
   | some w=>exact List.mem_map.2 ⟨_,ZL hl,rfl⟩
theorem ApR.fin {B:Nat} {N N':List (List Nat × En)} {K K':List (List Nat × Int)} {e:En} {b:Bool} (F:FI B N K) (hne:e.1≠[]) (hB:B≤1000000) (A:ApR N K e b N' K'):(b=true∧ZN N e=some N'∧FI (B+1) N' K')∨(b=false∧ZN N e=none):=by
 cases A with
 | up h1 h2 =>
  refine Or.inr ⟨rfl,?_⟩
  have:WM N e=false:=by unfold WM;rw[h1,h2];rfl
  unfold ZN
  rw[this]
  rfl
 | gone0 h1 h2 =>
  refine Or.inr ⟨rfl,?_⟩
  unfold ZN
  rw[h2,h1]
  cases WM N e <;> rfl
 | mode old h1 h2 h3 h4 =>
  refine Or.inl ⟨rfl,?_,?_⟩
  ·unfold ZN
   rw[(qew h1).1,h2,h3]
   simp[h4]
  ·have hk:qV (Jb e.1 (old.1,old.2.1,e.2.2.1,old.2.2.2) N)=qV N:=XC h2
   have ho:old.1=e.1:=F.key _ (ZL h2)
   refine⟨by rw[hk];exact F.nd,F.kd,fun x hx=>?_,by rw[hk];exact F.par,by rw[hk];exact F.cnt,?_,by rw[hk];exact F.ne⟩
   ·have:∀ {l:List (List Nat × En)},x∈Jb e.1 (old.1,old.2.1,e.2.2.1,old.2.2.2) l→x∈l∨x=(e.1,(old.1,old.2.1,e.2.2.1,old.2.2.2)):=by
     intro l
     induction l with
     | nil=>intro h;simp[Jb] at h;exact Or.inr h
     | cons y l ih =>
      obtain⟨q,w⟩:=y
      intro h
      simp only[Jb] at h
      cases hb:eqB e.1 q with
      | true =>
       rw[hb,cond_true] at h
       rcases List.mem_cons.1 h with h|h
       ·exact Or.inr h
       ·exact Or.inl (List.mem_cons_of_mem _ h)
      | false =>
       rw[hb,cond_false] at h
       rcases List.mem_cons.1 h with h|h
       ·exact Or.inl (h ▸ List.mem_cons_self)
       ·rcases ih h with h|h
        ·exact Or.inl (List.mem_cons_of_mem _ h)
        ·exact Or.inr h
    rcases this hx with h|h
    ·exact F.key x h
    ·rw[h];exact ho
   ·have:=congrArg List.length hk
    simp only[qV,List.length_map] at this
    have:=F.len
    omega
 | gone1 old D N1 h1 h2 h3 h4 =>
  obtain⟨g1,g2,g3,g4⟩:=F.gone hne hB h2 h4
  refine Or.inl ⟨rfl,?_,?_⟩
  ·unfold ZN
   rw[(qew h1).1,h2,h3,g1]
   rfl
  ·rw[g1]
   exact⟨g2.nd,g2.kd,g2.key,g2.par,g2.cnt,Nat.le_succ_of_le g2.len,g2.ne⟩
 | over old D N1 h1 h2 h3 h4 h5 =>
  obtain⟨g1,g2,g3,g4⟩:=F.gone hne hB h2 h5
  have e1:(e.2.1==1&&old.2.1==1)=false:=by
   cases ha:e.2.1==1 with
   | false=>rfl
   | true =>
    have:=h4 (by simpa using ha)
    simp[this]
  have e2:(e.2.1==4)=false:=by rw[beq_eq_false_iff_ne];exact h3
  refine Or.inl ⟨rfl,?_,?_⟩
  ·unfold ZN
   rw[(qew h1).1,h2]
   simp only[cond_true,e1,cond_false,e2]
   rw[g1,ZB _ g3]
  ·rw[g1,ZB _ g3]
   have:=g2.putP (v:=kd5 e) hB hne g3 g4
   exact this
 | new h1 h2 h3 =>
  have e2:(e.2.1==4)=false:=by rw[beq_eq_false_iff_ne];exact h3
  refine Or.inl ⟨rfl,?_,?_⟩
  ·unfold ZN
   rw[(qew h1).1,h2]
   simp only[cond_true,e2,cond_false]
   rw[ZB _ h2]
  ·rw[ZB _ h2]
   have:=F.putP (v:=kd5 e) hB hne h2 (qew h1).2
   exact this
def WQ:List (List Nat × En)→List En→Option (List (List Nat × En))
 | N,[]=>some N
 | N,e::l=>match ZN N e with
  | none=>none
  | some N'=>WQ N' l
def ZK (es:List En):List (List Nat × En):=es.map fun e=>(e.1,e)
theorem Jr {es:List En}:qV (ZK es)=es.map (·.1):=by simp[qV,ZK]
theorem Wv:∀ {es pre:List En} {K:List (List Nat × Int)} {B:Nat},FI0 B (ZK pre) K→((pre++es).map (·.1)).Nodup→[]∉es.map (·.1)→B+es.length≤1000000→(Z3 (ZK pre,K) es).1=ZK (pre++es)∧FI0 (B+es.length) (Z3 (ZK pre,K) es).1 (Z3 (ZK pre,K) es).2
 | [],pre,K,B,F,_,_,_=>by simpa [Z3] using F
 | e::l,pre,K,B,F,hn,h0,hB=>by
  have hne:e.1≠[]:=fun h=>h0 (by simp[h])
  have hl:qC e.1 (ZK pre)=none:=by
   rw[lookG_none]
   show e.1∉qV (ZK pre)
   rw[Jr]
   intro hm
   rw[List.map_append,List.nodup_append] at hn
   exact hn.2.2 _ hm e.1 (by simp) rfl
  have F1:=F.put (v:=e) (by simp at hB;omega) hne hl
  have ep:ZK pre++[(e.1,e)]=ZK (pre++[e]):=by simp[ZK]
  rw[ep] at F1
  have e0:Z3 (ZK pre,K) (e::l)=Z3 (ZK (pre++[e]),Xm (upE e.1) 1 K) l:=by
   simp only[Z3,ZB _ hl,ep]
  obtain⟨i1,i2⟩:=Wv (es:=l) F1 (by simpa using hn) (fun h=>h0 (by simp;exact Or.inr (by simpa using h))) (by simp at hB;omega)
  rw[e0]
  refine⟨by rw[i1];simp,?_⟩
  have:B+(e::l).length=B+1+l.length:=by simp;omega
  rw[this]
  exact i2
def unP:List (List Nat)→List Nat
 | []=>[]
 | [p]=>p
 | p::q::l=>p++47::unP (q::l)
theorem unP_pieces:∀ {b:List Nat},unP (qE b)=b∧qE b≠[]
 | []=>⟨rfl,by simp[qE]⟩
 | c::l=>by
  obtain⟨i1,i2⟩:=unP_pieces (b:=l)
  simp only[qE]
  cases hl:qE l with
  | nil=>exact absurd hl i2
  | cons p ps =>
   rw[hl] at i1
   cases hc:Nat.beq c 47 with
   | true =>
    have:=Nat.eq_of_beq_eq_true hc
    subst this
    refine⟨?_,by simp⟩
    simp only[cond_true,unP,List.nil_append,i1]
   | false =>
    refine⟨?_,by simp⟩
    simp only[cond_false]
    cases ps with
    | nil=>simp only[unP] at i1 ⊢;rw[i1]
    | cons q r=>simp only[unP,List.cons_append] at i1 ⊢;rw[i1]
theorem qeu {a b:List Nat} (h:qw a=qw b):a=b:=by
 cases a with
 | nil =>
  cases b with
  | nil=>rfl
  | cons y l=>exact absurd h.symm (unP_pieces (b:=y::l)).2
 | cons x k =>
  cases b with
  | nil=>exact absurd h (unP_pieces (b:=x::k)).2
  | cons y l =>
   have h:qE (x::k)=qE (y::l):=h
   have:=congrArg unP h
   rw[unP_pieces.1,unP_pieces.1] at this
   exact this
def qg0 (e:En):List En→List En
 | []=>[e]
 | x::l=>bif decide (Jh e.1 x.1 < 0) then e::x::l else x::qg0 e l
def Wz:List En→List En
 | []=>[]
 | e::l=>qg0 e (Wz l)
theorem insEn_perm {e:En}:∀ {l:List En},(qg0 e l).Perm (e::l)
 | []=>List.Perm.refl _
 | x::l=>by
  simp only[qg0]
  cases decide (Jh e.1 x.1 < 0) with
  | true=>exact List.Perm.refl _
  | false=>exact (List.Perm.cons x insEn_perm).trans (List.Perm.swap e x l)
theorem sortEn_perm:∀ {l:List En},(Wz l).Perm l
 | []=>List.Perm.refl _
 | e::l=>insEn_perm.trans (List.Perm.cons e sortEn_perm)
def Vt (l:List En):Prop:=l.Pairwise fun a b=>Jh a.1 b.1 < 0
theorem WY {e:En}:∀ {l:List En},Vt l→e.1∉l.map (·.1)→Vt (qg0 e l)
 | [],_,_=>by simp[Vt,qg0]
 | x::l,h,hm=>by
  simp only[Vt,List.pairwise_cons] at h
  simp only[qg0]
  cases hd:decide (Jh e.1 x.1 < 0) with
  | true =>
   have hd:=of_decide_eq_true hd
   simp only[cond_true,Vt,List.pairwise_cons]
   refine⟨fun y hy=>?_,h⟩
   rcases List.mem_cons.1 hy with rfl|hy
   ·exact hd
   ·exact QU (show LtP _ _ from hd) (show LtP _ _ from h.1 y hy)
  | false =>
   have hd:=of_decide_eq_false hd
   simp only[cond_false,Vt,List.pairwise_cons]
   refine⟨fun y hy=>?_,WY h.2 (fun hh=>hm (List.mem_cons_of_mem _ hh))⟩
   rcases List.mem_cons.1 (insEn_perm.mem_iff.1 hy) with rfl|hy
   ·exact XS (fun h=>hm (by rw[qeu h];simp)) hd
   ·exact h.1 y hy
theorem Xl:∀ {l:List En},(l.map (·.1)).Nodup→Vt (Wz l)
 | [],_=>by simp[Vt,Wz]
 | e::l,h=>by
  simp only[List.map_cons,List.nodup_cons] at h
  refine WY (Xl h.2) fun hm=>h.1 ?_
  exact ((sortEn_perm (l:=l)).map (·.1)).mem_iff.1 hm
theorem qlk {l l':List En} (hn:(l.map (·.1)).Nodup) (hp:l'.Perm l) (hs:l'.Pairwise fun a b=>¬ Jh b.1 a.1 < 0):l'=Wz l:=by
 have hn':(l'.map (·.1)).Nodup:=(hp.map (·.1)).nodup_iff.2 hn
 refine YW (r:=fun a b:En=>Jh a.1 b.1 < 0) (fun a h=>Qt (show LtP _ _ from h)) (fun a b c h1 h2=>QU (show LtP _ _ from h1) (show LtP _ _ from h2)) ?_ (Xl hn) fun a=>by rw[hp.mem_iff,sortEn_perm.mem_iff]
 rw[List.Nodup,List.pairwise_map] at hn'
 exact (hs.and hn').imp fun {a b} ⟨h1,h2⟩=>XS (fun h=>h2 (qeu h).symm) h1
def KU (lower es:List En):Option (List En):=match ofT lower with
 | none=>none
 | some _=>bif (qpn es).2 != 0 then none else match WQ (ZK lower) es with
  | none=>none
  | some N=>bif decide ((N.length:Int) > 128) then none else some (Wz (N.map (·.2)))
structure GoodE (es:List En):Prop where
 may:∀ e∈es,V7 e=true
 rise:Vt es
 par:∀ e∈es,upE e.1≠[]→upE e.1∈es.map (·.1)
 len:es.length≤128
theorem qe2 {p:List Nat} {u:Nat}:∀ {K:List (List Nat × Nat)},ql p K=some u→p∈K.map (·.1)
 | [],h=>by cases h
 | (q,j)::l,h=>by
  simp only[ql] at h
  cases he:eqB p q with
  | true=>rw[qG] at he;simp[of_decide_eq_true he]
  | false =>
   rw[he] at h
   exact List.mem_cons_of_mem _ (qe2 h)
theorem qft {p q:List Nat} {j:Nat}:∀ {K:List (List Nat × Nat)},q∈(setK p j K).map (·.1)→q=p∨q∈K.map (·.1)
 | [],h=>by simp[setK] at h;exact Or.inl h
 | (r,i)::l,h=>by
  simp only[setK] at h
  cases he:eqB p r with
  | true =>
   rw[he,cond_true] at h
   rcases List.mem_cons.1 h with h|h
   ·exact Or.inl h
   ·exact Or.inr (List.mem_cons_of_mem _ h)
  | false =>
   rw[he,cond_false] at h
   rcases List.mem_cons.1 h with h|h
   ·exact Or.inr (h ▸ List.mem_cons_self)
   ·rcases qft h with h|h
    ·exact Or.inl h
    ·exact Or.inr (List.mem_cons_of_mem _ h)
theorem Vp:∀ {l:List En} {M M':Md} {K:List (List Nat × Nat)} {pv:Option (List Nat)},Yh l M K pv=some M'→(∀ e∈l,V7 e=true)∧Vt l∧(∀ p,pv=some p→∀ e∈l,Jh p e.1 < 0)∧∀ e∈l,upE e.1∈K.map (·.1)∨upE e.1∈l.map (·.1)
 | [],_,_,_,_,_=>⟨fun _ h=>(by cases h),List.Pairwise.nil,fun _ _ _ h=>(by cases h),fun _ h=>(by cases h)⟩
 | e::l,M,M',K,pv,h=>by
  simp only[Yh] at h
  cases hm:V7 e with
  | false=>rw[hm] at h;cases h
  | true =>
  rw[hm,cond_true] at h
  have hpv:∀ p,pv=some p→Jh p e.1 < 0:=by
   intro p hp
   subst hp
   cases hd:decide (Jh p e.1 < 0) with
   | true=>exact of_decide_eq_true hd
   | false=>simp[hd] at h
  have h:(match ql (e.1.take (Y2 e.1)) K with
   | none=>none
   | some u=>match M.T u with
    | none=>none
    | some ud=>bif ud.kind != 1 then none else Yh l (Wn M u ud (Jv e.1) ⟨e.2.1,e.2.2.1,e.2.2.2,[],some u,Jv e.1,0⟩) (setK e.1 M.nodes.length K) (some e.1))=some M':=by
   cases pv with
   | none=>exact h
   | some p =>
    simp only[hpv p rfl,decide_true,cond_true] at h
    exact h
  cases hk:ql (e.1.take (Y2 e.1)) K with
  | none=>rw[hk] at h;cases h
  | some u =>
  rw[hk] at h
  simp only at h
  cases hu:M.T u with
  | none=>rw[hu] at h;cases h
  | some ud =>
  rw[hu] at h
  simp only at h
  cases hd:ud.kind != 1 with
  | true=>rw[hd] at h;cases h
  | false =>
  rw[hd,cond_false] at h
  obtain⟨i1,i2,i3,i4⟩:=Vp h
  have h3:=i3 e.1 rfl
  refine⟨fun x hx=>?_,List.pairwise_cons.2 ⟨h3,i2⟩,fun p hp x hx=>?_,fun x hx=>?_⟩
  ·rcases List.mem_cons.1 hx with rfl|hx
   ·exact hm
   ·exact i1 x hx
  ·rcases List.mem_cons.1 hx with rfl|hx
   ·exact hpv p hp
   ·exact QU (show LtP _ _ from hpv p hp) (show LtP _ _ from h3 x hx)
  ·rcases List.mem_cons.1 hx with rfl|hx
   ·exact Or.inl (qe2 hk)
   ·rcases i4 x hx with h|h
    ·rcases qft h with h|h
     ·exact Or.inr (by simp[h])
     ·exact Or.inl h
    ·exact Or.inr (List.mem_cons_of_mem _ h)
theorem qof {es:List En} {M:Md} (h:ofT es=some M):GoodE es:=by
 unfold ofT at h
 cases hl:decide ((es.length:Int) > 128) with
 | true=>rw[hl] at h;cases h
 | false =>
  rw[hl,cond_false] at h
  have hl:=of_decide_eq_false hl
  cases hr:Yh es MZ [([],0)] none with
  | none=>rw[hr] at h;cases h
  | some M' =>
   obtain⟨i1,i2,_,i4⟩:=Vp hr
   refine⟨i1,i2,fun e he hu=>?_,by omega⟩
   rcases i4 e he with h|h
   ·simp at h;exact absurd h hu
   ·exact h
theorem qes {e:En} (h:V7 e=true):e.1≠[]:=by
 intro h0
 unfold V7 X9 at h
 rw[h0] at h
 generalize Qr [] (47::[])=x at h
 obtain⟨q,c⟩:=x
 simp only at h
 cases hc:Nat.beq c 0 with
 | true=>rw[hc] at h;cases h
 | false=>rw[hc] at h;cases h
theorem Jw {es:List En} (h:Vt es):(es.map (·.1)).Nodup:=by
 rw[List.Nodup,List.pairwise_map]
 refine List.Pairwise.imp ?_ h
 intro a b hab he
 rw[← he] at hab
 exact Qt (show LtP (qw a.1) (qw a.1) from hab)
theorem qb5 {e:En} {pre:List En} (h:Zr e pre=0):e.1≠[]:=by
 intro h0
 unfold Zr at h
 cases h1:VU e.2.1 with
 | false=>rw[h1] at h;cases h
 | true =>
  rw[h1,cond_true] at h
  have hp:Zb e pre=1303:=by
   unfold Zb
   rw[h0]
   generalize Qr [] (47::[])=x
   obtain⟨q,c⟩:=x
   simp only
   cases Nat.beq c 0 <;> rfl
  rw[hp] at h
  cases h
theorem qpf {es:List En}:∀ {l:List En} {k:Nat},(qu5 es k l).2=0→∀ e∈l,∃ pre,Zr e pre=0
 | [],_,_,_,h=>by cases h
 | x::l,k,h,e,he=>by
  simp only[qu5] at h
  cases hf:Zr x (es.take k) != 0 with
  | true =>
   rw[hf,cond_true] at h
   simp only at h
   rw[h] at hf
   cases hf
  | false =>
   rw[hf,cond_false] at h
   rcases List.mem_cons.1 he with rfl|he
   ·exact⟨_,by simpa using hf⟩
   ·exact qpf h e he
theorem ql3 {es:List En} (h:(qpn es).2=0):es.length≤256∧∀ e∈es,∃ pre,Zr e pre=0:=by
 unfold qpn at h
 cases hl:decide ((es.length:Int) > 256) with
 | true=>rw[hl] at h;cases h
 | false =>
  rw[hl,cond_false] at h
  have hl:=of_decide_eq_false hl
  exact⟨by omega,qpf h⟩
theorem qhl {N N':List (List Nat × En)} {e:En} (h:ZN N e=some N'):∀ k∈qV N',k∈qV N∨k=e.1:=by
 unfold ZN at h
 cases hu:WM N e with
 | false=>rw[hu] at h;cases h
 | true =>
  rw[hu,cond_true] at h
  have cut:∀ k∈qV (qbg e.1 N),k∈qV N:=fun k hk=>by
   obtain⟨x,hx,rfl⟩:=List.mem_map.1 hk
   exact List.mem_map.2 ⟨x,(delG_sub.trans List.filter_sublist).mem hx,rfl⟩
  cases hl:qC e.1 N with
  | none =>
   rw[hl] at h
   simp only at h
   cases h4:e.2.1==4 with
   | true=>rw[h4] at h;cases h
   | false =>
    rw[h4] at h
    cases h
    intro k hk
    rcases List.mem_append.1 (by simpa [qV] using hk:k∈qV N++[e.1]) with h|h
    ·exact Or.inl h
    ·simp at h;exact Or.inr h
  | some old =>
   rw[hl] at h
   simp only at h
   cases h1:e.2.1==1&&old.2.1==1 with
   | true =>
    rw[h1] at h
    cases h
    intro k hk
    rw[show qV (Jb e.1 (old.1,old.2.1,e.2.2.1,old.2.2.2) N)=qV N from XC hl] at hk
    exact Or.inl hk
   | false =>
    rw[h1,cond_false] at h
    cases h4:e.2.1==4 with
    | true =>
     rw[h4] at h
     cases h
     exact fun k hk=>Or.inl (cut k hk)
    | false =>
     rw[h4] at h
     cases h
     intro k hk
     rcases List.mem_append.1 (by simpa [qV] using hk:k∈qV (qbg e.1 N)++[e.1]) with h|h
     ·exact Or.inl (cut k h)
     ·simp at h;exact Or.inr h
theorem q06 {s:St} (H:Ok TE Tryz.prog pr3) (hB:qb s) {V:AV} {es:List En} (hV:EsV s V es) (hp:∀ e∈es,e.1.length≤1048575) (hn0:es.length < 1000000000) {kr kp:AV→St→Bool}
  (hk:∀ s',Ext s s'→qb s'→kr (.raw (.bool (ofT es).isSome)) s'=true) :
  (sem Tryz.prog).call 82 [V] s kr kp=true:=by
 refine qk H 12 q6t rfl rfl ?_
 repeat (first|with_reducible (refine q9 H ?_;constructor)|simp only[rB,rQ,reduceIte,Nat.reduceLT,Nat.reduceEqDiff,pe3,pf3])
 refine of_c H hB hV hp hn0 (fun s' x M h1 h2 h3 h4=>?_) (fun s' h1 h2 h3=>?_)
 ·have g:((0:Int)==0)=true:=rfl
  repeat (first|with_reducible (refine q9 H ?_;constructor)|simp only[rB,rQ,reduceIte,Nat.reduceLT,Nat.reduceEqDiff,pe3,pf3,qh,g,Tryz.results82])
  have:=hk s' h2 h3.1
  rw[h1] at this
  exact this
 ·have g:((500:Int)==0)=false:=rfl
  repeat (first|with_reducible (refine q9 H ?_;constructor)|simp only[rB,rQ,reduceIte,Nat.reduceLT,Nat.reduceEqDiff,pe3,pf3,qh,g,Tryz.results82])
  have:=hk s' h2 h3
  rw[h1] at this
  exact this
theorem qov:(match TE.info 49 with|some ti=>QF ti.desc&&Nat.beq ti.size 1|none=>false)=true:=by kernel_rfl
theorem qyi {s:St} {x:Nat}:Q1 TE s 49 (.ptr x 0)=ldG 1 (s.h.get x):=KT qov
theorem VQ {V:AV} {el fz:Nat}:ldG 1 (some (.cells [V] el fz))=some (.agg [V]):=(rfl)
theorem qrn {s:St} (H:Ok TE Tryz.prog pr3) (hB:qb s) {LV V:AV} {lower es:List En} (hL:EsV s LV lower) (hpl:∀ e∈lower,e.1.length≤1048575) (hnl:lower.length < 1000000000) (hV:EsV s V es) (hc:qu2 V) (hp:∀ e∈es,e.1.length≤1048575) (h1:V.cells=[V]) (h2:V.one=true) {kr kp:AV→St→Bool}
  (hk:∀ s' W out,KU lower es=some out→Ext s s'→qb s'→ErB s.nx s' W out→(∀ e∈out,e.1.length≤140)→out.length≤128→kr (.tuple [W,.raw (.int .i64 0)]) s'=true)
  (hf:∀ s',KU lower es=none→Ext s s'→qb s'→kr (.tuple [.raw (.slice none 0 0),.raw (.int .i64 1400)]) s'=true) :
  (sem Tryz.prog).call 88 [LV,.agg [V]] s kr kp=true:=by
 refine qk H 40 q6o rfl rfl ?_
 have hB1:qb (s.alloc (.cells [V] 49 0)):=z8 hB _
 have hE1:Ext s (s.alloc (.cells [V] 49 0)):=Ext.alloc s _
 have c1:(s.alloc (.cells [V] 49 0)).h.get s.nx=some (.cells [V] 49 0):=qt
 unfold KU at hk hf
 have vl:=hV.len
 have vi:=hV.ids
 repeat (first|with_reducible (refine q9 H ?_;constructor)|simp only[rB,rQ,q8,q7,qc,reduceIte,Nat.reduceLT,Nat.reduceEqDiff,pe3,pf3,qd])
 generalize s.alloc (.cells [V] 49 0)=s1 at *
 refine q06 H hB1 (hL.ext hB hE1) hpl hnl (fun s2 hE2 hB2=>?_)
 have hE12:=hE1.trans hE2
 have c2:=(hE2.2 _ (hB1 _ _ c1)).trans c1
 cases ho:ofT lower with
 | none =>
  repeat (first|with_reducible (refine q9 H ?_;constructor)|simp only[rB,rQ,q8,q7,qc,reduceIte,Nat.reduceLT,Nat.reduceEqDiff,pe3,pf3,ho,Option.isSome_none,Bool.not_false,Tryz.results88])
  exact hf s2 (by rw[ho]) hE12 hB2
 | some M0 =>
 have G:=qof ho
 repeat (first|with_reducible (refine q9 H ?_;constructor)|simp only[rB,rQ,q8,q7,qc,reduceIte,Nat.reduceLT,Nat.reduceEqDiff,pe3,pf3,ho,Option.isSome_some,Bool.not_true,c2,qyi,VQ])
 refine qvm H hB2 (hV.ext hB hE12) hc hp h1 h2 (fun s3 hE3 hB3=>?_)
 have hE13:=hE12.trans hE3
 have c3:=(hE3.2 _ (hB2 _ _ c2)).trans c2
 cases hm:(qpn es).2 != 0 with
 | true =>
  repeat (first|with_reducible (refine q9 H ?_;constructor)|simp only[rB,rQ,q8,q7,qc,reduceIte,Nat.reduceLT,Nat.reduceEqDiff,pe3,pf3,qB,hm,Tryz.results88])
  exact hf s3 (by rw[ho,hm];rfl) hE13 hB3
 | false =>
 have hm0:(qpn es).2=0:=by simpa using hm
 obtain⟨hl256,hfault⟩:=ql3 hm0
 have hlow:∀ e∈lower,e.1.length≤140:=fun e he=>(qmy (G.may e he)).1
 repeat (first|with_reducible (refine q9 H ?_;constructor)|simp only[rB,rQ,q8,q7,qc,reduceIte,Nat.reduceLT,Nat.reduceEqDiff,pe3,pf3,qB,hm])
 refine qqa H hB3 (hL.ext hB hE13) (fun e he=>by have:=hlow e he;omega) (by have:=G.len;omega) (fun s4 fb nb kb hE4 f1 f2 f3 hB4 R4=>?_)
 have hE14:=hE13.trans hE4
 have c4:=(hE4.2 _ (hB3 _ _ c3)).trans c3
 have hs3:=hE13.1
 -- the ground is sound
 obtain⟨g1,g2⟩:=Wv (es:=lower) (pre:=[]) (K:=[]) (B:=0) FI.zero.to0 (by simpa using Jw G.rise) (fun h=>by
  obtain⟨e,he,h0⟩:=List.mem_map.1 h
  exact qes (G.may e he) h0) (by have:=G.len;omega)
 rw[show (ZK [],([]:List (List Nat × Int)))=([],[]) from rfl] at g1 g2
 rw[List.nil_append] at g1
 have g2:=g2.to (by
  rw[g1,Jr]
  intro k hk hu
  obtain⟨e,he,rfl⟩:=List.mem_map.1 hk
  exact G.par e he hu)
 rw[g1] at g2 R4
 have g2:FI 128 (ZK lower) _:=⟨g2.nd,g2.kd,g2.key,g2.par,g2.cnt,Nat.le_trans g2.len (by have:=G.len;omega),g2.ne⟩
 rw[hm] at hk hf
 rw[ho] at hk hf
 simp only[cond_false] at hk hf
 repeat (first|with_reducible (refine q9 H ?_;constructor)|simp only[rB,rQ,q8,q7,qc,reduceIte,Nat.reduceLT,Nat.reduceEqDiff,pe3,pf3,c4,qjo,qkg,vl,vi])
 refine qZ H (fun n t s'=>∃ (k:Nat) (N:List (List Nat × En)) (K:List (List Nat × Int)),n+k=es.length∧tg t 8=.ptr fb 0∧tg t 24=V∧tg t 25=.raw (.int .i64 (es.length:Int))∧tg t 26=.raw (.int .i64 (k:Int))∧Ext s s'∧qb s'∧FR s' fb nb kb N K∧FI (128+k) N K∧(∀ q∈qV N,q.length≤140)∧WQ (ZK lower) es=WQ N (es.drop k)) (n:=es.length)
  ⟨0,_,_,rfl,by simp only[rB,rQ,q8,q7,qc,reduceIte,Nat.reduceLT,Nat.reduceEqDiff],by simp only[rB,rQ,q8,q7,qc,reduceIte,Nat.reduceLT,Nat.reduceEqDiff],by simp only[rB,rQ,q8,q7,qc,reduceIte,Nat.reduceLT,Nat.reduceEqDiff],by simp only[rB,rQ,q8,q7,qc,reduceIte,Nat.reduceLT,Nat.reduceEqDiff];rfl,hE14,hB4,R4,g2,fun q hq=>by
   rw[Jr] at hq
   obtain⟨e,he,rfl⟩:=List.mem_map.1 hq
   exact hlow e he,rfl⟩ ?_
 rintro n t s' ih ⟨k,N,K,hnk,t8,t24,t25,t26,hE,hB',R,F,hq,ha⟩
 cases n with
 | zero =>
  have g0:decide ((k:Int) < (es.length:Int))=false:=by rw[decide_eq_false_iff_not];omega
  rw[List.drop_eq_nil_of_le (by omega)] at ha
  rw[ha] at hk hf
  simp only[WQ] at hk hf
  repeat (first|with_reducible (refine q9 H ?_;constructor)|simp only[rB,rQ,q8,q7,qc,reduceIte,Nat.reduceLT,Nat.reduceEqDiff,pe3,pf3,t8,t24,t25,t26,zX,g0])
  refine qwx H R ?_
  cases hN:decide ((N.length:Int) > 128) with
  | true =>
   rw[hN] at hf
   repeat (first|with_reducible (refine q9 H ?_;constructor)|simp only[rB,rQ,q8,q7,qc,reduceIte,Nat.reduceLT,Nat.reduceEqDiff,pe3,pf3,t8,zv,hN,Tryz.results88])
   exact hf s' rfl hE hB'
  | false =>
   rw[hN] at hk
   have hN':=of_decide_eq_false hN
   have hk140:∀ q∈N,q.2.1.length≤140:=fun x hx=>by
    rw[F.key x hx]
    exact hq _ (List.mem_map.2 ⟨x,hx,rfl⟩)
   repeat (first|with_reducible (refine q9 H ?_;constructor)|simp only[rB,rQ,q8,q7,qc,reduceIte,Nat.reduceLT,Nat.reduceEqDiff,pe3,pf3,t8,zv,hN])
   refine qkf H hB' R hk140 (by omega) (fun s5 W out hE5 hB5 hW hperm hsort=>?_)
   have hnd:((N.map (·.2)).map (·.1)).Nodup:=by
    have:(N.map (·.2)).map (·.1)=qV N:=by
     unfold qV
     rw[List.map_map]
     exact List.map_congr_left fun x hx=>F.key x hx
    rw[this]
    exact F.nd
   have hout:=qlk hnd hperm hsort
   have hlen:out.length=N.length:=by rw[hperm.length_eq,List.length_map]
   repeat (first|with_reducible (refine q9 H ?_;constructor)|simp only[rB,rQ,q8,q7,qc,reduceIte,Nat.reduceLT,Nat.reduceEqDiff,pe3,pf3,t8,Tryz.results88])
   refine hk s5 W out (by rw[hout];rfl) (hE.trans hE5) hB5 ?_ (fun e he=>?_) (by omega)
   ·rcases hW with h|⟨id,w1,w2,w3⟩
    ·exact Or.inl h
    ·exact Or.inr ⟨id,Nat.le_trans hE.1 w1,w2,w3⟩
   ·obtain⟨x,hx,rfl⟩:=List.mem_map.1 (hperm.mem_iff.1 he)
    exact hk140 x hx
 | succ n =>
  have g0:decide ((k:Int) < (es.length:Int))=true:=by rw[decide_eq_true_eq];omega
  have hlt:k < es.length:=by omega
  have hke:es[k]?=some es[k]:=List.getElem?_eq_getElem hlt
  have hmem:es[k]∈es:=List.getElem_mem hlt
  rw[List.drop_eq_getElem_cons hlt] at ha
  generalize es[k]=e at hke hmem ha
  simp only[WQ] at ha
  obtain⟨pre,hpre⟩:=hfault e hmem
  have he140:=qfg hpre
  have hene:=qb5 hpre
  have hV':=hV.ext hB hE
  obtain⟨id,o,y1,y2,y3,y4,-⟩:=hV'.idx hke
  have hB3:qb { h:=(s'.alloc (.cells [.str [],.raw (.int .i64 0),.raw (.int .i64 0),.str []] 34 0)).h.set s'.nx (.cells (celE e) 34 0),nx:=s'.nx+1 }:=zH hB'
  have hE3:Ext s' { h:=(s'.alloc (.cells [.str [],.raw (.int .i64 0),.raw (.int .i64 0),.str []] 34 0)).h.set s'.nx (.cells (celE e) 34 0),nx:=s'.nx+1 }:=Ql
  have R3:=R.ext hB' hE3
  have ew:IntKind.i64.wrap ((k:Int)+1)=((k+1:Nat):Int):=by
   rw[show (k:Int)+1=((k+1:Nat):Int) from by simp]
   exact qM (by omega)
  repeat (first|with_reducible (refine q9 H ?_;constructor)|simp only[rB,rQ,q8,q7,qc,reduceIte,Nat.reduceLT,Nat.reduceEqDiff,pe3,pf3,t8,t24,t25,t26,zX,g0,y1,y2,y3,y4,Ji,KB,Jl,Zf,QE])
  refine qq4 H hB3 R3 F.nd (by omega) (fun s6 b N' K' hF6 hB6 A6 R6=>?_)
  have hE6:Ext s s6:=hF6.ext (hE.trans hE3) (by omega) (by omega)
  rcases A6.fin F hene (by omega) with⟨rfl,a1,a2⟩|⟨rfl,a1⟩
  ·rw[a1] at ha
   repeat (first|with_reducible (refine q9 H ?_;constructor)|simp only[rB,rQ,q8,q7,qc,reduceIte,Nat.reduceLT,Nat.reduceEqDiff,pe3,pf3,t8,t24,t25,t26,Bool.not_true,qO,ew])
   refine ih n _ _ (Nat.lt_succ_self n) ⟨k+1,N',K',by omega,by simp only[rB,rQ,q8,q7,qc,reduceIte,Nat.reduceLT,Nat.reduceEqDiff,t8],by simp only[rB,rQ,q8,q7,qc,reduceIte,Nat.reduceLT,Nat.reduceEqDiff,t24],by simp only[rB,rQ,q8,q7,qc,reduceIte,Nat.reduceLT,Nat.reduceEqDiff,t25],by simp only[rB,rQ,q8,q7,qc,reduceIte,Nat.reduceLT,Nat.reduceEqDiff],hE6,hB6,R6,a2,fun q hq'=>?_,ha⟩
   rcases qhl a1 q hq' with h|h
   ·exact hq q h
   ·rw[h];exact he140
  ·rw[a1] at ha
   repeat (first|with_reducible (refine q9 H ?_;constructor)|simp only[rB,rQ,q8,q7,qc,reduceIte,Nat.reduceLT,Nat.reduceEqDiff,pe3,pf3,t8,t24,t25,t26,Bool.not_false,Tryz.results88])
   exact hf s6 (by rw[ha]) hE6 hB6
def XB:List En→List (List En)→Option (List En)
 | es,[]=>some es
 | es,l::r=>match KU es l with
  | none=>none
  | some es'=>XB es' r
def Wr (im:List (List En)):Option (List En):=bif decide ((im.length:Int) > 12) then none else XB [] im
theorem KS:∀ {es:List En} {k:Nat} {e:En},es[k]?=some e→Yn (k * 4) 4 (Qm es)=some (celE e)
 | [],k,e,h=>by simp at h
 | a::l,0,e,h=>by
  simp at h
  subst h
  rfl
 | a::l,k+1,e,h=>by
  have ih:=KS (es:=l) (k:=k) (e:=e) (by simpa using h)
  have e1:(k+1) * 4=k * 4+4:=by omega
  rw[e1]
  exact ih
theorem KE:∀ {es:List En},Y3 (Qm es) (Qm es)=true
 | []=>rfl
 | e::l=>by
  have ih:=KE (es:=l)
  have:=qW (e:=e)
  unfold celE at this
  simp only[Qm,Y3] at this ⊢
  simp only[ih,Bool.and_true] at this ⊢
  exact this
theorem ErB.esvM {b:Nat} {s:St} {V:AV} {es:List En} (h:ErB b s V es):EsV s V es:=by
 rcases h with⟨h1,h2⟩|⟨id,_,h1,h2⟩
 ·exact Or.inl ⟨⟨_,_,h1⟩,h2⟩
 ·exact Or.inr (Or.inr ⟨id,0,0,es.length,false,_,_,h1,h2,Or.inl ⟨_,rfl⟩,KE,fun k e hk=>by rw[Nat.zero_add];exact KS hk⟩)
def LsV (s:St) (V:AV) (im:List (List En)):Prop:=((∃ a c,V=.raw (.slice a 0 c))∧im=[])∨(∃ id off ci l z,V=.esl id off ci l z∧im=[]) ∨
 ∃ id off ci cap ex cs ob,V=.slice id off im.length ci cap ex∧s.h.get id=some ob∧((∃ fz,ob=.cells cs 49 fz)∨ob=.old cs)∧∀ k es,im[k]?=some es→∃ W,cs[off+k]?=some W∧EsV s W es∧qu2 W∧W.cells=[W]∧W.one=true
theorem LsV.len {s:St} {V:AV} {im:List (List En)} (h:LsV s V im):∀ s',Qv TE s' [22] [V]=some (.raw (.int .i64 (im.length:Int))):=by
 intro s'
 rcases h with⟨⟨a,c,rfl⟩,rfl⟩|⟨id,off,ci,l,z,rfl,rfl⟩|⟨id,off,ci,cap,ex,cs,fz,rfl,_⟩ <;> kernel_rfl
theorem LsV.ids {s:St} {V:AV} {im:List (List En)} (h:LsV s V im):Z4 V=[]:=by
 rcases h with⟨⟨a,c,rfl⟩,rfl⟩|⟨id,off,ci,l,z,rfl,rfl⟩|⟨id,off,ci,cap,ex,cs,fz,rfl,_⟩ <;> rfl
theorem LsV.one {s:St} {V:AV} {im:List (List En)} (h:LsV s V im):V.cells=[V]∧V.one=true:=by
 rcases h with⟨⟨a,c,rfl⟩,rfl⟩|⟨id,off,ci,l,z,rfl,rfl⟩|⟨id,off,ci,cap,ex,cs,fz,rfl,_⟩ <;> exact⟨rfl,rfl⟩
theorem LsV.ext {s s':St} {V:AV} {im:List (List En)} (h:LsV s V im) (hB:qb s) (hE:Ext s s'):LsV s' V im:=by
 rcases h with h|h|⟨id,off,ci,cap,ex,cs,ob,h1,h2,h3,h4⟩
 ·exact Or.inl h
 ·exact Or.inr (Or.inl h)
 ·refine Or.inr (Or.inr ⟨id,off,ci,cap,ex,cs,ob,h1,(hE.2 _ (hB _ _ h2)).trans h2,h3,fun k es hk=>?_⟩)
  obtain⟨W,a1,a2,a3⟩:=h4 k es hk
  exact⟨W,a1,a2.ext hB hE,a3⟩
theorem qmv:∀ {l:List AV} {o:Nat} {x:AV},l[o]?=some x→Yn o 1 l=some [x]
 | [],o,x,h=>by simp at h
 | y::l,0,x,h=>by
  simp at h
  subst h
  simp[Yn,YN,JR]
 | y::l,o+1,x,h=>by
  have:=qmv (l:=l) (o:=o) (by simpa using h)
  simpa [Yn,YN] using this
theorem q0r {id off n ci cap k:Nat} {ex:Bool} (h:k < n):qQ TE 22 (.slice id off n ci cap ex) (.raw (.int .i64 (k:Int)))=some (.ptr id (off+k * 1)):=by
 have e:qQ TE 22 (.slice id off n ci cap ex) (.raw (.int .i64 (k:Int)))=(bif Nat.blt k n then some (.ptr id (off+k * 1)) else none):=by kernel_rfl
 rw[e,Nat.blt_eq.mpr h]
 rfl
theorem LsV.idx {s:St} {V:AV} {im:List (List En)} (h:LsV s V im) {k:Nat} {es:List En} (hk:im[k]?=some es):∃ id o W,qQ TE 22 V (.raw (.int .i64 (k:Int)))=some (.ptr id o)∧Q1 TE s 49 (.ptr id o)=some (.agg [W])∧(∀ b,inO (s.h.get id) b=b)∧EsV s W es∧qu2 W∧W.cells=[W]∧W.one=true:=by
 rcases h with⟨⟨a,c,rfl⟩,rfl⟩|⟨id,off,ci,l,z,rfl,rfl⟩|⟨id,off,ci,cap,ex,cs,ob,rfl,hg,ho,hc⟩
 ·simp at hk
 ·simp at hk
 ·have hlt:=(List.getElem?_eq_some_iff.mp hk).1
  obtain⟨W,a1,a2,a3,a4,a5⟩:=hc k es hk
  have hcut:Yn (off+k * 1) 1 cs=some [W]:=qmv (by rw[Nat.mul_one];exact a1)
  rcases ho with⟨fz,rfl⟩|rfl
  ·exact⟨id,off+k * 1,W,q0r hlt,qs2 qov hg hcut,fun b=>by rw[hg];rfl,a2,a3,a4,a5⟩
  ·exact⟨id,off+k * 1,W,q0r hlt,Yi qov hg hcut,fun b=>by rw[hg];rfl,a2,a3,a4,a5⟩
theorem q2f {s:St}:Qz TE s 49=some (.ptr s.nx 0,s.alloc (.cells [.raw (.slice none 0 0)] 49 0)):=by
 have:zA TE 49=some (.agg [.raw (.slice none 0 0)]):=by kernel_rfl
 simp only[Qz,this];rfl
theorem quf:qe1 TE 49=1:=by kernel_rfl
theorem q5y {s:St} {x:Nat} {W:AV} (hW:W.one=true):QZ TE s 49 (.ptr x 0) (.agg [W])=stA s x (s.h.get x) [W]:=by
 have hs:=quf
 unfold qe1 at hs
 cases ht:TE.info 49 with
 | none=>rw[ht] at hs;cases hs
 | some ti =>
  rw[ht] at hs
  simp only at hs
  have hall:([W]:List AV).all AV.one=true:=by simp[hW]
  simp only[QZ,ht,hs,qd,zJ]
  show (bif true then (match za s x with
   | some (cs,el,fz)=>bif ([W]:List AV).all AV.one then (match JF cs 0 [W] with|some cs'=>some { s with h:=s.h.set x (.cells cs' el fz) } | none=>none) else none
   | none=>none) else none)=_
  rw[hall]
  simp only[cond_true,stA,za]
  cases s.h.get x with
  | none=>rfl
  | some y=>cases y <;> rfl
theorem qys {s:St} {x el fz:Nat} {a0 W:AV}:stA s x (some (.cells [a0] el fz)) [W]=some { s with h:=s.h.set x (.cells [W] el fz) }:=(rfl)
theorem qtj {x:Nat}:qn TE 24 (.ptr x 0) 0=some (.ptr x 0):=by kernel_rfl
theorem q2i {s:St} {x o:Nat}:Q1 TE s 22 (.ptr x o)=ldO (s.h.get x) o:=by rw[J4 (by kernel_rfl),Kb]
theorem qua {s:St} (H:Ok TE Tryz.prog pr3) (hB:qb s) {V:AV} {im:List (List En)} (hI:LsV s V im) (hp:∀ es∈im,∀ e∈es,e.1.length≤1048575) {kr kp:AV→St→Bool}
  (hk:∀ s' W out,Wr im=some out→Ext s s'→qb s'→ErB s.nx s' W out→(∀ e∈out,e.1.length≤140)→out.length≤128→kr (.tuple [W,.raw (.int .i64 0)]) s'=true)
  (hf:∀ s',Wr im=none→Ext s s'→qb s'→kr (.tuple [.raw (.slice none 0 0),.raw (.int .i64 1400)]) s'=true) :
  (sem Tryz.prog).call 49 [.agg [V]] s kr kp=true:=by
 refine qk H 32 q31 rfl rfl ?_
 have hB1:qb (s.alloc (.cells [V] 24 0)):=z8 hB _
 have hE1:Ext s (s.alloc (.cells [V] 24 0)):=Ext.alloc s _
 have c1:(s.alloc (.cells [V] 24 0)).h.get s.nx=some (.cells [V] 24 0):=qt
 unfold Wr at hk hf
 have vl:=hI.len
 have vi:=hI.ids
 repeat (first|with_reducible (refine q9 H ?_;constructor)|simp only[rB,rQ,q8,qf,q7,qc,reduceIte,Nat.reduceAdd,Nat.reduceLT,Nat.reduceEqDiff,pe3,pf3,qd])
 generalize s.alloc (.cells [V] 24 0)=s1 at *
 cases hl:decide ((im.length:Int) > 12) with
 | true =>
  rw[hl] at hf
  repeat (first|with_reducible (refine q9 H ?_;constructor)|simp only[rB,rQ,q8,qf,q7,qc,reduceIte,Nat.reduceAdd,Nat.reduceLT,Nat.reduceEqDiff,pe3,pf3,c1,qtj,q2i,vl,vi,zv,hl,Tryz.results49])
  exact hf s1 rfl hE1 hB1
 | false =>
 rw[hl] at hk hf
 simp only[cond_false] at hk hf
 have hl2:=of_decide_eq_false hl
 repeat (first|with_reducible (refine q9 H ?_;constructor)|simp only[rB,rQ,q8,qf,q7,qc,reduceIte,Nat.reduceAdd,Nat.reduceLT,Nat.reduceEqDiff,pe3,pf3,c1,qtj,q2i,vl,vi,zv,hl])
 refine qZ H (fun n t s'=>∃ (k:Nat) (W:AV) (cur:List En),n+k=im.length∧tg t 4=W∧tg t 14=V∧tg t 15=.raw (.int .i64 (im.length:Int))∧tg t 16=.raw (.int .i64 (k:Int))∧Ext s s'∧qb s'∧ErB s.nx s' W cur∧(∀ e∈cur,e.1.length≤140)∧cur.length≤128∧XB [] im=XB cur (im.drop k)) (n:=im.length)
  ⟨0,_,[],rfl,by simp only[rB,rQ,q8,qf,q7,qc,reduceIte,Nat.reduceAdd,Nat.reduceLT,Nat.reduceEqDiff];rfl,by simp only[rB,rQ,q8,qf,q7,qc,reduceIte,Nat.reduceAdd,Nat.reduceLT,Nat.reduceEqDiff],by simp only[rB,rQ,q8,qf,q7,qc,reduceIte,Nat.reduceAdd,Nat.reduceLT,Nat.reduceEqDiff],by simp only[rB,rQ,q8,qf,q7,qc,reduceIte,Nat.reduceAdd,Nat.reduceLT,Nat.reduceEqDiff];rfl,hE1,hB1,Or.inl ⟨rfl,rfl⟩,fun _ h=>(by cases h),Nat.zero_le _,rfl⟩ ?_
 rintro n t s' ih ⟨k,W,cur,hnk,t4,t14,t15,t16,hE,hB',hW,hc140,hc128,hm⟩
 cases n with
 | zero =>
  have g0:decide ((k:Int) < (im.length:Int))=false:=by rw[decide_eq_false_iff_not];omega
  rw[List.drop_eq_nil_of_le (by omega)] at hm
  simp only[XB] at hm
  repeat (first|with_reducible (refine q9 H ?_;constructor)|simp only[rB,rQ,q8,qf,q7,qc,reduceIte,Nat.reduceAdd,Nat.reduceLT,Nat.reduceEqDiff,pe3,pf3,t4,t14,t15,t16,zX,g0,Tryz.results49])
  exact hk s' W cur hm hE hB' hW hc140 hc128
 | succ n =>
  have g0:decide ((k:Int) < (im.length:Int))=true:=by rw[decide_eq_true_eq];omega
  have hlt:k < im.length:=by omega
  have hke:im[k]?=some im[k]:=List.getElem?_eq_getElem hlt
  have hmem:im[k]∈im:=List.getElem_mem hlt
  rw[List.drop_eq_getElem_cons hlt] at hm
  generalize im[k]=es at hke hmem hm
  simp only[XB] at hm
  have hI':=hI.ext hB hE
  obtain⟨id,o,X,y1,y2,y4,x1,x2,x3,x4⟩:=hI'.idx hke
  have hB3:qb { h:=(s'.alloc (.cells [.raw (.slice none 0 0)] 49 0)).h.set s'.nx (.cells [X] 49 0),nx:=s'.nx+1 }:=zH hB'
  have hE3:Ext s' { h:=(s'.alloc (.cells [.raw (.slice none 0 0)] 49 0)).h.set s'.nx (.cells [X] 49 0),nx:=s'.nx+1 }:=Ql
  have c3:({ h:=(s'.alloc (.cells [.raw (.slice none 0 0)] 49 0)).h.set s'.nx (.cells [X] 49 0),nx:=s'.nx+1 }:St).h.get s'.nx=some (.cells [X] 49 0):=hs_same
  have ew:IntKind.i64.wrap ((k:Int)+1)=((k+1:Nat):Int):=by
   rw[show (k:Int)+1=((k+1:Nat):Int) from by simp]
   exact qM (by omega)
  have stl:=fun {s:St} {x:Nat}=>q5y (s:=s) (x:=x) x4
  generalize hS3:({ h:=(s'.alloc (.cells [.raw (.slice none 0 0)] 49 0)).h.set s'.nx (.cells [X] 49 0),nx:=s'.nx+1 }:St)=s3 at *
  repeat (first|with_reducible (refine q9 H ?_;constructor)|simp only[rB,rQ,q8,qf,q7,qc,reduceIte,Nat.reduceAdd,Nat.reduceLT,Nat.reduceEqDiff,pe3,pf3,t4,t14,t15,t16,zX,g0,y1,y2,y4,q2f,stl,qys,hS3,c3,qyi,VQ])
  refine qrn H hB3 (hW.esvM.ext hB' hE3) (fun e he=>by have:=hc140 e he;omega) (by omega) (x1.ext hB' hE3) x2 (hp es hmem) x3 x4 (fun s4 W' out a1 a2 a3 a4 a5 a6=>?_) (fun s4 a1 a2 a3=>?_)
  ·rw[a1] at hm
   have g1:((0:Int) != 0)=false:=rfl
   repeat (first|with_reducible (refine q9 H ?_;constructor)|simp only[rB,rQ,q8,qf,q7,qc,reduceIte,Nat.reduceAdd,Nat.reduceLT,Nat.reduceEqDiff,pe3,pf3,t4,t14,t15,t16,qB,g1,qO,ew])
   refine ih n _ _ (Nat.lt_succ_self n) ⟨k+1,W',out,by omega,by simp only[rB,rQ,q8,qf,q7,qc,reduceIte,Nat.reduceAdd,Nat.reduceLT,Nat.reduceEqDiff],by simp only[rB,rQ,q8,qf,q7,qc,reduceIte,Nat.reduceAdd,Nat.reduceLT,Nat.reduceEqDiff,t14],by simp only[rB,rQ,q8,qf,q7,qc,reduceIte,Nat.reduceAdd,Nat.reduceLT,Nat.reduceEqDiff,t15],by simp only[rB,rQ,q8,qf,q7,qc,reduceIte,Nat.reduceAdd,Nat.reduceLT,Nat.reduceEqDiff],(hE.trans hE3).trans a2,a3,?_,a5,a6,hm⟩
   rcases a4 with h|⟨id,w1,w2,w3⟩
   ·exact Or.inl h
   ·exact Or.inr ⟨id,Nat.le_trans (hE.trans hE3).1 w1,w2,w3⟩
  ·rw[a1] at hm
   have g1:((1400:Int) != 0)=true:=rfl
   repeat (first|with_reducible (refine q9 H ?_;constructor)|simp only[rB,rQ,q8,qf,q7,qc,reduceIte,Nat.reduceAdd,Nat.reduceLT,Nat.reduceEqDiff,pe3,pf3,t4,t14,t15,t16,qB,g1,Tryz.results49])
   exact hf s4 hm ((hE.trans hE3).trans a2) a3
end Go.AX
