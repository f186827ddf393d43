import Derived.Test.YtkcbaokljkalcaaGreatAp3C3
set_option linter.unusedVariables false
set_option linter.unusedSimpArgs false
set_option linter.defProp false
namespace Go.AX
open Go.Proofs Go.RowKit
set_option maxRecDepth 1000000
set_option maxHeartbeats 4000000
set_option linter.unusedSimpArgs false
def qP (i:Nat→Nat) (l:List (List Nat × Nat)):List (List Nat × Nat):=l.map fun q=>(q.1,i q.2)
def Nd.to (i:Nat→Nat) (mp:Nat) (nd:Nd):Nd:={ nd with kids:=qP i nd.kids,up:=nd.up.map i,mp:=mp }
theorem YI {i:Nat→Nat} {mp:Nat} {nd:Nd}:(nd.to i mp).kind=nd.kind:=(rfl)
theorem qoz {i:Nat→Nat} {mp:Nat} {nd:Nd}:(nd.to i mp).data=nd.data:=(rfl)
theorem Qg {i:Nat→Nat} {mp:Nat} {nd:Nd}:(nd.to i mp).kids=qP i nd.kids:=(rfl)
theorem qwg {i:Nat→Nat} {mp:Nat} {nd:Nd}:(nd.to i mp).up=nd.up.map i:=(rfl)
theorem qmq {i:Nat→Nat} {mp:Nat} {nd:Nd}:(nd.to i mp).name=nd.name:=(rfl)
theorem qrb {i:Nat→Nat} {mp:Nat} {nd:Nd}:(nd.to i mp).mp=mp:=(rfl)
def Hom (i:Nat→Nat) (T0 T:zi):Prop:=∀ k nd,T0 k=some nd→∃ mp,T (i k)=some (nd.to i mp)
theorem QG {i:Nat→Nat} {p:List Nat}:∀ (l:List (List Nat × Nat)),ql p (qP i l)=(ql p l).map i
 | []=>rfl
 | (q,j)::l=>by
  have ih:=QG (i:=i) (p:=p) l
  simp only[qP] at ih
  simp only[qP,List.map_cons,ql]
  cases eqB p q with
  | true=>rfl
  | false=>exact ih
theorem XQ {i:Nat→Nat} {p:List Nat}:∀ (l:List (List Nat × Nat)),qH p (qP i l)=qP i (qH p l)
 | []=>rfl
 | (q,j)::l=>by
  have ih:=XQ (i:=i) (p:=p) l
  simp only[qP] at ih
  simp only[qP,List.map_cons,qH]
  cases eqB p q with
  | true=>rfl
  | false=>simp only[cond_false,ih,List.map_cons]
theorem KK {i:Nat→Nat} {p:List Nat} {n:Nat}:∀ (l:List (List Nat × Nat)),setK p (i n) (qP i l)=qP i (setK p n l)
 | []=>rfl
 | (q,j)::l=>by
  have ih:=KK (i:=i) (p:=p) (n:=n) l
  simp only[qP] at ih
  simp only[qP,List.map_cons,setK]
  cases eqB p q with
  | true=>rfl
  | false=>simp only[cond_false,ih,List.map_cons]
theorem Kj {i:Nat→Nat} (l:List (List Nat × Nat)):ZD (qP i l)=ZD l:=by
 have e:(qP i l).map (·.1)=l.map (·.1):=by simp[qP]
 unfold ZD
 rw[e]
theorem qfi {i:Nat→Nat} (l:List (List Nat × Nat)):(qP i l).isEmpty=l.isEmpty:=by cases l <;> rfl
theorem qkn {i:Nat→Nat} (l:List (List Nat × Nat)):(qP i l).length=l.length:=by simp[qP]
theorem YJ {i:Nat→Nat} {T0 T:zi} (H:Hom i T0 T):∀ {f k:Nat} {p:List Nat},zM T0 f k=some p→zM T f (i k)=some p
 | 0,_,_,h=>by cases h
 | f+1,k,p,h=>by
  simp only[zM] at h ⊢
  cases hk:T0 k with
  | none=>rw[hk] at h;cases h
  | some nd =>
   obtain⟨mp,hm⟩:=H k nd hk
   rw[hk] at h
   rw[hm]
   simp only[qwg,qmq] at h ⊢
   cases hu:nd.up with
   | none=>rw[hu] at h;exact h
   | some u =>
    rw[hu] at h
    simp only[Option.map_some] at h ⊢
    cases hp:zM T0 f u with
    | none=>rw[hp] at h;cases h
    | some q=>rw[hp] at h;rw[YJ H hp];exact h
theorem XA {i:Nat→Nat} {T0 T:zi} (H:Hom i T0 T):∀ {f k:Nat} {p:Nat},Qh T0 f k=some p→Qh T f (i k)=some p
 | 0,_,_,h=>by cases h
 | f+1,k,p,h=>by
  simp only[Qh] at h ⊢
  cases hk:T0 k with
  | none=>rw[hk] at h;cases h
  | some nd =>
   obtain⟨mp,hm⟩:=H k nd hk
   rw[hk] at h
   rw[hm]
   simp only[qwg,qmq] at h ⊢
   cases hu:nd.up with
   | none=>rw[hu] at h;exact h
   | some u =>
    rw[hu] at h
    simp only[Option.map_some] at h ⊢
    cases hp:Qh T0 f u with
    | none=>rw[hp] at h;cases h
    | some q=>rw[hp] at h;rw[XA H hp];exact h
def toS (i:Nat→Nat):Nat ⊕ Nat→Nat ⊕ Nat
 | .inl k=>.inl (i k)
 | .inr n=>.inr n
def toP (i:Nat→Nat):(Nat × List Nat) ⊕ Nat→(Nat × List Nat) ⊕ Nat
 | .inl (k,nm)=>.inl (i k,nm)
 | .inr n=>.inr n
theorem Kl {i:Nat→Nat} {T0 T:zi} (H:Hom i T0 T) {root:Nat} {follow:Bool}:∀ {f cur hops:Nat} {l:List (List Nat)} {o:Nat ⊕ Nat},Jk T0 root follow f cur hops l=some o→Jk T (i root) follow f (i cur) hops l=some (toS i o)
 | 0,_,_,_,_,h=>by simp only[Jk] at h;cases h
 | f+1,cur,hops,[],o,h=>by
  simp only[Jk] at h ⊢
  cases h
  rfl
 | f+1,cur,hops,p::rest,o,h=>by
  simp only[Jk] at h ⊢
  cases hk:T0 cur with
  | none=>rw[hk] at h;cases h
  | some nd =>
   obtain⟨mp,hm⟩:=H cur nd hk
   rw[hk] at h
   rw[hm]
   simp only[YI,Qg,QG] at h ⊢
   cases hd:decide (nd.kind≠1) with
   | true=>rw[hd] at h;simp only[cond_true] at h ⊢;cases h;rfl
   | false =>
    rw[hd] at h
    simp only[cond_false] at h ⊢
    cases hl:ql p nd.kids with
    | none=>rw[hl] at h;cases h;rfl
    | some kid =>
     rw[hl] at h
     simp only[Option.map_some] at h ⊢
     cases hkk:T0 kid with
     | none=>rw[hkk] at h;cases h
     | some kd =>
      obtain⟨mp',hm'⟩:=H kid kd hkk
      rw[hkk] at h
      rw[hm']
      simp only[YI,qoz] at h ⊢
      cases hb:(decide (kd.kind≠3)||(rest.isEmpty&&!follow)) with
      | true=>rw[hb] at h;simp only[cond_true] at h ⊢;exact Kl H h
      | false =>
       rw[hb] at h
       simp only[cond_false] at h ⊢
       cases h7:Nat.blt 7 hops with
       | true=>rw[h7] at h;simp only[cond_true] at h ⊢;cases h;rfl
       | false =>
        rw[h7] at h
        simp only[cond_false] at h ⊢
        cases hp:zM T0 20 cur with
        | none=>rw[hp] at h;cases h
        | some cw =>
         rw[hp] at h
         rw[YJ H hp]
         simp only at h ⊢
         cases hbb:(Nat.ble cw.length 1000&&(zs cw&&zs kd.data)) with
         | false=>rw[hbb] at h;cases h
         | true =>
          rw[hbb] at h
          simp only[cond_true] at h ⊢
          cases ht:Yj cw kd.data with
          | inr n=>rw[ht] at h;cases h;rfl
          | inl names =>
           rw[ht] at h
           simp only at h ⊢
           cases hn:Nat.ble (names.length+rest.length) 50000 with
           | false=>rw[hn] at h;cases h
           | true=>rw[hn] at h;simp only[cond_true] at h ⊢;exact Kl H h
theorem qf3 {i:Nat→Nat} {T0 T:zi} (H:Hom i T0 T) {cwd:Nat} {b:List Nat} {o:List (List Nat) ⊕ Nat} (h:Yp T0 cwd b=some o):Yp T (i cwd) b=some o:=by
 unfold Yp at h ⊢
 cases hp:zM T0 20 cwd with
 | none=>rw[hp] at h;cases h
 | some cw=>rw[hp] at h;rw[YJ H hp];exact h
theorem zQ {i:Nat→Nat} {T0 T:zi} (H:Hom i T0 T) {root cwd:Nat} {b:List Nat} {follow:Bool} {o:Nat ⊕ Nat} (h:zE T0 root cwd b follow=some o):zE T (i root) (i cwd) b follow=some (toS i o):=by
 unfold zE at h ⊢
 cases hp:Yp T0 cwd b with
 | none=>rw[hp] at h;cases h
 | some r =>
  rw[hp] at h
  rw[qf3 H hp]
  cases r with
  | inr n=>cases h;rfl
  | inl names=>exact Kl H h
theorem QB {i:Nat→Nat} {T0 T:zi} (H:Hom i T0 T) {root cwd:Nat} {b:List Nat} {o:(Nat × List Nat) ⊕ Nat} (h:zy T0 root cwd b=some o):zy T (i root) (i cwd) b=some (toP i o):=by
 unfold zy at h ⊢
 cases hp:Yp T0 cwd b with
 | none=>rw[hp] at h;cases h
 | some r =>
  rw[hp] at h
  rw[qf3 H hp]
  cases r with
  | inr n=>cases h;rfl
  | inl names =>
   simp only at h ⊢
   cases hn:names[names.length - 1]? with
   | none=>rw[hn] at h;cases h;rfl
   | some nm =>
    rw[hn] at h
    simp only at h ⊢
    cases hw:Jk T0 root true 200 root 0 (names.take (names.length - 1)) with
    | none=>rw[hw] at h;cases h
    | some r =>
     rw[hw] at h
     rw[Kl H hw]
     cases r with
     | inr n=>cases h;rfl
     | inl u =>
      simp only[toS] at h ⊢
      cases hu:T0 u with
      | none=>rw[hu] at h;cases h
      | some ud =>
       obtain⟨mp,hm⟩:=H u ud hu
       rw[hu] at h
       rw[hm]
       simp only[YI] at h ⊢
       cases hd:decide (ud.kind≠1) with
       | true=>rw[hd] at h;cases h;rfl
       | false=>rw[hd] at h;cases h;rfl
theorem qjc {i:Nat→Nat} {dp lg:Nat} {below below':Nat→List Nat→Option Bool} (hb:∀ j p b,below j p=some b→below' (i j) p=some b) {kids:List (List Nat × Nat)} {p:List Nat}:∀ {l:List (List Nat)} {b:Bool},WT dp lg below kids p l=some b→WT dp lg below' (qP i kids) p l=some b
 | [],b,h=>h
 | nm::l,b,h=>by
  simp only[WT,QG] at h ⊢
  cases hl:ql nm kids with
  | none=>rw[hl] at h;cases h
  | some j =>
   rw[hl] at h
   simp only[Option.map_some] at h ⊢
   cases hx:(Nat.ble (zd p nm).length 1000&&(Nat.ble (p.length+nm.length) 1000000&&Nat.ble (qw (zd p nm)).length 1000)) with
   | false=>rw[hx] at h;cases h
   | true =>
    rw[hx] at h
    simp only[cond_true] at h ⊢
    cases hf:Qy (dp+(qw (zd p nm)).length) (lg+1+(zd p nm).length) with
    | false=>rw[hf] at h;cases h;rfl
    | true =>
     rw[hf] at h
     simp only[cond_true] at h ⊢
     cases hj:below j (zd p nm) with
     | none=>rw[hj] at h;cases h
     | some c =>
      rw[hj] at h
      rw[hb _ _ _ hj]
      cases c with
      | false=>exact h
      | true=>exact qjc hb h
theorem qi5 {i:Nat→Nat} {T0 T:zi} (H:Hom i T0 T) {dp lg:Nat}:∀ {f k:Nat} {p:List Nat} {b:Bool},Ja T0 dp lg f k p=some b→Ja T dp lg f (i k) p=some b
 | 0,_,_,_,h=>by cases h
 | f+1,k,p,b,h=>by
  simp only[Ja] at h ⊢
  cases hk:T0 k with
  | none=>rw[hk] at h;cases h
  | some nd =>
   obtain⟨mp,hm⟩:=H k nd hk
   rw[hk] at h
   rw[hm]
   simp only[Qg,Kj] at h ⊢
   cases hs:ZD nd.kids with
   | none=>rw[hs] at h;cases h
   | some names=>rw[hs] at h;exact qjc (fun j p b hj=>qi5 H hj) h
theorem VT {i:Nat→Nat} {T0:zi} (hi:∀ j k nd kd,T0 j=some nd→T0 k=some kd→i j=i k→j=k) {j k:Nat} {nd kd:Nd} (hj:T0 j=some nd) (hk:T0 k=some kd):Nat.beq (i j) (i k)=Nat.beq j k:=by
 by_cases h:j=k
 ·subst h;simp[Nat.beq_eq]
 ·have h2:i j≠i k:=fun e=>h (hi _ _ _ _ hj hk e)
  have e1:Nat.beq j k=false:=by rw[← Bool.not_eq_true,Nat.beq_eq];exact h
  have e2:Nat.beq (i j) (i k)=false:=by rw[← Bool.not_eq_true,Nat.beq_eq];exact h2
  rw[e1,e2]
theorem qek {i:Nat→Nat} {T0 T:zi} (H:Hom i T0 T) (hi:∀ j k nd kd,T0 j=some nd→T0 k=some kd→i j=i k→j=k) {top:Nat} {td:Nd} (ht:T0 top=some td):∀ {f k:Nat} {b:Bool},Zm T0 top f k=some b→Zm T (i top) f (i k)=some b
 | 0,_,_,h=>by cases h
 | f+1,k,b,h=>by
  simp only[Zm] at h ⊢
  cases hk:T0 k with
  | none=>rw[hk] at h;cases h
  | some nd =>
   obtain⟨mp,hm⟩:=H k nd hk
   rw[hk] at h
   rw[hm]
   simp only[qwg,VT hi hk ht] at h ⊢
   cases he:Nat.beq k top with
   | true=>rw[he] at h;simp only[cond_true] at h ⊢;exact h
   | false =>
    rw[he] at h
    simp only[cond_false] at h ⊢
    cases hu:nd.up with
    | none=>rw[hu] at h;exact h
    | some u=>rw[hu] at h;simp only[Option.map_some] at h ⊢;exact qek H hi ht h
theorem q38 {i:Nat→Nat} {T0 T:zi} (H:Hom i T0 T) (hi:∀ j k nd kd,T0 j=some nd→T0 k=some kd→i j=i k→j=k) {cwd:Nat} {cd:Nd} (hc:T0 cwd=some cd) {dir:Bool} {k:Nat} {o:Option Nat} (h:yT T0 cwd dir k=some o):yT T (i cwd) dir (i k)=some o:=by
 unfold yT at h ⊢
 cases hk:T0 k with
 | none=>rw[hk] at h;cases h
 | some nd =>
  obtain⟨mp,hm⟩:=H k nd hk
  rw[hk] at h
  rw[hm]
  simp only[YI,Qg,qfi,VT hi hk hc] at h ⊢
  exact h
theorem quz {B C:Bool} {E E':Option Bool} (hE:∀ b,E=some b→E'=some b) {b:Bool} (h:(bif B then (bif C then E else some false) else none)=some b):(bif B then (bif C then E' else some false) else none)=some b:=by
 cases B with
 | false=>cases h
 | true=>cases C with
  | false=>exact h
  | true=>exact hE b h
theorem qrr {B:Bool} {E E':Option Bool} (hE:∀ b,E=some b→E'=some b) {b:Bool} (h:(bif B then E else some false)=some b):(bif B then E' else some false)=some b:=by
 cases B with
 | false=>exact h
 | true=>exact hE b h
theorem qm0 {i:Nat→Nat} {T0 T:zi} (H:Hom i T0 T) {v:Nat} {nm:List Nat} {j:Nat} {b:Bool} (h:qkx T0 v nm j=some b):qkx T (i v) nm (i j)=some b:=by
 unfold qkx at h ⊢
 cases hd:Qh T0 20 v with
 | none=>rw[hd] at h;cases h
 | some d =>
  rw[hd] at h
  rw[XA H hd]
  cases hp:zM T0 20 v with
  | none=>rw[hp] at h;cases h
  | some pv =>
   rw[hp] at h
   rw[YJ H hp]
   exact quz (E:=Ja T0 (d+1) (zd pv nm).length 20 j []) (E':=Ja T (d+1) (zd pv nm).length 20 (i j) []) (fun b hb=>qi5 H hb) h
def Mv.to (i:Nat→Nat) (m:Mv):Mv:=⟨i m.u,m.old,i m.j,i m.v,m.nm,m.y.map i⟩
def toR (i:Nat→Nat):Nat ⊕ Option Mv→Nat ⊕ Option Mv
 | .inl n=>.inl n
 | .inr o=>.inr (o.map (Mv.to i))
theorem qm3 {i:Nat→Nat} {T0 T:zi} (H:Hom i T0 T) (hi:∀ j k nd kd,T0 j=some nd→T0 k=some kd→i j=i k→j=k) {cwd:Nat} {cd:Nd} (hc:T0 cwd=some cd) {u:Nat} {old:List Nat} {j:Nat} {jd:Nd} {mp v:Nat} {nm:List Nat} {y:Option Nat}
  {ud vd:Nd} (hu:T0 u=some ud) (hj:T0 j=some jd) (hv:T0 v=some vd) {o:Nat ⊕ Option Mv} (h:qr8 T0 cwd u old j jd v nm y=some o) :
  qr8 T (i cwd) (i u) old (i j) (jd.to i mp) (i v) nm (y.map i)=some (toR i o):=by
 unfold qr8 at h ⊢
 simp only[YI]
 cases hb:(bif decide (jd.kind=1) then Zm T0 j 20 v else some false) with
 | none=>rw[hb] at h;cases h
 | some b =>
  rw[hb] at h
  have hb':(bif decide (jd.kind=1) then Zm T (i j) 20 (i v) else some false)=some b:=by
   exact qrr (E:=Zm T0 j 20 v) (fun b hb=>qek H hi hj hb) hb
  rw[hb']
  cases b with
  | true=>cases h;rfl
  | false =>
   cases y with
   | none =>
    simp only[Option.map_none] at h ⊢
    cases hf:qkx T0 v nm j with
    | none=>rw[hf] at h;cases h
    | some b =>
     rw[hf] at h
     rw[qm0 H hf]
     cases b with
     | false=>simp only at h ⊢;cases h;rfl
     | true =>
      simp only[VT hi hj hu,VT hi hj hv] at h ⊢
      cases hq:(Nat.beq j u||Nat.beq j v) with
      | true=>rw[hq] at h;cases h
      | false=>rw[hq] at h;simp only[cond_false] at h ⊢;cases h;rfl
   | some k =>
    simp only[Option.map_some] at h ⊢
    cases hy:yT T0 cwd (decide (jd.kind=1)) k with
    | none=>rw[hy] at h;cases h
    | some r =>
     rw[hy] at h
     rw[q38 H hi hc hy]
     cases r with
     | some n=>simp only at h ⊢;cases h;rfl
     | none =>
      simp only at h ⊢
      cases hf:qkx T0 v nm j with
      | none=>rw[hf] at h;cases h
      | some b =>
       rw[hf] at h
       rw[qm0 H hf]
       cases b with
       | false=>simp only at h ⊢;cases h;rfl
       | true =>
        simp only[VT hi hj hu,VT hi hj hv] at h ⊢
        cases hq:(Nat.beq j u||Nat.beq j v) with
        | true=>rw[hq] at h;cases h
        | false=>rw[hq] at h;simp only[cond_false] at h ⊢;cases h;rfl
theorem qw6 {i:Nat→Nat} {T0 T:zi} (H:Hom i T0 T) (hi:∀ j k nd kd,T0 j=some nd→T0 k=some kd→i j=i k→j=k) {root cwd:Nat} {cd:Nd} (hc:T0 cwd=some cd) {b b2:List Nat} {o:Nat ⊕ Option Mv} (h:qsw T0 root cwd b b2=some o) :
  qsw T (i root) (i cwd) b b2=some (toR i o):=by
 unfold qsw at h ⊢
 cases hp:zy T0 root cwd b with
 | none=>rw[hp] at h;cases h
 | some r =>
  rw[hp] at h
  rw[QB H hp]
  cases r with
  | inr n=>cases h;rfl
  | inl q =>
   obtain⟨u,old⟩:=q
   simp only[toP] at h ⊢
   cases hp2:zy T0 root cwd b2 with
   | none=>rw[hp2] at h;cases h
   | some r =>
    rw[hp2] at h
    rw[QB H hp2]
    cases r with
    | inr n=>cases h;rfl
    | inl q =>
     obtain⟨v,nm⟩:=q
     simp only[toP] at h ⊢
     cases hu:T0 u with
     | none=>rw[hu] at h;cases h
     | some ud =>
      obtain⟨mu,hmu⟩:=H u ud hu
      rw[hu] at h
      rw[hmu]
      simp only at h ⊢
      cases hv:T0 v with
      | none=>rw[hv] at h;cases h
      | some vd =>
       obtain⟨mv,hmv⟩:=H v vd hv
       rw[hv] at h
       rw[hmv]
       simp only[Qg,QG] at h ⊢
       cases hl:ql old ud.kids with
       | none=>rw[hl] at h;cases h;rfl
       | some j =>
        rw[hl] at h
        simp only[Option.map_some] at h ⊢
        cases hj:T0 j with
        | none=>rw[hj] at h;cases h
        | some jd =>
         obtain⟨mj,hmj⟩:=H j jd hj
         rw[hj] at h
         rw[hmj]
         simp only at h ⊢
         cases hl2:ql nm vd.kids with
         | none=>rw[hl2] at h;exact qm3 H hi hc hu hj hv h
         | some k =>
          rw[hl2] at h
          simp only[Option.map_some] at h ⊢
          cases hk:T0 k with
          | none=>rw[hk] at h;cases h
          | some kd =>
           obtain⟨mk,hmk⟩:=H k kd hk
           rw[hk] at h
           rw[hmk]
           simp only[VT hi hk hj] at h ⊢
           cases hq:Nat.beq k j with
           | true=>rw[hq] at h;cases h;rfl
           | false=>rw[hq] at h;exact qm3 (y:=some k) H hi hc hu hj hv h
end Go.AX
namespace Go.AX
open Go.Proofs Go.RowKit
set_option maxRecDepth 1000000
set_option maxHeartbeats 4000000
set_option linter.unusedSimpArgs false
structure Md where
 nodes:List Nd
 root:Nat
 cwd:Nat
 fds:List (Option Nat)
 many:Int
structure An where
 status:Int
 num:Int
 kind:Int
 mode:Int
 data:List Nat
 names:List (List Nat)
def an0:An:=⟨0,0,0,0,[],[]⟩
def Md.T (M:Md):zi:=fun k=>M.nodes[k]?
def JJ (ι:Nat→Nat) (fds:List (Option Nat)):List (Option Nat):=fds.map (Option.map ι)
structure RepM (s:St) (x:Nat) (M:Md) (ι μ:Nat→Nat):Prop where
 nd:∀ k nd,M.T k=some nd→qfz s (ι k) (nd.to ι (μ k))
 tr:s.h.get x=some (trA (ι M.root) (ι M.cwd) (JJ ι M.fds) M.many)
 ij:∀ j k,j < M.nodes.length→k < M.nodes.length→ι j=ι k→j=k
 mj:∀ j k,j < M.nodes.length→k < M.nodes.length→μ j=μ k→j=k
 kd:∀ k nd,M.T k=some nd→∀ q∈nd.kids,q.2 < M.nodes.length
 up:∀ k nd u,M.T k=some nd→nd.up=some u→u < M.nodes.length
 rt:M.root < M.nodes.length
 cw:M.cwd < M.nodes.length
 f8:M.fds.length=8
 fd:∀ o∈M.fds,∀ k,o=some k→k < M.nodes.length
 mn:-1000000≤M.many∧M.many≤1000000
 da:∀ k nd,M.T k=some nd→nd.data.length≤40000
def Own (x:Nat) (M:Md) (ι μ:Nat→Nat) (i:Nat):Prop:=i=x∨∃ k,k < M.nodes.length∧(i=ι k∨i=μ k)
def World (s:St) (x:Nat) (M:Md) (L:List (Nat × AO)):Prop:=qb s∧∃ ι μ,RepM s x M ι μ∧∀ q∈L,s.h.get q.1=some q.2∧¬ Own x M ι μ q.1
theorem QP {M:Md} {k:Nat} {nd:Nd} (h:M.T k=some nd):k < M.nodes.length:=by
 unfold Md.T at h
 exact (List.getElem?_eq_some_iff.mp h).1
theorem qa9 {M:Md} {k:Nat} (h:k < M.nodes.length):∃ nd,M.T k=some nd:=⟨M.nodes[k],List.getElem?_eq_getElem h⟩
open Classical in
noncomputable def tOf (M:Md) (ι μ:Nat→Nat):zi:=fun i=>if h:∃ k,k < M.nodes.length∧ι k=i then (M.T (Classical.choose h)).map (Nd.to ι (μ (Classical.choose h))) else none
section
variable {s:St} {x:Nat} {M:Md} {ι μ:Nat→Nat} (R:RepM s x M ι μ)
include R
theorem RepM.at {k:Nat} {nd:Nd} (h:M.T k=some nd):tOf M ι μ (ι k)=some (nd.to ι (μ k)):=by
 have hex:∃ j,j < M.nodes.length∧ι j=ι k:=⟨k,QP h,rfl⟩
 have hc:=Classical.choose_spec hex
 have e:Classical.choose hex=k:=R.ij _ _ hc.1 (QP h) hc.2
 unfold tOf
 rw[dif_pos hex,e,h]
 rfl
theorem RepM.inv {i:Nat} {nd':Nd} (h:tOf M ι μ i=some nd'):∃ k nd,i=ι k∧M.T k=some nd∧nd'=nd.to ι (μ k):=by
 by_cases hex:∃ j,j < M.nodes.length∧ι j=i
 ·obtain⟨k,hk,rfl⟩:=hex
  obtain⟨nd,hn⟩:=qa9 hk
  rw[R.at hn] at h
  cases h
  exact⟨k,nd,rfl,hn,rfl⟩
 ·unfold tOf at h
  rw[dif_neg hex] at h
  cases h
theorem RepM.hom:Hom ι M.T (tOf M ι μ):=fun k _ h=>⟨μ k,R.at h⟩
theorem RepM.rep:RepT s (tOf M ι μ):=fun i nd' h=>by
 obtain⟨k,nd,rfl,hn,rfl⟩:=R.inv h
 exact R.nd k nd hn
theorem RepM.inj:∀ j k nd kd,M.T j=some nd→M.T k=some kd→ι j=ι k→j=k:=fun j k _ _ hj hk e=>R.ij j k (QP hj) (QP hk) e
theorem RepM.minj:∀ u v ud vd,tOf M ι μ u=some ud→tOf M ι μ v=some vd→ud.mp=vd.mp→u=v:=by
 intro u v ud vd hu hv e
 obtain⟨k,nd,rfl,hn,rfl⟩:=R.inv hu
 obtain⟨j,jd,rfl,hj,rfl⟩:=R.inv hv
 rw[R.mj k j (QP hn) (QP hj) e]
theorem RepM.im {j k:Nat} (hj:j < M.nodes.length) (hk:k < M.nodes.length):ι j≠μ k:=by
 intro e
 obtain⟨jd,hj⟩:=qa9 hj
 obtain⟨kd,hk⟩:=qa9 hk
 have h1:=(R.nd j jd hj).1
 have h2:=(R.nd k kd hk).2
 rw[e] at h1
 have h2:s.h.get (μ k)=_:=h2
 rw[h2] at h1
 cases h1
theorem RepM.xi {k:Nat} (hk:k < M.nodes.length):ι k≠x:=by
 intro e
 obtain⟨kd,hk⟩:=qa9 hk
 have h1:=(R.nd k kd hk).1
 rw[e,R.tr] at h1
 simp[ndA,trA] at h1
theorem RepM.xm {k:Nat} (hk:k < M.nodes.length):μ k≠x:=by
 intro e
 obtain⟨kd,hk⟩:=qa9 hk
 have h1:s.h.get (μ k)=_:=(R.nd k kd hk).2
 rw[e,R.tr] at h1
 simp[trA] at h1
theorem RepM.li (hB:qb s) {k:Nat} (hk:k < M.nodes.length):ι k < s.nx:=by
 obtain⟨kd,hk⟩:=qa9 hk
 exact hB _ _ (R.nd k kd hk).1
theorem RepM.lm (hB:qb s) {k:Nat} (hk:k < M.nodes.length):μ k < s.nx:=by
 obtain⟨kd,hk⟩:=qa9 hk
 exact hB _ _ (R.nd k kd hk).2
theorem RepM.lx (hB:qb s):x < s.nx:=hB _ _ R.tr
theorem RepM.da1:∀ n nd,tOf M ι μ n=some nd→nd.data.length≤40000:=fun n nd' h=>by
 obtain⟨k,nd,rfl,hn,rfl⟩:=R.inv h
 exact R.da k nd hn
theorem RepM.da2:∀ n nd,tOf M ι μ n=some nd→nd.data.length≤1000000:=fun n nd h=>Nat.le_trans (R.da1 n nd h) (by decide)
theorem World.new {s':St} {M':Md} {L:List (Nat × AO)} (hB:qb s) (hL:∀ q∈L,s.h.get q.1=some q.2∧¬ Own x M ι μ q.1) (hB':qb s') (hlen:M'.nodes.length=M.nodes.length)
  (hn:∀ k nd,M'.T k=some nd→qfz s' (ι k) (nd.to ι (μ k))∧(∀ q∈nd.kids,q.2 < M.nodes.length)∧(∀ u,nd.up=some u→u < M.nodes.length)∧nd.data.length≤40000)
  (hrt:M'.root=M.root) (hcw:M'.cwd < M.nodes.length) (h8:M'.fds.length=8) (hfd:∀ o∈M'.fds,∀ k,o=some k→k < M.nodes.length) (hmn:-1000000≤M'.many∧M'.many≤1000000)
  (htr:s'.h.get x=some (trA (ι M'.root) (ι M'.cwd) (JJ ι M'.fds) M'.many)) (hfr:∀ i,i < s.nx→¬ Own x M ι μ i→s'.h.get i=s.h.get i):World s' x M' L:=by
 refine⟨hB',ι,μ,⟨fun k nd h=>(hn k nd h).1,htr,?_,?_,?_,?_,?_,?_,h8,?_,hmn,fun k nd h=>(hn k nd h).2.2.2⟩,?_⟩
 ·rw[hlen];exact R.ij
 ·rw[hlen];exact R.mj
 ·rw[hlen];exact fun k nd h=>(hn k nd h).2.1
 ·rw[hlen];exact fun k nd u h hu=>(hn k nd h).2.2.1 u hu
 ·rw[hlen,hrt];exact R.rt
 ·rw[hlen];exact hcw
 ·rw[hlen];exact hfd
 ·intro q hq
  obtain⟨h1,h2⟩:=hL q hq
  refine⟨(hfr _ (hB _ _ h1) h2).trans h1,?_⟩
  unfold Own at h2 ⊢
  rw[hlen]
  exact h2
theorem World.same {s':St} {L:List (Nat × AO)} (hB:qb s) (hL:∀ q∈L,s.h.get q.1=some q.2∧¬ Own x M ι μ q.1) (hB':qb s') (he:Ext s s'):World s' x M L:=by
 refine World.new R hB hL hB' rfl (fun k nd h=>⟨?_,R.kd k nd h,fun u hu=>R.up k nd u h hu,R.da k nd h⟩) rfl R.cw R.f8 R.fd R.mn ((he.2 _ (R.lx hB)).trans R.tr) (fun i hi _=>he.2 i hi)
 have:=R.nd k nd h
 exact⟨(he.2 _ (R.li hB (QP h))).trans this.1,(he.2 _ (R.lm hB (QP h))).trans this.2⟩
theorem World.turn {s':St} {L:List (Nat × AO)} (hB:qb s) (hL:∀ q∈L,s.h.get q.1=some q.2∧¬ Own x M ι μ q.1) (hB':qb s') {k:Nat} {nd nd':Nd} (hk:M.T k=some nd) (e1:nd'.kids=nd.kids) (e2:nd'.up=nd.up) (hd:nd'.data.length≤40000)
  (ht:JT s s' (ι k) (ndA (nd'.to ι (μ k)))):World s' x { M with nodes:=M.nodes.set k nd' } L:=by
 refine World.new R hB hL hB' (by simp) (fun j jd h=>?_) rfl R.cw R.f8 R.fd R.mn ((ht.2.2 _ (R.lx hB) (fun e=>R.xi (QP hk) e.symm)).trans R.tr) (fun i hi ho=>ht.2.2 i hi (fun e=>ho (Or.inr ⟨k,QP hk,Or.inl e⟩)))
 unfold Md.T at h
 simp only[List.getElem?_set] at h
 by_cases hj:k=j
 ·subst hj
  rw[if_pos rfl,if_pos (QP hk)] at h
  cases h
  refine⟨⟨ht.2.1,?_⟩,?_,?_,hd⟩
  ·have:=(R.nd k nd hk).2
   have hne:μ k≠ι k:=fun e=>R.im (QP hk) (QP hk) e.symm
   rw[qrb,Qg,e1]
   exact (ht.2.2 _ (R.lm hB (QP hk)) hne).trans this
  ·rw[e1];exact R.kd k nd hk
  ·rw[e2];exact fun u=>R.up k nd u hk
 ·rw[if_neg hj] at h
  have hj':M.T j=some jd:=h
  have:=R.nd j jd hj'
  refine⟨⟨(ht.2.2 _ (R.li hB (QP hj')) (fun e=>hj (R.ij _ _ (QP hk) (QP hj') e.symm))).trans this.1,(ht.2.2 _ (R.lm hB (QP hj')) (fun e=>R.im (QP hk) (QP hj') e.symm)).trans this.2⟩,R.kd j jd hj',fun u=>R.up j jd u hj',R.da j jd hj'⟩
end
theorem World.ext {s s':St} {x:Nat} {M:Md} {L:List (Nat × AO)} (h:World s x M L) (he:Ext s s') (hB':qb s'):World s' x M L:=by
 obtain⟨hB,ι,μ,R,hL⟩:=h
 exact World.same R hB hL hB' he
def Kt (s:St) (x:Nat) (M:Md) (L:List (Nat × AO)) (kr kp:AV→St→Bool):Nat ⊕ (An × Md)→Prop
 | .inl n=>∀ s',World s' x M L→s.nx≤s'.nx→kp (.iface 110 (.raw (.int .i64 ((n:Nat):Int)))) s'=true
 | .inr (an,M')=>∀ s' V,World s' x M' L→s.nx≤s'.nx→SlV s' V an.names→kr (.agg (anL an.status an.num an.kind an.mode an.data V)) s'=true
theorem zt {s:St}:SlV s nilS []:=Or.inl ⟨rfl,rfl⟩
theorem qq6 {i:Nat→Nat} {mp:Nat} {nd:Nd}:qcj (nd.to i mp)=qcj nd:=by
 unfold qcj
 rw[YI,Qg,qkn,qoz]
def do1 (M:Md) (c:Cl):Option (Nat ⊕ (An × Md)):=match zE M.T M.root M.cwd c.path false with
 | none=>none
 | some (.inr n)=>some (.inl n)
 | some (.inl k)=>match M.T k with
  | none=>none
  | some nd=>some (.inr (⟨0,qcj nd,nd.kind,nd.mode,[],[]⟩,M))
theorem q4f {s:St} (H:Ok TE Tryz.prog pr3) {x:Nat} {M:Md} {L:List (Nat × AO)} (hW:World s x M L) {c:Cl} (hop:c.op=1) {r:Nat ⊕ (An × Md)} (h:do1 M c=some r) {kr kp:AV→St→Bool} (hk:Kt s x M L kr kp r) :
  (sem Tryz.prog).call 59 [.ptr x 0,.agg (clL c)] s kr kp=true:=by
 have hW':=hW
 obtain⟨hB,ι,μ,R,hL⟩:=hW'
 unfold do1 at h
 cases hf:zE M.T M.root M.cwd c.path false with
 | none=>rw[hf] at h;cases h
 | some out =>
 rw[hf] at h
 cases out with
 | inr n =>
  have hf':zE (tOf M ι μ) (ι M.root) (ι M.cwd) c.path false=some (.inr n):=zQ R.hom hf
  cases h
  exact qpg H R.rep hB R.tr hop hf' (fun n h=>by cases h) (fun n nd s' h=>by cases h) (fun n s' h e b=>by cases h;exact hk s' (hW.ext e b) e.1)
 | inl k =>
  have hf':zE (tOf M ι μ) (ι M.root) (ι M.cwd) c.path false=some (.inl (ι k)):=zQ R.hom hf
  simp only at h
  cases hT:M.T k with
  | none=>rw[hT] at h;cases h
  | some nd =>
   rw[hT] at h
   cases h
   refine qpg H R.rep hB R.tr hop hf' (fun n h=>by cases h;exact⟨_,R.at hT⟩) (fun n nd' s' h1 h2 e b=>?_) (fun n s' h=>by cases h)
   cases h1
   rw[R.at hT] at h2
   cases h2
   rw[qq6]
   exact hk s' nilS (hW.ext e b) e.1 zt
def do2 (M:Md) (c:Cl):Option (Nat ⊕ (An × Md)):=match zE M.T M.root M.cwd c.path true with
 | none=>none
 | some (.inr n)=>some (.inl n)
 | some (.inl k)=>match M.T k with
  | none=>none
  | some nd=>bif decide (nd.kind=1) then some (.inl 4) else match Jf nd.data c.off c.num with
   | .inr e=>some (.inl e)
   | .inl d=>some (.inr (⟨0,(d.length:Int),0,0,d,[]⟩,M))
theorem q5p {s:St} (H:Ok TE Tryz.prog pr3) {x:Nat} {M:Md} {L:List (Nat × AO)} (hW:World s x M L) {c:Cl} (hop:c.op=2) {r:Nat ⊕ (An × Md)} (h:do2 M c=some r) {kr kp:AV→St→Bool} (hk:Kt s x M L kr kp r) :
  (sem Tryz.prog).call 59 [.ptr x 0,.agg (clL c)] s kr kp=true:=by
 have hW':=hW
 obtain⟨hB,ι,μ,R,hL⟩:=hW'
 unfold do2 at h
 cases hf:zE M.T M.root M.cwd c.path true with
 | none=>rw[hf] at h;cases h
 | some out =>
 rw[hf] at h
 cases out with
 | inr n =>
  have hf':zE (tOf M ι μ) (ι M.root) (ι M.cwd) c.path true=some (.inr n):=zQ R.hom hf
  cases h
  exact qmm H R.rep hB R.tr hop hf' (fun n h=>by cases h) R.da2 (fun n nd s' h=>by cases h) (fun n nd d s' h=>by cases h) (fun n nd d s' h=>by cases h) (fun n s' h e b=>by cases h;exact hk s' (hW.ext e b) e.1)
 | inl k =>
  have hf':zE (tOf M ι μ) (ι M.root) (ι M.cwd) c.path true=some (.inl (ι k)):=zQ R.hom hf
  simp only at h
  cases hT:M.T k with
  | none=>rw[hT] at h;cases h
  | some nd =>
   rw[hT] at h
   simp only at h
   have hA:=R.at hT
   refine qmm H R.rep hB R.tr hop hf' (fun n h=>by cases h;exact⟨_,hA⟩) R.da2 (fun n nd' s' h1 h2 h3 e b=>?_) (fun n nd' d s' h1 h2 h3 h4 e b=>?_) (fun n nd' d s' h1 h2 h3 h4 e b=>?_) (fun n s' h=>by cases h)
   all_goals (cases h1;rw[hA] at h2;cases h2)
   ·have h3:nd.kind=1:=h3
    rw[decide_eq_true h3] at h
    cases h
    exact hk s' (hW.ext e b) e.1
   ·have h3:nd.kind≠1:=h3
    have h4:Jf nd.data c.off c.num=_:=h4
    rw[decide_eq_false h3,cond_false,h4] at h
    cases h
    exact hk s' nilS (hW.ext e b) e.1 zt
   ·have h3:nd.kind≠1:=h3
    have h4:Jf nd.data c.off c.num=_:=h4
    rw[decide_eq_false h3,cond_false,h4] at h
    cases h
    exact hk s' (hW.ext e b) e.1
def do3 (M:Md) (c:Cl):Option (Nat ⊕ (An × Md)):=bif M.nodes.all (fun nd=>(ZD nd.kids).isSome) then (match zE M.T M.root M.cwd c.path true with
 | none=>none
 | some (.inr n)=>some (.inl n)
 | some (.inl k)=>match M.T k with
  | none=>none
  | some nd=>bif !decide (nd.kind=1) then some (.inl 3) else match ZD nd.kids with
   | none=>none
   | some nm=>some (.inr (⟨0,0,0,0,[],nm⟩,M))) else none
theorem q5l {s:St} (H:Ok TE Tryz.prog pr3) {x:Nat} {M:Md} {L:List (Nat × AO)} (hW:World s x M L) {c:Cl} (hop:c.op=3) {r:Nat ⊕ (An × Md)} (h:do3 M c=some r) {kr kp:AV→St→Bool} (hk:Kt s x M L kr kp r) :
  (sem Tryz.prog).call 59 [.ptr x 0,.agg (clL c)] s kr kp=true:=by
 have hW':=hW
 obtain⟨hB,ι,μ,R,hL⟩:=hW'
 unfold do3 at h
 cases ha:M.nodes.all (fun nd=>(ZD nd.kids).isSome) with
 | false=>rw[ha] at h;cases h
 | true =>
 rw[ha,cond_true] at h
 have hs:∀ n nd,tOf M ι μ n=some nd→∃ nm,ZD nd.kids=some nm:=by
  intro n nd' hn
  obtain⟨k,nd,rfl,hn2,rfl⟩:=R.inv hn
  have:=List.all_eq_true.mp ha nd (List.mem_of_getElem? hn2)
  rw[Qg,Kj]
  exact Option.isSome_iff_exists.mp this
 cases hf:zE M.T M.root M.cwd c.path true with
 | none=>rw[hf] at h;cases h
 | some out =>
 rw[hf] at h
 cases out with
 | inr n =>
  have hf':zE (tOf M ι μ) (ι M.root) (ι M.cwd) c.path true=some (.inr n):=zQ R.hom hf
  cases h
  exact qpe H R.rep hB R.tr hop hf' (fun n h=>by cases h) hs (fun n nd s' h=>by cases h) (fun n nd d V s' h=>by cases h) (fun n s' h e b=>by cases h;exact hk s' (hW.ext e b) e.1)
 | inl k =>
  have hf':zE (tOf M ι μ) (ι M.root) (ι M.cwd) c.path true=some (.inl (ι k)):=zQ R.hom hf
  simp only at h
  cases hT:M.T k with
  | none=>rw[hT] at h;cases h
  | some nd =>
   rw[hT] at h
   simp only at h
   have hA:=R.at hT
   refine qpe H R.rep hB R.tr hop hf' (fun n h=>by cases h;exact⟨_,hA⟩) hs (fun n nd' s' h1 h2 h3 e b=>?_) (fun n nd' nm V s' h1 h2 h3 h4 hV e b=>?_) (fun n s' h=>by cases h)
   all_goals (cases h1;rw[hA] at h2;cases h2)
   ·have h3:nd.kind≠1:=h3
    rw[decide_eq_false h3] at h
    cases h
    exact hk s' (hW.ext e b) e.1
   ·have h3:nd.kind=1:=h3
    rw[Qg,Kj] at h4
    rw[decide_eq_true h3,Bool.not_true,cond_false,h4] at h
    cases h
    exact hk s' V (hW.ext e b) e.1 hV
def do4 (M:Md) (c:Cl):Option (Nat ⊕ (An × Md)):=match zE M.T M.root M.cwd c.path false with
 | none=>none
 | some (.inr n)=>some (.inl n)
 | some (.inl k)=>match M.T k with
  | none=>none
  | some nd=>bif decide (nd.kind=3) then some (.inr (⟨0,0,0,0,nd.data,[]⟩,M)) else some (.inl 5)
theorem q50 {s:St} (H:Ok TE Tryz.prog pr3) {x:Nat} {M:Md} {L:List (Nat × AO)} (hW:World s x M L) {c:Cl} (hop:c.op=4) {r:Nat ⊕ (An × Md)} (h:do4 M c=some r) {kr kp:AV→St→Bool} (hk:Kt s x M L kr kp r) :
  (sem Tryz.prog).call 59 [.ptr x 0,.agg (clL c)] s kr kp=true:=by
 have hW':=hW
 obtain⟨hB,ι,μ,R,hL⟩:=hW'
 unfold do4 at h
 cases hf:zE M.T M.root M.cwd c.path false with
 | none=>rw[hf] at h;cases h
 | some out =>
 rw[hf] at h
 cases out with
 | inr n =>
  have hf':zE (tOf M ι μ) (ι M.root) (ι M.cwd) c.path false=some (.inr n):=zQ R.hom hf
  cases h
  exact qnd H R.rep hB R.tr hop hf' (fun n h=>by cases h) (fun n nd s' h=>by cases h) (fun n nd s' h=>by cases h) (fun n s' h e b=>by cases h;exact hk s' (hW.ext e b) e.1)
 | inl k =>
  have hf':zE (tOf M ι μ) (ι M.root) (ι M.cwd) c.path false=some (.inl (ι k)):=zQ R.hom hf
  simp only at h
  cases hT:M.T k with
  | none=>rw[hT] at h;cases h
  | some nd =>
   rw[hT] at h
   simp only at h
   have hA:=R.at hT
   refine qnd H R.rep hB R.tr hop hf' (fun n h=>by cases h;exact⟨_,hA⟩) (fun n nd' s' h1 h2 h3 e b=>?_) (fun n nd' s' h1 h2 h3 e b=>?_) (fun n s' h=>by cases h)
   all_goals (cases h1;rw[hA] at h2;cases h2)
   ·have h3:nd.kind≠3:=h3
    rw[decide_eq_false h3] at h
    cases h
    exact hk s' (hW.ext e b) e.1
   ·have h3:nd.kind=3:=h3
    rw[decide_eq_true h3] at h
    cases h
    exact hk s' nilS (hW.ext e b) e.1 zt
def q0f (M:Md) (c:Cl):Option (Nat ⊕ (An × Md)):=match zE M.T M.root M.cwd c.path true with
 | none=>none
 | some (.inr n)=>some (.inl n)
 | some (.inl k)=>match M.T k with
  | none=>none
  | some nd=>bif decide (c.mode < 0∨c.mode > 511) then some (.inl 5) else some (.inr (an0,{ M with nodes:=M.nodes.set k { nd with mode:=c.mode } }))
theorem q2k {s:St} (H:Ok TE Tryz.prog pr3) {x:Nat} {M:Md} {L:List (Nat × AO)} (hW:World s x M L) {c:Cl} (hop:c.op=10) {r:Nat ⊕ (An × Md)} (h:q0f M c=some r) {kr kp:AV→St→Bool} (hk:Kt s x M L kr kp r) :
  (sem Tryz.prog).call 61 [.ptr x 0,.agg (clL c)] s kr kp=true:=by
 have hW':=hW
 obtain⟨hB,ι,μ,R,hL⟩:=hW'
 unfold q0f at h
 cases hf:zE M.T M.root M.cwd c.path true with
 | none=>rw[hf] at h;cases h
 | some out =>
 rw[hf] at h
 cases out with
 | inr n =>
  have hf':zE (tOf M ι μ) (ι M.root) (ι M.cwd) c.path true=some (.inr n):=zQ R.hom hf
  cases h
  exact qaj H R.rep hB R.tr hop hf' (fun n h=>by cases h) (fun n nd s' h=>by cases h) (fun n nd s' h=>by cases h) (fun n s' h e b=>by cases h;exact hk s' (hW.ext e b) e.1)
 | inl k =>
  have hf':zE (tOf M ι μ) (ι M.root) (ι M.cwd) c.path true=some (.inl (ι k)):=zQ R.hom hf
  simp only at h
  cases hT:M.T k with
  | none=>rw[hT] at h;cases h
  | some nd =>
   rw[hT] at h
   simp only at h
   have hA:=R.at hT
   refine qaj H R.rep hB R.tr hop hf' (fun n h=>by cases h;exact⟨_,hA⟩) (fun n nd' s' h1 h2 h3 e b=>?_) (fun n nd' s' h1 h2 h3 h4 e b=>?_) (fun n s' h=>by cases h)
   all_goals (cases h1;rw[hA] at h2;cases h2)
   ·rw[decide_eq_true h3] at h
    cases h
    exact hk s' (hW.ext e b) e.1
   ·rw[decide_eq_false (by omega)] at h
    cases h
    exact hk s' nilS (World.turn R hB hL b hT rfl rfl (R.da k nd hT) e) e.1 zt
def do8 (M:Md) (c:Cl):Option (Nat ⊕ (An × Md)):=bif Nat.ble c.data.length 10000000000000000000 then (match zE M.T M.root M.cwd c.path true with
 | none=>none
 | some (.inr n)=>some (.inl n)
 | some (.inl k)=>match M.T k with
  | none=>none
  | some nd=>bif decide (nd.kind=1) then some (.inl 4) else match Zt nd.data c.off c.data with
   | .inr e=>some (.inl e)
   | .inl d=>bif Nat.ble d.length 40000 then some (.inr (⟨0,(c.data.length:Int),0,0,[],[]⟩,{ M with nodes:=M.nodes.set k { nd with data:=d } })) else none) else none
theorem q56 {s:St} (H:Ok TE Tryz.prog pr3) {x:Nat} {M:Md} {L:List (Nat × AO)} (hW:World s x M L) {c:Cl} (hop:c.op=8) {r:Nat ⊕ (An × Md)} (h:do8 M c=some r) {kr kp:AV→St→Bool} (hk:Kt s x M L kr kp r) :
  (sem Tryz.prog).call 61 [.ptr x 0,.agg (clL c)] s kr kp=true:=by
 have hW':=hW
 obtain⟨hB,ι,μ,R,hL⟩:=hW'
 unfold do8 at h
 cases hw:Nat.ble c.data.length 10000000000000000000 with
 | false=>rw[hw] at h;cases h
 | true =>
 rw[hw,cond_true] at h
 have hw:=Nat.le_of_ble_eq_true hw
 cases hf:zE M.T M.root M.cwd c.path true with
 | none=>rw[hf] at h;cases h
 | some out =>
 rw[hf] at h
 cases out with
 | inr n =>
  have hf':zE (tOf M ι μ) (ι M.root) (ι M.cwd) c.path true=some (.inr n):=zQ R.hom hf
  cases h
  exact qfr H R.rep hB R.tr hop hf' (fun n h=>by cases h) R.da1 hw (fun n nd s' h=>by cases h) (fun n nd d s' h=>by cases h) (fun n nd d s' h=>by cases h) (fun n s' h e b=>by cases h;exact hk s' (hW.ext e b) e.1)
 | inl k =>
  have hf':zE (tOf M ι μ) (ι M.root) (ι M.cwd) c.path true=some (.inl (ι k)):=zQ R.hom hf
  simp only at h
  cases hT:M.T k with
  | none=>rw[hT] at h;cases h
  | some nd =>
   rw[hT] at h
   simp only at h
   have hA:=R.at hT
   refine qfr H R.rep hB R.tr hop hf' (fun n h=>by cases h;exact⟨_,hA⟩) R.da1 hw (fun n nd' s' h1 h2 h3 e b=>?_) (fun n nd' d s' h1 h2 h3 h4 e b=>?_) (fun n nd' d s' h1 h2 h3 h4 e b=>?_) (fun n s' h=>by cases h)
   all_goals (cases h1;rw[hA] at h2;cases h2)
   ·have h3:nd.kind=1:=h3
    rw[decide_eq_true h3] at h
    cases h
    exact hk s' (hW.ext e b) e.1
   ·have h3:nd.kind≠1:=h3
    have h4:Zt nd.data c.off c.data=_:=h4
    rw[decide_eq_false h3,cond_false,h4] at h
    simp only at h
    cases hd:Nat.ble d.length 40000 with
    | false=>rw[hd] at h;cases h
    | true =>
     rw[hd] at h
     cases h
     exact hk s' nilS (World.turn R hB hL b hT rfl rfl (Nat.le_of_ble_eq_true hd) e) e.1 zt
   ·have h3:nd.kind≠1:=h3
    have h4:Zt nd.data c.off c.data=_:=h4
    rw[decide_eq_false h3,cond_false,h4] at h
    cases h
    exact hk s' (hW.ext e b) e.1
def do9 (M:Md) (c:Cl):Option (Nat ⊕ (An × Md)):=match zE M.T M.root M.cwd c.path true with
 | none=>none
 | some (.inr n)=>some (.inl n)
 | some (.inl k)=>match M.T k with
  | none=>none
  | some nd=>bif decide (nd.kind=1) then some (.inl 4) else bif decide (c.num < 0) then some (.inl 5) else bif decide (c.num > 1024) then some (.inl 9) else
   some (.inr (an0,{ M with nodes:=M.nodes.set k { nd with data:=Y4 nd.data c.num.toNat } }))
theorem q6g {s:St} (H:Ok TE Tryz.prog pr3) {x:Nat} {M:Md} {L:List (Nat × AO)} (hW:World s x M L) {c:Cl} (hop:c.op=9) {r:Nat ⊕ (An × Md)} (h:do9 M c=some r) {kr kp:AV→St→Bool} (hk:Kt s x M L kr kp r) :
  (sem Tryz.prog).call 61 [.ptr x 0,.agg (clL c)] s kr kp=true:=by
 have hW':=hW
 obtain⟨hB,ι,μ,R,hL⟩:=hW'
 unfold do9 at h
 cases hf:zE M.T M.root M.cwd c.path true with
 | none=>rw[hf] at h;cases h
 | some out =>
 rw[hf] at h
 cases out with
 | inr n =>
  have hf':zE (tOf M ι μ) (ι M.root) (ι M.cwd) c.path true=some (.inr n):=zQ R.hom hf
  cases h
  exact qfd H R.rep hB R.tr hop hf' (fun n h=>by cases h) R.da1 (fun n nd s' h=>by cases h) (fun n nd s' h=>by cases h) (fun n nd s' h=>by cases h) (fun n nd s' h=>by cases h) (fun n s' h e b=>by cases h;exact hk s' (hW.ext e b) e.1)
 | inl k =>
  have hf':zE (tOf M ι μ) (ι M.root) (ι M.cwd) c.path true=some (.inl (ι k)):=zQ R.hom hf
  simp only at h
  cases hT:M.T k with
  | none=>rw[hT] at h;cases h
  | some nd =>
   rw[hT] at h
   simp only at h
   have hA:=R.at hT
   refine qfd H R.rep hB R.tr hop hf' (fun n h=>by cases h;exact⟨_,hA⟩) R.da1 (fun n nd' s' h1 h2 h3 e b=>?_) (fun n nd' s' h1 h2 h3 h4 e b=>?_) (fun n nd' s' h1 h2 h3 h4 e b=>?_) (fun n nd' s' h1 h2 h3 h4 h5 e b=>?_) (fun n s' h=>by cases h)
   all_goals (cases h1;rw[hA] at h2;cases h2)
   ·have h3:nd.kind=1:=h3
    rw[decide_eq_true h3] at h
    cases h
    exact hk s' (hW.ext e b) e.1
   ·have h3:nd.kind≠1:=h3
    rw[decide_eq_false h3,cond_false,decide_eq_true h4] at h
    cases h
    exact hk s' (hW.ext e b) e.1
   ·have h3:nd.kind≠1:=h3
    rw[decide_eq_false h3,cond_false,decide_eq_false (by omega:¬ c.num < 0),cond_false,decide_eq_true h4] at h
    cases h
    exact hk s' (hW.ext e b) e.1
   ·have h3:nd.kind≠1:=h3
    rw[decide_eq_false h3,cond_false,decide_eq_false (by omega:¬ c.num < 0),cond_false,decide_eq_false (by omega:¬ c.num > 1024)] at h
    cases h
    exact hk s' nilS (World.turn R hB hL b hT rfl rfl (by show (Y4 nd.data c.num.toNat).length≤40000;rw[qay];omega) e) e.1 zt
end Go.AX
namespace Go.AX
open Go.Proofs Go.RowKit
set_option maxRecDepth 1000000
set_option maxHeartbeats 4000000
set_option linter.unusedSimpArgs false
theorem q3s {α:Type}:∀ {l:List α},l.length=8→∃ a b c d e f g h,l=[a,b,c,d,e,f,g,h]
 | [a,b,c,d,e,f,g,h],_=>⟨a,b,c,d,e,f,g,h,rfl⟩
theorem RepM.tr8 {s:St} {x:Nat} {M:Md} {ι μ:Nat→Nat} (R:RepM s x M ι μ):∃ f0 f1 f2 f3 f4 f5 f6 f7,∀ m:Int,trA (ι M.root) (ι M.cwd) (JJ ι M.fds) m=.cells [.ptr (ι M.root) 0,.ptr (ι M.cwd) 0,f0,f1,f2,f3,f4,f5,f6,f7,.raw (.int .i64 m)] 120 0:=by
 obtain⟨a,b,c,d,e,f,g,h,hl⟩:=q3s R.f8
 rw[hl]
 exact⟨upA (a.map ι),upA (b.map ι),upA (c.map ι),upA (d.map ι),upA (e.map ι),upA (f.map ι),upA (g.map ι),upA (h.map ι),fun m=>rfl⟩
theorem qgs {b:List Nat} (h:Qw b=true):b.length≤40000:=by
 unfold Qw at h
 simp only[Bool.and_eq_true] at h
 have:=Nat.le_of_ble_eq_true h.2.1
 omega
theorem XD {p:List Nat} {n:Nat}:∀ {l:List (List Nat × Nat)} {q:List Nat × Nat},q∈setK p n l→q.2=n∨q∈l
 | [],q,h=>by
  simp only[setK,List.mem_singleton] at h
  exact Or.inl (by rw[h])
 | (r,j)::l,q,h=>by
  simp only[setK] at h
  cases he:eqB p r with
  | true =>
   rw[he] at h
   simp only[cond_true,List.mem_cons] at h
   rcases h with rfl|h
   ·exact Or.inl rfl
   ·exact Or.inr (List.mem_cons_of_mem _ h)
  | false =>
   rw[he] at h
   simp only[cond_false,List.mem_cons] at h
   rcases h with rfl|h
   ·exact Or.inr (List.mem_cons_self ..)
   ·exact (XD h).imp_right (List.mem_cons_of_mem _)
theorem JD {p:List Nat}:∀ {l:List (List Nat × Nat)} {q:List Nat × Nat},q∈qH p l→q∈l
 | [],q,h=>h
 | (r,j)::l,q,h=>by
  simp only[qH] at h
  cases he:eqB p r with
  | true =>
   rw[he] at h
   exact List.mem_cons_of_mem _ h
  | false =>
   rw[he] at h
   simp only[cond_false,List.mem_cons] at h
   rcases h with rfl|h
   ·exact List.mem_cons_self ..
   ·exact List.mem_cons_of_mem _ (JD h)
theorem Yc {i j:Nat→Nat} {l:List (List Nat × Nat)} (h:∀ q∈l,i q.2=j q.2):qP i l=qP j l:=by
 unfold qP
 exact List.map_congr_left fun q hq=>by rw[h q hq]
theorem qid {i j:Nat→Nat} {mp:Nat} {nd:Nd} (h:∀ q∈nd.kids,i q.2=j q.2) (h2:∀ u,nd.up=some u→i u=j u):nd.to i mp=nd.to j mp:=by
 unfold Nd.to
 rw[Yc h]
 cases hu:nd.up with
 | none=>rfl
 | some u=>simp only[Option.map_some,h2 u hu]
def qpk (M:Md) (u:Nat) (ud:Nd) (nm:List Nat) (nw:Nd):Md:={ M with nodes:=M.nodes.set u { ud with kids:=setK nm M.nodes.length ud.kids }++[nw],many:=M.many+1 }
theorem World.made {s s':St} {x:Nat} {M:Md} {ι μ:Nat→Nat} (R:RepM s x M ι μ) {L:List (Nat × AO)} (hB:qb s) (hL:∀ q∈L,s.h.get q.1=some q.2∧¬ Own x M ι μ q.1) (hB':qb s') {k:Nat} {ud:Nd} (hk:M.T k=some ud)
  {kind mode:Int} {data nm:List Nat} {N mp:Nat} (hd:data.length≤40000) (hm:M.many < 128) (hN:s.nx≤N)
  (hc:Chg s s' [((ud.to ι (μ k)).mp,.map (qL (setK nm N (ud.to ι (μ k)).kids))),(x,trA (ι M.root) (ι M.cwd) (JJ ι M.fds) (M.many+1))])
  (hn:qfz s' N ⟨kind,mode,data,[],some (ι k),nm,mp⟩) (hmp:s.nx≤mp) (hne:mp≠N):World s' x (qpk M k ud nm ⟨kind,mode,data,[],some k,nm,0⟩) L:=by
 have hkl:=QP hk
 have hlen:(qpk M k ud nm ⟨kind,mode,data,[],some k,nm,0⟩).nodes.length=M.nodes.length+1:=by simp[qpk]
 let ι':Nat→Nat:=fun j=>if j=M.nodes.length then N else ι j
 let μ':Nat→Nat:=fun j=>if j=M.nodes.length then mp else μ j
 have i1:ι' M.nodes.length=N:=if_pos rfl
 have i2:∀ j,j < M.nodes.length→ι' j=ι j:=fun j hj=>if_neg (by omega)
 have m1:μ' M.nodes.length=mp:=if_pos rfl
 have m2:∀ j,j < M.nodes.length→μ' j=μ j:=fun j hj=>if_neg (by omega)
 have fr:∀ j,j < s.nx→j≠μ k→j≠x→s'.h.get j=s.h.get j:=fun j h1 h2 h3=>hc.2.2 j h1 (by
  intro q hq
  simp only[List.mem_cons,List.not_mem_nil,or_false] at hq
  rcases hq with rfl|rfl
  ·exact h2
  ·exact h3)
 have hmap:s'.h.get (μ k)=some (.map (qL (setK nm N (qP ι ud.kids)))):=hc.2.1 _ (List.mem_cons_self ..)
 have htr:s'.h.get x=some (trA (ι M.root) (ι M.cwd) (JJ ι M.fds) (M.many+1)):=hc.2.1 (x,_) (List.mem_cons_of_mem _ (List.mem_cons_self ..))
 have hT:∀ j jd,(qpk M k ud nm ⟨kind,mode,data,[],some k,nm,0⟩).T j=some jd→(j=M.nodes.length∧jd=⟨kind,mode,data,[],some k,nm,0⟩)∨(j=k∧jd={ ud with kids:=setK nm M.nodes.length ud.kids })∨(j≠k∧M.T j=some jd):=by
  intro j jd h
  unfold Md.T qpk at h
  simp only at h
  by_cases hj:j < M.nodes.length
  ·rw[List.getElem?_append_left (by simpa using hj),List.getElem?_set] at h
   by_cases hjk:k=j
   ·rw[if_pos hjk,if_pos hkl] at h
    cases h
    exact Or.inr (Or.inl ⟨hjk.symm,rfl⟩)
   ·rw[if_neg hjk] at h
    exact Or.inr (Or.inr ⟨fun e=>hjk e.symm,h⟩)
  ·have hj2:=(List.getElem?_eq_some_iff.mp h).1
   have hj3:j=M.nodes.length:=by simp at hj2;omega
   subst hj3
   rw[List.getElem?_append_right (by simp)] at h
   simp at h
   exact Or.inl ⟨rfl,h.symm⟩
 refine⟨hB',ι',μ',⟨?_,?_,?_,?_,?_,?_,?_,?_,R.f8,?_,?_,?_⟩,?_⟩
 ·intro j jd h
  rcases hT j jd h with⟨rfl,rfl⟩|⟨rfl,rfl⟩|⟨hjk,hj⟩
  ·rw[i1,m1]
   have e:Nd.to ι' mp ⟨kind,mode,data,[],some k,nm,0⟩=⟨kind,mode,data,[],some (ι k),nm,mp⟩:=by
    unfold Nd.to
    simp only[qP,List.map_nil,Option.map_some,i2 k hkl]
   rw[e]
   exact hn
  ·rw[i2 j hkl,m2 j hkl]
   have old:=R.nd j ud hk
   have e1:qP ι' ud.kids=qP ι ud.kids:=Yc fun q hq=>i2 _ (R.kd j ud hk q hq)
   have e2:ud.up.map ι'=ud.up.map ι:=by
    cases hu:ud.up with
    | none=>rfl
    | some u=>simp only[Option.map_some,i2 u (R.up j ud u hk hu)]
   refine⟨?_,?_⟩
   ·have:s'.h.get (ι j)=some (ndA (ud.to ι (μ j))):=(fr _ (R.li hB hkl) (R.im hkl hkl) (R.xi hkl)).trans old.1
    rw[this]
    unfold ndA Nd.to
    simp only[e2]
   ·rw[qrb,Qg,hmap]
    simp only
    rw[← KK,i1,e1]
  ·have hjl:=QP hj
   rw[i2 j hjl,m2 j hjl,qid (fun q hq=>i2 _ (R.kd j jd hj q hq)) (fun u hu=>i2 _ (R.up j jd u hj hu))]
   have old:=R.nd j jd hj
   exact⟨(fr _ (R.li hB hjl) (R.im hjl hkl) (R.xi hjl)).trans old.1,(fr _ (R.lm hB hjl) (fun e=>hjk (R.mj _ _ hjl hkl e)) (R.xm hjl)).trans old.2⟩
 ·have e:JJ ι' M.fds=JJ ι M.fds:=by
   unfold JJ
   refine List.map_congr_left fun o ho=>?_
   cases o with
   | none=>rfl
   | some u=>simp only[Option.map_some,i2 u (R.fd _ ho u rfl)]
  show s'.h.get x=some (trA (ι' M.root) (ι' M.cwd) (JJ ι' M.fds) (M.many+1))
  rw[i2 _ R.rt,i2 _ R.cw,e]
  exact htr
 ·intro a b ha hb e
  rw[hlen] at ha hb
  by_cases h1:a=M.nodes.length
  ·by_cases h2:b=M.nodes.length
   ·rw[h1,h2]
   ·have hb':b < M.nodes.length:=by omega
    rw[h1,i1,i2 b hb'] at e
    have:=R.li hB hb'
    omega
  ·have ha':a < M.nodes.length:=by omega
   by_cases h2:b=M.nodes.length
   ·rw[h2,i1,i2 a ha'] at e
    have:=R.li hB ha'
    omega
   ·have hb':b < M.nodes.length:=by omega
    rw[i2 a ha',i2 b hb'] at e
    exact R.ij _ _ ha' hb' e
 ·intro a b ha hb e
  rw[hlen] at ha hb
  by_cases h1:a=M.nodes.length
  ·by_cases h2:b=M.nodes.length
   ·rw[h1,h2]
   ·have hb':b < M.nodes.length:=by omega
    rw[h1,m1,m2 b hb'] at e
    have:=R.lm hB hb'
    omega
  ·have ha':a < M.nodes.length:=by omega
   by_cases h2:b=M.nodes.length
   ·rw[h2,m1,m2 a ha'] at e
    have:=R.lm hB ha'
    omega
   ·have hb':b < M.nodes.length:=by omega
    rw[m2 a ha',m2 b hb'] at e
    exact R.mj _ _ ha' hb' e
 ·intro j jd h q hq
  rw[hlen]
  rcases hT j jd h with⟨rfl,rfl⟩|⟨rfl,rfl⟩|⟨hjk,hj⟩
  ·cases hq
  ·rcases XD hq with e|e
   ·omega
   ·have:=R.kd j ud hk q e
    omega
  ·have:=R.kd j jd hj q hq
   omega
 ·intro j jd u h hu
  rw[hlen]
  rcases hT j jd h with⟨rfl,rfl⟩|⟨rfl,rfl⟩|⟨hjk,hj⟩
  ·cases hu
   omega
  ·have:=R.up j ud u hk hu
   omega
  ·have:=R.up j jd u hj hu
   omega
 ·rw[hlen];have:=R.rt;show M.root < _;omega
 ·rw[hlen];have:=R.cw;show M.cwd < _;omega
 ·intro o ho u hu
  rw[hlen]
  have:=R.fd o ho u hu
  omega
 ·have:=R.mn
  show -1000000≤M.many+1∧M.many+1≤1000000
  omega
 ·intro j jd h
  rcases hT j jd h with⟨rfl,rfl⟩|⟨rfl,rfl⟩|⟨hjk,hj⟩
  ·exact hd
  ·exact R.da j ud hk
  ·exact R.da j jd hj
 ·intro q hq
  obtain⟨h1,h2⟩:=hL q hq
  have hlt:=hB _ _ h1
  refine⟨(fr _ hlt (fun e=>h2 (Or.inr ⟨k,hkl,Or.inr e⟩)) (fun e=>h2 (Or.inl e))).trans h1,?_⟩
  rintro (e|⟨j,hj,e⟩)
  ·exact h2 (Or.inl e)
  ·rw[hlen] at hj
   by_cases h3:j=M.nodes.length
   ·subst h3
    rw[i1,m1] at e
    omega
   ·have hj':j < M.nodes.length:=by omega
    rw[i2 j hj',m2 j hj'] at e
    exact h2 (Or.inr ⟨j,hj',e⟩)
def do5 (M:Md) (c:Cl):Option (Nat ⊕ (An × Md)):=match zy M.T M.root M.cwd c.path with
 | none=>none
 | some (.inr n)=>some (.inl n)
 | some (.inl (u,nm))=>match M.T u with
  | none=>none
  | some ud=>match Qh M.T 20 u with
   | none=>none
   | some d=>match zM M.T 20 u with
    | none=>none
    | some p=>bif Nat.ble (p.length+nm.length) 1000000&&Nat.ble d 1000000 then (match ql nm ud.kids with
     | some _=>some (.inl 2)
     | none=>bif decide (c.mode < 0∨c.mode > 511) then some (.inl 5) else bif !Qy (d+1) (zd p nm).length then some (.inl 8) else bif decide (M.many ≥ 128) then some (.inl 10) else
      some (.inr (an0,qpk M u ud nm ⟨2,c.mode,[],[],some u,nm,0⟩))) else none
theorem q59 {s:St} (H:Ok TE Tryz.prog pr3) {x:Nat} {M:Md} {L:List (Nat × AO)} (hW:World s x M L) {c:Cl} (hop:c.op=5) {r:Nat ⊕ (An × Md)} (h:do5 M c=some r) {kr kp:AV→St→Bool} (hk:Kt s x M L kr kp r) :
  (sem Tryz.prog).call 60 [.ptr x 0,.agg (clL c)] s kr kp=true:=by
 have hW':=hW
 obtain⟨hB,ι,μ,R,hL⟩:=hW'
 obtain⟨f0,f1,f2,f3,f4,f5,f6,f7,ef⟩:=R.tr8
 have hx:=R.tr
 rw[ef] at hx
 unfold do5 at h
 cases hf:zy M.T M.root M.cwd c.path with
 | none=>rw[hf] at h;cases h
 | some out =>
 rw[hf] at h
 cases out with
 | inr n =>
  have hf':zy (tOf M ι μ) (ι M.root) (ι M.cwd) c.path=some (.inr n):=QB R.hom hf
  cases h
  exact qme H R.rep hB hx R.mn hop hf' (fun u nm h=>by cases h) (fun u nm ud j s' h=>by cases h) (fun u nm ud s' h=>by cases h) (fun u nm ud d p s' h=>by cases h) (fun u nm ud d p s' h=>by cases h) (fun u nm ud d p N s' h=>by cases h) (fun n s' h e b=>by cases h;exact hk s' (hW.ext e b) e.1)
 | inl q =>
  obtain⟨u,nm⟩:=q
  have hf':zy (tOf M ι μ) (ι M.root) (ι M.cwd) c.path=some (.inl (ι u,nm)):=QB R.hom hf
  simp only at h
  cases hT:M.T u with
  | none=>rw[hT] at h;cases h
  | some ud =>
  rw[hT] at h
  simp only at h
  cases hd:Qh M.T 20 u with
  | none=>rw[hd] at h;cases h
  | some d =>
  rw[hd] at h
  simp only at h
  cases hp:zM M.T 20 u with
  | none=>rw[hp] at h;cases h
  | some p =>
  rw[hp] at h
  simp only at h
  cases hb:(Nat.ble (p.length+nm.length) 1000000&&Nat.ble d 1000000) with
  | false=>rw[hb] at h;cases h
  | true =>
  rw[hb,cond_true] at h
  rw[Bool.and_eq_true] at hb
  have hA:=R.at hT
  have hd':=XA R.hom hd
  have hp':=YJ R.hom hp
  refine qme H R.rep hB hx R.mn hop hf' (fun u' nm' h=>by cases h;exact⟨_,d,p,hA,hd',hp',hb.1,Nat.le_of_ble_eq_true hb.2⟩) (fun u' nm' ud' j s' h1 h2 h3 e b=>?_) (fun u' nm' ud' s' h1 h2 h3 h4 e b=>?_) (fun u' nm' ud' d' p' s' h1 h2 h3 h4 h5 g1 g2 g3 e b=>?_) (fun u' nm' ud' d' p' s' h1 h2 h3 h4 h5 g1 g2 g3 g4 e b=>?_) (fun u' nm' ud' d' p' N s' h1 h2 h3 h4 h5 g1 g2 g3 g4 g5 g6 g7 b=>?_) (fun n s' h=>by cases h)
  all_goals (cases h1;rw[hA] at h2;cases h2;rw[Qg,QG] at h3)
  ·cases hl:ql nm ud.kids with
   | none=>rw[hl] at h3;cases h3
   | some j' =>
    rw[hl] at h
    cases h
    exact hk s' (hW.ext e b) e.1
  all_goals (cases hl:ql nm ud.kids with|some j'=>(rw[hl] at h3;cases h3)|none=>?_)
  all_goals (rw[hl] at h;simp only at h)
  ·rw[decide_eq_true h4,cond_true] at h
   cases h
   exact hk s' (hW.ext e b) e.1
  all_goals (rw[hd'] at g1;cases g1;rw[hp'] at g2;cases g2)
  ·rw[decide_eq_false (by omega:¬ (c.mode < 0∨c.mode > 511)),cond_false,g3,Bool.not_false,cond_true] at h
   cases h
   exact hk s' (hW.ext e b) e.1
  ·rw[decide_eq_false (by omega:¬ (c.mode < 0∨c.mode > 511)),cond_false,g3,Bool.not_true,cond_false,decide_eq_true g4,cond_true] at h
   cases h
   exact hk s' (hW.ext e b) e.1
  ·rw[decide_eq_false (by omega:¬ (c.mode < 0∨c.mode > 511)),cond_false,g3,Bool.not_true,cond_false,decide_eq_false (by omega:¬ M.many ≥ 128),cond_false] at h
   cases h
   rw[← ef] at g6
   obtain⟨mp,g7,g8,g9⟩:=g7
   exact hk s' nilS (World.made R hB hL b hT (by simp) (by omega) g5 g6 g7 g8 g9) g6.1 zt
def do6 (M:Md) (c:Cl):Option (Nat ⊕ (An × Md)):=match zy M.T M.root M.cwd c.path with
 | none=>none
 | some (.inr n)=>some (.inl n)
 | some (.inl (u,nm))=>match M.T u with
  | none=>none
  | some ud=>match Qh M.T 20 u with
   | none=>none
   | some d=>match zM M.T 20 u with
    | none=>none
    | some p=>bif Nat.ble (p.length+nm.length) 1000000&&Nat.ble d 1000000 then (match ql nm ud.kids with
     | some _=>some (.inl 2)
     | none=>bif decide (c.mode < 0∨c.mode > 511) then some (.inl 5) else bif !Qy (d+1) (zd p nm).length then some (.inl 8) else bif decide (M.many ≥ 128) then some (.inl 10) else
      some (.inr (an0,qpk M u ud nm ⟨1,c.mode,[],[],some u,nm,0⟩))) else none
theorem q30 {s:St} (H:Ok TE Tryz.prog pr3) {x:Nat} {M:Md} {L:List (Nat × AO)} (hW:World s x M L) {c:Cl} (hop:c.op=6) {r:Nat ⊕ (An × Md)} (h:do6 M c=some r) {kr kp:AV→St→Bool} (hk:Kt s x M L kr kp r) :
  (sem Tryz.prog).call 60 [.ptr x 0,.agg (clL c)] s kr kp=true:=by
 have hW':=hW
 obtain⟨hB,ι,μ,R,hL⟩:=hW'
 obtain⟨f0,f1,f2,f3,f4,f5,f6,f7,ef⟩:=R.tr8
 have hx:=R.tr
 rw[ef] at hx
 unfold do6 at h
 cases hf:zy M.T M.root M.cwd c.path with
 | none=>rw[hf] at h;cases h
 | some out =>
 rw[hf] at h
 cases out with
 | inr n =>
  have hf':zy (tOf M ι μ) (ι M.root) (ι M.cwd) c.path=some (.inr n):=QB R.hom hf
  cases h
  exact qnl H R.rep hB hx R.mn hop hf' (fun u nm h=>by cases h) (fun u nm ud j s' h=>by cases h) (fun u nm ud s' h=>by cases h) (fun u nm ud d p s' h=>by cases h) (fun u nm ud d p s' h=>by cases h) (fun u nm ud d p N s' h=>by cases h) (fun n s' h e b=>by cases h;exact hk s' (hW.ext e b) e.1)
 | inl q =>
  obtain⟨u,nm⟩:=q
  have hf':zy (tOf M ι μ) (ι M.root) (ι M.cwd) c.path=some (.inl (ι u,nm)):=QB R.hom hf
  simp only at h
  cases hT:M.T u with
  | none=>rw[hT] at h;cases h
  | some ud =>
  rw[hT] at h
  simp only at h
  cases hd:Qh M.T 20 u with
  | none=>rw[hd] at h;cases h
  | some d =>
  rw[hd] at h
  simp only at h
  cases hp:zM M.T 20 u with
  | none=>rw[hp] at h;cases h
  | some p =>
  rw[hp] at h
  simp only at h
  cases hb:(Nat.ble (p.length+nm.length) 1000000&&Nat.ble d 1000000) with
  | false=>rw[hb] at h;cases h
  | true =>
  rw[hb,cond_true] at h
  rw[Bool.and_eq_true] at hb
  have hA:=R.at hT
  have hd':=XA R.hom hd
  have hp':=YJ R.hom hp
  refine qnl H R.rep hB hx R.mn hop hf' (fun u' nm' h=>by cases h;exact⟨_,d,p,hA,hd',hp',hb.1,Nat.le_of_ble_eq_true hb.2⟩) (fun u' nm' ud' j s' h1 h2 h3 e b=>?_) (fun u' nm' ud' s' h1 h2 h3 h4 e b=>?_) (fun u' nm' ud' d' p' s' h1 h2 h3 h4 h5 g1 g2 g3 e b=>?_) (fun u' nm' ud' d' p' s' h1 h2 h3 h4 h5 g1 g2 g3 g4 e b=>?_) (fun u' nm' ud' d' p' N s' h1 h2 h3 h4 h5 g1 g2 g3 g4 g5 g6 g7 b=>?_) (fun n s' h=>by cases h)
  all_goals (cases h1;rw[hA] at h2;cases h2;rw[Qg,QG] at h3)
  ·cases hl:ql nm ud.kids with
   | none=>rw[hl] at h3;cases h3
   | some j' =>
    rw[hl] at h
    cases h
    exact hk s' (hW.ext e b) e.1
  all_goals (cases hl:ql nm ud.kids with|some j'=>(rw[hl] at h3;cases h3)|none=>?_)
  all_goals (rw[hl] at h;simp only at h)
  ·rw[decide_eq_true h4,cond_true] at h
   cases h
   exact hk s' (hW.ext e b) e.1
  all_goals (rw[hd'] at g1;cases g1;rw[hp'] at g2;cases g2)
  ·rw[decide_eq_false (by omega:¬ (c.mode < 0∨c.mode > 511)),cond_false,g3,Bool.not_false,cond_true] at h
   cases h
   exact hk s' (hW.ext e b) e.1
  ·rw[decide_eq_false (by omega:¬ (c.mode < 0∨c.mode > 511)),cond_false,g3,Bool.not_true,cond_false,decide_eq_true g4,cond_true] at h
   cases h
   exact hk s' (hW.ext e b) e.1
  ·rw[decide_eq_false (by omega:¬ (c.mode < 0∨c.mode > 511)),cond_false,g3,Bool.not_true,cond_false,decide_eq_false (by omega:¬ M.many ≥ 128),cond_false] at h
   cases h
   rw[← ef] at g6
   obtain⟨mp,g7,g8,g9⟩:=g7
   exact hk s' nilS (World.made R hB hL b hT (by simp) (by omega) g5 g6 g7 g8 g9) g6.1 zt
def do7 (M:Md) (c:Cl):Option (Nat ⊕ (An × Md)):=match zy M.T M.root M.cwd c.path with
 | none=>none
 | some (.inr n)=>some (.inl n)
 | some (.inl (u,nm))=>match M.T u with
  | none=>none
  | some ud=>match Qh M.T 20 u with
   | none=>none
   | some d=>match zM M.T 20 u with
    | none=>none
    | some p=>bif Nat.ble (p.length+nm.length) 1000000&&Nat.ble d 1000000 then (match ql nm ud.kids with
     | some _=>some (.inl 2)
     | none=>bif !Qw c.data then some (.inl 5) else bif !Qy (d+1) (zd p nm).length then some (.inl 8) else bif decide (M.many ≥ 128) then some (.inl 10) else
      some (.inr (an0,qpk M u ud nm ⟨3,511,c.data,[],some u,nm,0⟩))) else none
theorem q5a {s:St} (H:Ok TE Tryz.prog pr3) {x:Nat} {M:Md} {L:List (Nat × AO)} (hW:World s x M L) {c:Cl} (hop:c.op=7) {r:Nat ⊕ (An × Md)} (h:do7 M c=some r) {kr kp:AV→St→Bool} (hk:Kt s x M L kr kp r) :
  (sem Tryz.prog).call 60 [.ptr x 0,.agg (clL c)] s kr kp=true:=by
 have hW':=hW
 obtain⟨hB,ι,μ,R,hL⟩:=hW'
 obtain⟨f0,f1,f2,f3,f4,f5,f6,f7,ef⟩:=R.tr8
 have hx:=R.tr
 rw[ef] at hx
 unfold do7 at h
 cases hf:zy M.T M.root M.cwd c.path with
 | none=>rw[hf] at h;cases h
 | some out =>
 rw[hf] at h
 cases out with
 | inr n =>
  have hf':zy (tOf M ι μ) (ι M.root) (ι M.cwd) c.path=some (.inr n):=QB R.hom hf
  cases h
  exact qnb H R.rep hB hx R.mn hop hf' (fun u nm h=>by cases h) (fun u nm ud j s' h=>by cases h) (fun u nm ud s' h=>by cases h) (fun u nm ud d p s' h=>by cases h) (fun u nm ud d p s' h=>by cases h) (fun u nm ud d p N s' h=>by cases h) (fun n s' h e b=>by cases h;exact hk s' (hW.ext e b) e.1)
 | inl q =>
  obtain⟨u,nm⟩:=q
  have hf':zy (tOf M ι μ) (ι M.root) (ι M.cwd) c.path=some (.inl (ι u,nm)):=QB R.hom hf
  simp only at h
  cases hT:M.T u with
  | none=>rw[hT] at h;cases h
  | some ud =>
  rw[hT] at h
  simp only at h
  cases hd:Qh M.T 20 u with
  | none=>rw[hd] at h;cases h
  | some d =>
  rw[hd] at h
  simp only at h
  cases hp:zM M.T 20 u with
  | none=>rw[hp] at h;cases h
  | some p =>
  rw[hp] at h
  simp only at h
  cases hb:(Nat.ble (p.length+nm.length) 1000000&&Nat.ble d 1000000) with
  | false=>rw[hb] at h;cases h
  | true =>
  rw[hb,cond_true] at h
  rw[Bool.and_eq_true] at hb
  have hA:=R.at hT
  have hd':=XA R.hom hd
  have hp':=YJ R.hom hp
  refine qnb H R.rep hB hx R.mn hop hf' (fun u' nm' h=>by cases h;exact⟨_,d,p,hA,hd',hp',hb.1,Nat.le_of_ble_eq_true hb.2⟩) (fun u' nm' ud' j s' h1 h2 h3 e b=>?_) (fun u' nm' ud' s' h1 h2 h3 h4 e b=>?_) (fun u' nm' ud' d' p' s' h1 h2 h3 h4 g1 g2 g3 e b=>?_) (fun u' nm' ud' d' p' s' h1 h2 h3 h4 g1 g2 g3 g4 e b=>?_) (fun u' nm' ud' d' p' N s' h1 h2 h3 h4 g1 g2 g3 g4 g5 g6 g7 b=>?_) (fun n s' h=>by cases h)
  all_goals (cases h1;rw[hA] at h2;cases h2;rw[Qg,QG] at h3)
  ·cases hl:ql nm ud.kids with
   | none=>rw[hl] at h3;cases h3
   | some j' =>
    rw[hl] at h
    cases h
    exact hk s' (hW.ext e b) e.1
  all_goals (cases hl:ql nm ud.kids with|some j'=>(rw[hl] at h3;cases h3)|none=>?_)
  all_goals (rw[hl] at h;simp only at h)
  ·rw[h4,Bool.not_false,cond_true] at h
   cases h
   exact hk s' (hW.ext e b) e.1
  all_goals (rw[hd'] at g1;cases g1;rw[hp'] at g2;cases g2)
  ·rw[h4,Bool.not_true,cond_false,g3,Bool.not_false,cond_true] at h
   cases h
   exact hk s' (hW.ext e b) e.1
  ·rw[h4,Bool.not_true,cond_false,g3,Bool.not_true,cond_false,decide_eq_true g4,cond_true] at h
   cases h
   exact hk s' (hW.ext e b) e.1
  ·rw[h4,Bool.not_true,cond_false,g3,Bool.not_true,cond_false,decide_eq_false (by omega:¬ M.many ≥ 128),cond_false] at h
   cases h
   rw[← ef] at g6
   obtain⟨mp,g7,g8,g9⟩:=g7
   exact hk s' nilS (World.made R hB hL b hT (qgs h4) (by omega) g5 g6 g7 g8 g9) g6.1 zt
def qx1 (M:Md) (c:Cl) (file:Bool):Option (Nat ⊕ (An × Md)):=match zy M.T M.root M.cwd c.path with
 | none=>none
 | some (.inr n)=>some (.inl n)
 | some (.inl (u,nm))=>match M.T u with
  | none=>none
  | some ud=>match ql nm ud.kids with
   | none=>some (.inl 1)
   | some j=>match M.T j with
    | none=>none
    | some jd=>bif file&&decide (jd.kind=1) then some (.inl 4) else bif !file&&!decide (jd.kind=1) then some (.inl 3) else bif !file&&!jd.kids.isEmpty then some (.inl 6) else bif !file&&Nat.beq j M.cwd then some (.inl 13)
     else bif decide (-999999≤M.many) then some (.inr (an0,{ M with nodes:=M.nodes.set u { ud with kids:=qH nm ud.kids },many:=M.many - 1 })) else none
theorem qj1 {i:Nat→Nat} {l:List (List Nat × Nat)}:qP i l=[]↔l=[]:=by cases l <;> simp[qP]
theorem World.less {s s':St} {x:Nat} {M:Md} {ι μ:Nat→Nat} (R:RepM s x M ι μ) {L:List (Nat × AO)} (hB:qb s) (hL:∀ q∈L,s.h.get q.1=some q.2∧¬ Own x M ι μ q.1) (hB':qb s') {k:Nat} {ud:Nd} (hk:M.T k=some ud)
  {nm:List Nat} (hm:-999999≤M.many)
  (hc:Chg s s' [((ud.to ι (μ k)).mp,.map (qL (qH nm (ud.to ι (μ k)).kids))),(x,trA (ι M.root) (ι M.cwd) (JJ ι M.fds) (M.many - 1))]) :
  World s' x { M with nodes:=M.nodes.set k { ud with kids:=qH nm ud.kids },many:=M.many - 1 } L:=by
 have hkl:=QP hk
 have fr:∀ j,j < s.nx→j≠μ k→j≠x→s'.h.get j=s.h.get j:=fun j h1 h2 h3=>hc.2.2 j h1 (by
  intro q hq
  simp only[List.mem_cons,List.not_mem_nil,or_false] at hq
  rcases hq with rfl|rfl
  ·exact h2
  ·exact h3)
 have hmap:s'.h.get (μ k)=some (.map (qL (qH nm (qP ι ud.kids)))):=hc.2.1 _ (List.mem_cons_self ..)
 have htr:s'.h.get x=some (trA (ι M.root) (ι M.cwd) (JJ ι M.fds) (M.many - 1)):=hc.2.1 (x,_) (List.mem_cons_of_mem _ (List.mem_cons_self ..))
 refine World.new R hB hL hB' (by simp) (fun j jd h=>?_) rfl R.cw R.f8 R.fd (by have:=R.mn;show -1000000≤M.many - 1∧M.many - 1≤1000000;omega) htr (fun i hi ho=>fr i hi (fun e=>ho (Or.inr ⟨k,hkl,Or.inr e⟩)) (fun e=>ho (Or.inl e)))
 unfold Md.T at h
 simp only[List.getElem?_set] at h
 by_cases hj:k=j
 ·subst hj
  rw[if_pos rfl,if_pos hkl] at h
  cases h
  have old:=R.nd k ud hk
  refine⟨⟨(fr _ (R.li hB hkl) (R.im hkl hkl) (R.xi hkl)).trans old.1,?_⟩,fun q hq=>R.kd k ud hk q (JD hq),fun u hu=>R.up k ud u hk hu,R.da k ud hk⟩
  rw[qrb,Qg,hmap]
  simp only
  rw[XQ]
 ·rw[if_neg hj] at h
  have hj':M.T j=some jd:=h
  have hjl:=QP hj'
  have old:=R.nd j jd hj'
  exact⟨⟨(fr _ (R.li hB hjl) (R.im hjl hkl) (R.xi hjl)).trans old.1,(fr _ (R.lm hB hjl) (fun e=>hj (R.mj _ _ hkl hjl e.symm)) (R.xm hjl)).trans old.2⟩,R.kd j jd hj',fun u hu=>R.up j jd u hj' hu,R.da j jd hj'⟩
theorem qsv {s:St} (H:Ok TE Tryz.prog pr3) {x:Nat} {M:Md} {L:List (Nat × AO)} (hW:World s x M L) {c:Cl} {file:Bool} (hop:c.op=(bif file then 11 else 12)) {r:Nat ⊕ (An × Md)} (h:qx1 M c file=some r) {kr kp:AV→St→Bool} (hk:Kt s x M L kr kp r) :
  (sem Tryz.prog).call 62 [.ptr x 0,.agg (clL c)] s kr kp=true:=by
 have hW':=hW
 obtain⟨hB,ι,μ,R,hL⟩:=hW'
 obtain⟨f0,f1,f2,f3,f4,f5,f6,f7,ef⟩:=R.tr8
 have hx:=R.tr
 rw[ef] at hx
 obtain⟨cd,hcd⟩:=qa9 R.cw
 have hop2:c.op=11∨c.op=12:=by cases file;exact Or.inr hop;exact Or.inl hop
 unfold qx1 at h
 cases hf:zy M.T M.root M.cwd c.path with
 | none=>rw[hf] at h;cases h
 | some out =>
 rw[hf] at h
 cases out with
 | inr n =>
  have hf':zy (tOf M ι μ) (ι M.root) (ι M.cwd) c.path=some (.inr n):=QB R.hom hf
  cases h
  exact qjp H R.rep hB hx (R.at hcd) R.mn hop2 hf' (fun u nm h=>by cases h) (fun u nm ud s' h=>by cases h) (fun u nm ud j kd n s' h=>by cases h) (fun u nm ud j kd s' h=>by cases h) (fun n s' h e b=>by cases h;exact hk s' (hW.ext e b) e.1)
 | inl q =>
  obtain⟨u,nm⟩:=q
  have hf':zy (tOf M ι μ) (ι M.root) (ι M.cwd) c.path=some (.inl (ι u,nm)):=QB R.hom hf
  simp only at h
  cases hT:M.T u with
  | none=>rw[hT] at h;cases h
  | some ud =>
  rw[hT] at h
  simp only at h
  have hA:=R.at hT
  refine qjp H R.rep hB hx (R.at hcd) R.mn hop2 hf' (fun u' nm' h=>?_) (fun u' nm' ud' s' h1 h2 h3 e b=>?_) (fun u' nm' ud' j' kd' n s' h1 h2 h3 h4 h5 e b=>?_) (fun u' nm' ud' j' kd' s' h1 h2 h3 h4 h5 e b=>?_) (fun n s' h=>by cases h)
  ·cases h
   refine⟨_,hA,fun j hj=>?_⟩
   rw[Qg,QG] at hj
   cases hl:ql nm ud.kids with
   | none=>rw[hl] at hj;cases hj
   | some j0 =>
    rw[hl] at hj h
    cases hj
    simp only at h
    cases hTj:M.T j0 with
    | none=>rw[hTj] at h;cases h
    | some jd=>exact⟨_,R.at hTj⟩
  all_goals (cases h1;rw[hA] at h2;cases h2;rw[Qg,QG] at h3)
  ·cases hl:ql nm ud.kids with
   | some j'=>rw[hl] at h3;cases h3
   | none =>
    rw[hl] at h
    cases h
    exact hk s' (hW.ext e b) e.1
  all_goals (cases hl:ql nm ud.kids with|none=>(rw[hl] at h3;cases h3)|some j0=>?_)
  all_goals (rw[hl] at h h3;cases h3;simp only at h;cases hTj:M.T j0 with|none=>(rw[hTj] at h;cases h)|some jd=>?_)
  all_goals (rw[hTj] at h;simp only at h;rw[R.at hTj] at h4;cases h4;simp only[YI,Qg,ne_eq,qj1] at h5)
  ·cases file with
   | true =>
    have hop:c.op=11:=hop
    rcases h5 with⟨_,h5,rfl⟩|⟨h6,_⟩|⟨h6,_⟩|⟨h6,_⟩
    ·simp only[Bool.true_and,decide_eq_true h5,cond_true] at h
     cases h
     exact hk s' (hW.ext e b) e.1
    all_goals (rw[hop] at h6;cases h6)
   | false =>
    have hop:c.op=12:=hop
    rcases h5 with⟨h6,_⟩|⟨_,h5,rfl⟩|⟨_,h5,h7,rfl⟩|⟨_,h5,h7,h8,rfl⟩
    ·rw[hop] at h6;cases h6
    ·simp only[Bool.false_and,Bool.not_false,Bool.true_and,cond_false,decide_eq_false h5,cond_true] at h
     cases h
     exact hk s' (hW.ext e b) e.1
    ·have e1:jd.kids.isEmpty=false:=by cases hq:jd.kids with|nil=>exact absurd hq h7|cons=>rfl
     simp only[Bool.false_and,Bool.not_false,Bool.not_true,Bool.true_and,cond_false,decide_eq_true h5,cond_true,e1] at h
     cases h
     exact hk s' (hW.ext e b) e.1
    ·have e1:jd.kids.isEmpty=true:=by rw[h7];rfl
     have e2:Nat.beq j0 M.cwd=true:=by rw[R.inj _ _ _ _ hTj hcd h8];exact Nat.beq_refl _
     simp only[Bool.false_and,Bool.not_false,Bool.not_true,Bool.true_and,cond_false,decide_eq_true h5,cond_true,e1,e2] at h
     cases h
     exact hk s' (hW.ext e b) e.1
  ·have hh:(bif decide (-999999≤M.many) then some (Sum.inr (an0,{ M with nodes:=M.nodes.set u { ud with kids:=qH nm ud.kids },many:=M.many - 1 })) else none)=some r:=by
    cases file with
    | true =>
     have hop:c.op=11:=hop
     rcases h5 with⟨_,h5⟩|⟨h6,_⟩
     ·simp only[Bool.true_and,Bool.not_true,Bool.false_and,decide_eq_false h5,cond_false] at h
      exact h
     ·rw[hop] at h6;cases h6
    | false =>
     have hop:c.op=12:=hop
     rcases h5 with⟨h6,_⟩|⟨_,h5,h7,h8⟩
     ·rw[hop] at h6;cases h6
     ·have e1:jd.kids.isEmpty=true:=by rw[h7];rfl
      have e2:Nat.beq j0 M.cwd=false:=by
       rw[← Bool.not_eq_true,Nat.beq_eq]
       intro e
       exact h8 (by rw[e])
      simp only[Bool.false_and,Bool.not_false,Bool.not_true,Bool.true_and,cond_false,decide_eq_true h5,e1,e2] at h
      exact h
   cases hm:decide (-999999≤M.many) with
   | false=>rw[hm] at hh;cases hh
   | true =>
    rw[hm] at hh
    cases hh
    rw[← ef] at e
    exact hk s' nilS (World.less R hB hL b hT (of_decide_eq_true hm) e) e.1 zt
def qnn (l:List Nd) (m:Mv) (ud vd jd:Nd):List Nd:=((bif Nat.beq m.u m.v then l.set m.j { jd with up:=some m.v,name:=m.nm } else (l.set m.j { jd with up:=some m.v,name:=m.nm }).set m.u { ud with kids:=qH m.old ud.kids })).set m.v { vd with kids:=setK m.nm m.j (QK m.u m.v m.old ud vd).kids }
theorem Kn {l:List Nd} {m:Mv} {ud vd jd:Nd}:(qnn l m ud vd jd).length=l.length:=by
 unfold qnn
 cases Nat.beq m.u m.v <;> simp
theorem qnv {l:List Nd} {m:Mv} {ud vd jd:Nd} {i:Nat} {d:Nd} (hv:m.v < l.length) (hu:m.u < l.length) (hj:m.j < l.length) (h:(qnn l m ud vd jd)[i]?=some d) :
  (i=m.v∧d={ vd with kids:=setK m.nm m.j (QK m.u m.v m.old ud vd).kids })∨(i≠m.v∧i=m.u∧d={ ud with kids:=qH m.old ud.kids })∨(i≠m.v∧i≠m.u∧i=m.j∧d={ jd with up:=some m.v,name:=m.nm })∨(i≠m.v∧i≠m.u∧i≠m.j∧l[i]?=some d):=by
 unfold qnn at h
 rw[List.getElem?_set] at h
 by_cases h1:m.v=i
 ·rw[if_pos h1] at h
  have:m.v < (bif Nat.beq m.u m.v then l.set m.j { jd with up:=some m.v,name:=m.nm } else (l.set m.j { jd with up:=some m.v,name:=m.nm }).set m.u { ud with kids:=qH m.old ud.kids }).length:=by cases Nat.beq m.u m.v <;> simpa using hv
  rw[if_pos this] at h
  cases h
  exact Or.inl ⟨h1.symm,rfl⟩
 ·rw[if_neg h1] at h
  have h1':i≠m.v:=fun e=>h1 e.symm
  right
  cases hb:Nat.beq m.u m.v with
  | true =>
   have huv:=Nat.eq_of_beq_eq_true hb
   rw[hb,cond_true,List.getElem?_set] at h
   have h2:i≠m.u:=by rw[huv];exact h1'
   by_cases h3:m.j=i
   ·rw[if_pos h3,if_pos hj] at h
    cases h
    exact Or.inr (Or.inl ⟨h1',h2,h3.symm,rfl⟩)
   ·rw[if_neg h3] at h
    exact Or.inr (Or.inr ⟨h1',h2,fun e=>h3 e.symm,h⟩)
  | false =>
   rw[hb,cond_false,List.getElem?_set] at h
   by_cases h2:m.u=i
   ·rw[if_pos h2,if_pos (by simpa using hu)] at h
    cases h
    exact Or.inl ⟨h1',h2.symm,rfl⟩
   ·rw[if_neg h2,List.getElem?_set] at h
    by_cases h3:m.j=i
    ·rw[if_pos h3,if_pos hj] at h
     cases h
     exact Or.inr (Or.inl ⟨h1',fun e=>h2 e.symm,h3.symm,rfl⟩)
    ·rw[if_neg h3] at h
     exact Or.inr (Or.inr ⟨h1',fun e=>h2 e.symm,fun e=>h3 e.symm,h⟩)
def qzu (M:Md) (c:Cl):Option (Nat ⊕ (An × Md)):=match qsw M.T M.root M.cwd c.path c.path2 with
 | none=>none
 | some (.inl n)=>some (.inl n)
 | some (.inr none)=>some (.inr (an0,M))
 | some (.inr (some m))=>match M.T m.u with
  | none=>none
  | some ud=>match M.T m.v with
   | none=>none
   | some vd=>match M.T m.j with
    | none=>none
    | some jd=>bif decide (-999999≤M.many) then some (.inr (an0,{ M with nodes:=qnn M.nodes m ud vd jd,many:=bif m.y.isSome then M.many - 1 else M.many })) else none
theorem q2l {s:St} (H:Ok TE Tryz.prog pr3) {x:Nat} {M:Md} {L:List (Nat × AO)} (hW:World s x M L) {c:Cl} {r:Nat ⊕ (An × Md)} (h:qzu M c=some r) {kr kp:AV→St→Bool} (hk:Kt s x M L kr kp r) :
  (sem Tryz.prog).call 63 [.ptr x 0,.agg (clL c)] s kr kp=true:=by
 have hW':=hW
 obtain⟨hB,ι,μ,R,hL⟩:=hW'
 obtain⟨f0,f1,f2,f3,f4,f5,f6,f7,ef⟩:=R.tr8
 have hx:=R.tr
 rw[ef] at hx
 obtain⟨cd,hcd⟩:=qa9 R.cw
 unfold qzu at h
 cases hf:qsw M.T M.root M.cwd c.path c.path2 with
 | none=>rw[hf] at h;cases h
 | some out =>
 rw[hf] at h
 have hf':=qw6 R.hom R.inj hcd hf
 cases out with
 | inl n =>
  cases h
  exact qcf H R.rep hB R.minj hx (R.at hcd) R.mn hf' (fun n s' h e b=>by cases h;exact hk s' (hW.ext e b) e.1) (fun s' h=>by cases h) (fun m ud vd jd s' h=>by cases h)
 | inr o=>cases o with
 | none =>
  cases h
  exact qcf H R.rep hB R.minj hx (R.at hcd) R.mn hf' (fun n s' h=>by cases h) (fun s' h e b=>hk s' nilS (hW.ext e b) e.1 zt) (fun m ud vd jd s' h=>by cases h)
 | some m =>
  simp only at h
  refine qcf H R.rep hB R.minj hx (R.at hcd) R.mn hf' (fun n s' h=>by cases h) (fun s' h=>by cases h) (fun m' ud' vd' jd' s' h1 hu' hv' hj' hju hjv hnx g1 g2 g3 g4 g5 b=>?_)
  have h1:m.to ι=m':=by
   have:(Sum.inr (some (m.to ι)):Nat ⊕ Option Mv)=Sum.inr (some m'):=h1
   cases this
   rfl
  subst h1
  cases hu:M.T m.u with
  | none=>rw[hu] at h;cases h
  | some ud =>
  rw[hu] at h
  simp only at h
  cases hv:M.T m.v with
  | none=>rw[hv] at h;cases h
  | some vd =>
  rw[hv] at h
  simp only at h
  cases hj:M.T m.j with
  | none=>rw[hj] at h;cases h
  | some jd =>
  rw[hj] at h
  simp only at h
  cases hm:decide (-999999≤M.many) with
  | false=>rw[hm] at h;cases h
  | true =>
  rw[hm] at h
  cases h
  have hm:=of_decide_eq_true hm
  have hul:=QP hu
  have hvl:=QP hv
  have hjl:=QP hj
  have e1:=hu'.symm.trans (R.at hu)
  cases e1
  have e2:=hv'.symm.trans (R.at hv)
  cases e2
  have e3:=hj'.symm.trans (R.at hj)
  cases e3
  have g1:s'.h.get (ι m.j)=some (ndA { jd.to ι (μ m.j) with up:=some (ι m.v),name:=m.nm }):=g1
  have el:(QK (ι m.u) (ι m.v) m.old (ud.to ι (μ m.u)) (vd.to ι (μ m.v))).kids=qP ι (QK m.u m.v m.old ud vd).kids:=by
   unfold QK
   rw[VT R.inj hu hv]
   cases Nat.beq m.u m.v with
   | true=>exact XQ _
   | false=>rfl
  have g2:s'.h.get (μ m.v)=some (.map (qL (setK m.nm (ι m.j) (QK (ι m.u) (ι m.v) m.old (ud.to ι (μ m.u)) (vd.to ι (μ m.v))).kids))):=g2
  rw[el,KK] at g2
  have huv:m.u≠m.v→ι m.u≠ι m.v:=fun hne e=>hne (R.inj _ _ _ _ hu hv e)
  have g3:m.u≠m.v→s'.h.get (μ m.u)=some (.map (qL (qP ι (qH m.old ud.kids)))):=fun hne=>by
   have:=g3 (huv hne)
   rw[← XQ]
   exact this
  have g4:s'.h.get x=some (trA (ι M.root) (ι M.cwd) (JJ ι M.fds) (bif m.y.isSome then M.many - 1 else M.many)):=by
   rw[ef]
   have:(m.to ι).y.isSome=m.y.isSome:=by show (m.y.map ι).isSome=_;cases m.y <;> rfl
   rw[← this]
   exact g4
  have g5:∀ i,i < s.nx→i≠ι m.j→i≠μ m.u→i≠μ m.v→i≠x→s'.h.get i=s.h.get i:=g5
  have hju:m.j≠m.u:=fun e=>hju (show ι m.j=ι m.u by rw[e])
  have hjv:m.j≠m.v:=fun e=>hjv (show ι m.j=ι m.v by rw[e])
  refine hk s' nilS (World.new R hB hL b Kn (fun i d hd=>?_) rfl R.cw R.f8 R.fd ?_ g4 (fun i hi ho=>g5 i hi (fun e=>ho (Or.inr ⟨_,hjl,Or.inl e⟩)) (fun e=>ho (Or.inr ⟨_,hul,Or.inr e⟩)) (fun e=>ho (Or.inr ⟨_,hvl,Or.inr e⟩)) (fun e=>ho (Or.inl e)))) hnx zt
  ·rcases qnv hvl hul hjl hd with⟨rfl,rfl⟩|⟨n1,rfl,rfl⟩|⟨n1,n2,rfl,rfl⟩|⟨n1,n2,n3,hd⟩
   ·have old:=R.nd _ vd hv
    refine⟨⟨(g5 _ (R.li hB hvl) (fun e=>hjv (R.ij _ _ hjl hvl e.symm)) (R.im hvl hul) (R.im hvl hvl) (R.xi hvl)).trans old.1,g2⟩,?_,fun u h=>R.up _ vd u hv h,R.da _ vd hv⟩
    intro q hq
    rcases XD hq with e|e
    ·rw[e];exact hjl
    ·unfold QK at e
     cases hb:Nat.beq m.u m.v with
     | true=>rw[hb] at e;exact R.kd _ ud hu q (JD e)
     | false=>rw[hb] at e;exact R.kd _ vd hv q e
   ·have old:=R.nd _ ud hu
    exact⟨⟨(g5 _ (R.li hB hul) (fun e=>hju (R.ij _ _ hjl hul e.symm)) (R.im hul hul) (R.im hul hvl) (R.xi hul)).trans old.1,g3 n1⟩,fun q hq=>R.kd _ ud hu q (JD hq),fun u h=>R.up _ ud u hu h,R.da _ ud hu⟩
   ·have old:=R.nd _ jd hj
    refine⟨⟨g1,(g5 _ (R.lm hB hjl) (fun e=>R.im hjl hjl e.symm) (fun e=>hju (R.mj _ _ hjl hul e)) (fun e=>hjv (R.mj _ _ hjl hvl e)) (R.xm hjl)).trans old.2⟩,R.kd _ jd hj,fun u h=>?_,R.da _ jd hj⟩
    cases h
    exact hvl
   ·have hd:M.T i=some d:=hd
    have hil:=QP hd
    have old:=R.nd _ d hd
    exact⟨⟨(g5 _ (R.li hB hil) (fun e=>n3 (R.ij _ _ hil hjl e)) (R.im hil hul) (R.im hil hvl) (R.xi hil)).trans old.1,(g5 _ (R.lm hB hil) (fun e=>R.im hjl hil e.symm) (fun e=>n2 (R.mj _ _ hil hul e)) (fun e=>n1 (R.mj _ _ hil hvl e)) (R.xm hil)).trans old.2⟩,R.kd _ d hd,fun u h=>R.up _ d u hd h,R.da _ d hd⟩
  ·have:=R.mn
   show -1000000≤(bif m.y.isSome then M.many - 1 else M.many)∧(bif m.y.isSome then M.many - 1 else M.many)≤1000000
   cases m.y.isSome <;> simp only[cond_true,cond_false] <;> omega
theorem qcr {ι:Nat→Nat}:∀ {l:List (Option Nat)} {i:Nat},Vl (JJ ι l) i=Vl l i
 | [],_=>rfl
 | none::_,_=>rfl
 | some _::l,i=>qcr (l:=l)
theorem qll {ι:Nat→Nat} {l:List (Option Nat)} {fd:Int}:fdT (JJ ι l) fd=(fdT l fd).map ι:=by
 unfold fdT
 cases decide (fd < 0)||decide (fd ≥ 8) with
 | true=>rfl
 | false =>
  simp only[cond_false,JJ,List.getD_eq_getElem?_getD,List.getElem?_map]
  cases l[fd.toNat]? <;> rfl
theorem World.fds {s s':St} {x:Nat} {M:Md} {ι μ:Nat→Nat} (R:RepM s x M ι μ) {L:List (Nat × AO)} (hB:qb s) (hL:∀ q∈L,s.h.get q.1=some q.2∧¬ Own x M ι μ q.1) (hB':qb s') {cwd:Nat} {l:List (Option Nat)} (hc:cwd < M.nodes.length) (h8:l.length=8) (hl:∀ o∈l,∀ k,o=some k→k < M.nodes.length)
  (ht:JT s s' x (trA (ι M.root) (ι cwd) (JJ ι l) M.many)):World s' x { M with cwd:=cwd,fds:=l } L:=by
 refine World.new R hB hL hB' rfl (fun j jd h=>?_) rfl hc h8 hl R.mn ht.2.1 (fun i hi ho=>ht.2.2 i hi (fun e=>ho (Or.inl e)))
 have h:M.T j=some jd:=h
 have old:=R.nd j jd h
 have hjl:=QP h
 exact⟨⟨(ht.2.2 _ (R.li hB hjl) (R.xi hjl)).trans old.1,(ht.2.2 _ (R.lm hB hjl) (R.xm hjl)).trans old.2⟩,R.kd j jd h,fun u hu=>R.up j jd u h hu,R.da j jd h⟩
theorem Ya {ι:Nat→Nat} {l:List (Option Nat)} (h:l.length=8):(JJ ι l).length=8:=by simpa [JJ] using h
theorem qin {ι:Nat→Nat} {l:List (Option Nat)} {i:Nat} {o:Option Nat}:(JJ ι l).set i (o.map ι)=JJ ι (l.set i o):=by simp[JJ,List.map_set]
def qze (M:Md) (c:Cl):Option (Nat ⊕ (An × Md)):=match zE M.T M.root M.cwd c.path true with
 | none=>none
 | some (.inr n)=>some (.inl n)
 | some (.inl k)=>match M.T k with
  | none=>none
  | some nd=>bif decide (nd.kind=1) then some (.inl 4) else match Vl M.fds 0 with
   | none=>some (.inl 10)
   | some i=>some (.inr (⟨0,(i:Int),0,0,[],[]⟩,{ M with cwd:=M.cwd,fds:=M.fds.set i (some k) }))
theorem qz6 {s:St} (H:Ok TE Tryz.prog pr3) {x:Nat} {M:Md} {L:List (Nat × AO)} (hW:World s x M L) {c:Cl} (hop:c.op=14) {r:Nat ⊕ (An × Md)} (h:qze M c=some r) {kr kp:AV→St→Bool} (hk:Kt s x M L kr kp r) :
  (sem Tryz.prog).call 66 [.ptr x 0,.agg (clL c)] s kr kp=true:=by
 have hW':=hW
 obtain⟨hB,ι,μ,R,hL⟩:=hW'
 unfold qze at h
 cases hf:zE M.T M.root M.cwd c.path true with
 | none=>rw[hf] at h;cases h
 | some out =>
 rw[hf] at h
 cases out with
 | inr n =>
  have hf':zE (tOf M ι μ) (ι M.root) (ι M.cwd) c.path true=some (.inr n):=zQ R.hom hf
  cases h
  exact qtc H R.rep hB R.tr (Ya R.f8) hop hf' (fun n h=>by cases h) (fun n nd s' h=>by cases h) (fun n nd s' h=>by cases h) (fun n nd i s' h=>by cases h) (fun n s' h e b=>by cases h;exact hk s' (hW.ext e b) e.1)
 | inl k =>
  have hf':zE (tOf M ι μ) (ι M.root) (ι M.cwd) c.path true=some (.inl (ι k)):=zQ R.hom hf
  simp only at h
  cases hT:M.T k with
  | none=>rw[hT] at h;cases h
  | some nd =>
   rw[hT] at h
   simp only at h
   have hA:=R.at hT
   refine qtc H R.rep hB R.tr (Ya R.f8) hop hf' (fun n h=>by cases h;exact⟨_,hA⟩) (fun n nd' s' h1 h2 h3 e b=>?_) (fun n nd' s' h1 h2 h3 h4 e b=>?_) (fun n nd' i s' h1 h2 h3 h4 e b=>?_) (fun n s' h=>by cases h)
   all_goals (cases h1;rw[hA] at h2;cases h2)
   ·have h3:nd.kind=1:=h3
    rw[decide_eq_true h3] at h
    cases h
    exact hk s' (hW.ext e b) e.1
   ·have h3:nd.kind≠1:=h3
    rw[qcr] at h4
    rw[decide_eq_false h3,cond_false,h4] at h
    cases h
    exact hk s' (hW.ext e b) e.1
   ·have h3:nd.kind≠1:=h3
    rw[qcr] at h4
    rw[decide_eq_false h3,cond_false,h4] at h
    cases h
    have e2:(JJ ι M.fds).set i (some (ι k))=JJ ι (M.fds.set i (some k)):=qin (o:=some k)
    rw[e2] at e
    refine hk s' nilS (World.fds R hB hL b R.cw (by rw[List.length_set];exact R.f8) (fun o ho q hq=>?_) e) e.1 zt
    rcases List.mem_or_eq_of_mem_set ho with ho|ho
    ·exact R.fd o ho q hq
    ·rw[hq] at ho
     cases ho
     exact QP hT
def q1v (M:Md) (c:Cl):Option (Nat ⊕ (An × Md)):=match fdT M.fds c.fd with
 | none=>some (.inl 12)
 | some k=>match M.T k with
  | none=>none
  | some nd=>match Jf nd.data c.off c.num with
   | .inr e=>some (.inl e)
   | .inl d=>some (.inr (⟨0,(d.length:Int),0,0,d,[]⟩,M))
theorem q09 {s:St} (H:Ok TE Tryz.prog pr3) {x:Nat} {M:Md} {L:List (Nat × AO)} (hW:World s x M L) {c:Cl} (hop:c.op=15) {r:Nat ⊕ (An × Md)} (h:q1v M c=some r) {kr kp:AV→St→Bool} (hk:Kt s x M L kr kp r) :
  (sem Tryz.prog).call 66 [.ptr x 0,.agg (clL c)] s kr kp=true:=by
 have hW':=hW
 obtain⟨hB,ι,μ,R,hL⟩:=hW'
 unfold q1v at h
 have hft:=qll (ι:=ι) (l:=M.fds) (fd:=c.fd)
 cases hf:fdT M.fds c.fd with
 | none =>
  rw[hf] at h hft
  cases h
  exact qgi H hB R.tr (Ya R.f8) (by omega) hft (fun s' e b=>hk s' (hW.ext e b) e.1)
 | some k =>
  rw[hf] at h hft
  simp only at h
  cases hT:M.T k with
  | none=>rw[hT] at h;cases h
  | some nd =>
   rw[hT] at h
   simp only at h
   refine q2u H R.rep hB R.tr (Ya R.f8) hop hft (R.at hT) (R.da2 _ _ (R.at hT)) (fun d s' h1 e b=>?_) (fun m s' h1 e b=>?_)
   ·have h1:Jf nd.data c.off c.num=_:=h1
    rw[h1] at h
    cases h
    exact hk s' nilS (hW.ext e b) e.1 zt
   ·have h1:Jf nd.data c.off c.num=_:=h1
    rw[h1] at h
    cases h
    exact hk s' (hW.ext e b) e.1
def qy0 (M:Md) (c:Cl):Option (Nat ⊕ (An × Md)):=match fdT M.fds c.fd with
 | none=>some (.inl 12)
 | some k=>match M.T k with
  | none=>none
  | some nd=>bif Nat.ble c.data.length 10000000000000000000 then (match Zt nd.data c.off c.data with
   | .inr e=>some (.inl e)
   | .inl d=>bif Nat.ble d.length 40000 then some (.inr (⟨0,(c.data.length:Int),0,0,[],[]⟩,{ M with nodes:=M.nodes.set k { nd with data:=d } })) else none) else none
theorem q1q {s:St} (H:Ok TE Tryz.prog pr3) {x:Nat} {M:Md} {L:List (Nat × AO)} (hW:World s x M L) {c:Cl} (hop:c.op=16) {r:Nat ⊕ (An × Md)} (h:qy0 M c=some r) {kr kp:AV→St→Bool} (hk:Kt s x M L kr kp r) :
  (sem Tryz.prog).call 66 [.ptr x 0,.agg (clL c)] s kr kp=true:=by
 have hW':=hW
 obtain⟨hB,ι,μ,R,hL⟩:=hW'
 unfold qy0 at h
 have hft:=qll (ι:=ι) (l:=M.fds) (fd:=c.fd)
 cases hf:fdT M.fds c.fd with
 | none =>
  rw[hf] at h hft
  cases h
  exact qgi H hB R.tr (Ya R.f8) (by omega) hft (fun s' e b=>hk s' (hW.ext e b) e.1)
 | some k =>
  rw[hf] at h hft
  simp only at h
  cases hT:M.T k with
  | none=>rw[hT] at h;cases h
  | some nd =>
   rw[hT] at h
   simp only at h
   cases hw:Nat.ble c.data.length 10000000000000000000 with
   | false=>rw[hw] at h;cases h
   | true =>
   rw[hw,cond_true] at h
   refine q0k H R.rep hB R.tr (Ya R.f8) hop hft (R.at hT) (R.da1 _ _ (R.at hT)) (Nat.le_of_ble_eq_true hw) (fun d s' h1 e b=>?_) (fun m s' h1 e b=>?_)
   ·have h1:Zt nd.data c.off c.data=_:=h1
    rw[h1] at h
    simp only at h
    cases hd:Nat.ble d.length 40000 with
    | false=>rw[hd] at h;cases h
    | true =>
     rw[hd] at h
     cases h
     exact hk s' nilS (World.turn R hB hL b hT rfl rfl (Nat.le_of_ble_eq_true hd) e) e.1 zt
   ·have h1:Zt nd.data c.off c.data=_:=h1
    rw[h1] at h
    cases h
    exact hk s' (hW.ext e b) e.1
def qz5 (M:Md) (c:Cl):Option (Nat ⊕ (An × Md)):=match fdT M.fds c.fd with
 | none=>some (.inl 12)
 | some _=>some (.inr (an0,{ M with cwd:=M.cwd,fds:=M.fds.set c.fd.toNat none }))
theorem qy7 {s:St} (H:Ok TE Tryz.prog pr3) {x:Nat} {M:Md} {L:List (Nat × AO)} (hW:World s x M L) {c:Cl} (hop:c.op=17) {r:Nat ⊕ (An × Md)} (h:qz5 M c=some r) {kr kp:AV→St→Bool} (hk:Kt s x M L kr kp r) :
  (sem Tryz.prog).call 66 [.ptr x 0,.agg (clL c)] s kr kp=true:=by
 have hW':=hW
 obtain⟨hB,ι,μ,R,hL⟩:=hW'
 unfold qz5 at h
 have hft:=qll (ι:=ι) (l:=M.fds) (fd:=c.fd)
 cases hf:fdT M.fds c.fd with
 | none =>
  rw[hf] at h hft
  cases h
  exact qgi H hB R.tr (Ya R.f8) (by omega) hft (fun s' e b=>hk s' (hW.ext e b) e.1)
 | some k =>
  rw[hf] at h hft
  cases h
  refine qy9 H R.rep hB R.tr (Ya R.f8) hop hft (fun s' e b=>?_)
  have e2:(JJ ι M.fds).set c.fd.toNat none=JJ ι (M.fds.set c.fd.toNat none):=qin (o:=none)
  rw[e2] at e
  refine hk s' nilS (World.fds R hB hL b R.cw (by rw[List.length_set];exact R.f8) (fun o ho q hq=>?_) e) e.1 zt
  rcases List.mem_or_eq_of_mem_set ho with ho|ho
  ·exact R.fd o ho q hq
  ·rw[hq] at ho
   cases ho
set_option maxHeartbeats 40000000
theorem World.alloc {s:St} {x:Nat} {M:Md} {L:List (Nat × AO)} (h:World s x M L) (o:AO):World (s.alloc o) x M ((s.nx,o)::L):=by
 obtain⟨hB,ι,μ,R,hL⟩:=h
 obtain⟨hB',ι',μ',R',hL'⟩:=World.same R (L:=L) hB hL (qg hB o) (Ext.alloc s o)
 refine⟨qg hB o,ι,μ,?_,?_⟩
 ·have he:=Ext.alloc s o
  exact⟨fun k nd hk=>⟨(he.2 _ (R.li hB (QP hk))).trans (R.nd k nd hk).1,(he.2 _ (R.lm hB (QP hk))).trans (R.nd k nd hk).2⟩,(he.2 _ (R.lx hB)).trans R.tr,R.ij,R.mj,R.kd,R.up,R.rt,R.cw,R.f8,R.fd,R.mn,R.da⟩
 ·intro q hq
  simp only[List.mem_cons] at hq
  rcases hq with rfl|hq
  ·refine⟨qt,?_⟩
   rintro (e|⟨k,hk,e|e⟩)
   ·have:=R.lx hB
    simp only at e
    omega
   ·have:=R.li hB hk
    simp only at e
    omega
   ·have:=R.lm hB hk
    simp only at e
    omega
  ·obtain⟨h1,h2⟩:=hL q hq
   exact⟨((Ext.alloc s o).2 _ (hB _ _ h1)).trans h1,h2⟩
theorem World.get {s:St} {x:Nat} {M:Md} {L:List (Nat × AO)} (h:World s x M L) {q:Nat × AO} (hq:q∈L):s.h.get q.1=some q.2:=by
 obtain⟨hB,ι,μ,R,hL⟩:=h
 exact (hL q hq).1
theorem World.get0 {s:St} {x:Nat} {M:Md} {L:List (Nat × AO)} {i:Nat} {o:AO} (h:World s x M ((i,o)::L)):s.h.get i=some o:=h.get (q:=(i,o)) (List.mem_cons_self ..)
theorem World.below {s:St} {x:Nat} {M:Md} {L:List (Nat × AO)} (h:World s x M L):qb s:=h.1
theorem World.lt {s:St} {x:Nat} {M:Md} {L:List (Nat × AO)} (h:World s x M L) {q:Nat × AO} (hq:q∈L):q.1 < s.nx:=h.1 _ _ (h.get hq)
theorem World.sub {s:St} {x:Nat} {M:Md} {L L':List (Nat × AO)} (h:World s x M L) (hs:∀ q∈L',q∈L):World s x M L':=by
 obtain⟨hB,ι,μ,R,hL⟩:=h
 exact⟨hB,ι,μ,R,fun q hq=>hL q (hs q hq)⟩
theorem World.set {s:St} {x:Nat} {M:Md} {L:List (Nat × AO)} {a:Nat} {o:AO} (h:World s x M ((a,o)::L)) (hne:∀ q∈L,q.1≠a) (o':AO):World { s with h:=s.h.set a o' } x M ((a,o')::L):=by
 obtain⟨hB,ι,μ,R,hL⟩:=h
 obtain⟨ha,hno⟩:=hL (a,o) (List.mem_cons_self ..)
 have hno:¬ Own x M ι μ a:=hno
 have f:∀ i,i≠a→({ s with h:=s.h.set a o' }:St).h.get i=s.h.get i:=fun i hi=>qa hi
 have hx:x≠a:=fun e=>hno (Or.inl e.symm)
 have hi:∀ k,k < M.nodes.length→ι k≠a:=fun k hk e=>hno (Or.inr ⟨k,hk,Or.inl e.symm⟩)
 have hm:∀ k,k < M.nodes.length→μ k≠a:=fun k hk e=>hno (Or.inr ⟨k,hk,Or.inr e.symm⟩)
 refine⟨qe hB (hB _ _ ha) _,ι,μ,?_,?_⟩
 ·exact⟨fun k nd hk=>⟨(f _ (hi _ (QP hk))).trans (R.nd k nd hk).1,(f _ (hm _ (QP hk))).trans (R.nd k nd hk).2⟩,(f _ hx).trans R.tr,R.ij,R.mj,R.kd,R.up,R.rt,R.cw,R.f8,R.fd,R.mn,R.da⟩
 ·intro q hq
  simp only[List.mem_cons] at hq
  rcases hq with rfl|hq
  ·exact⟨hs_same,hno⟩
  ·obtain⟨h1,h2⟩:=hL q (List.mem_cons_of_mem _ hq)
   exact⟨(f _ (hne q hq)).trans h1,h2⟩
theorem SlV.set {s:St} {V:AV} {names:List (List Nat)} (h:SlV s V names) {a:Nat} {cs:List AV} {t z:Nat} (ha:s.h.get a=some (.cells cs t z)) (ht:t≠9) (o:AO):SlV { s with h:=s.h.set a o } V names:=by
 rcases h with h|h|⟨id,off,ci,cap,ex,cs',fz,h1,h2,h3⟩
 ·exact Or.inl h
 ·exact Or.inr (Or.inl h)
 ·refine Or.inr (Or.inr ⟨id,off,ci,cap,ex,cs',fz,h1,(qa ?_).trans h2,h3⟩)
  intro e
  rw[e,ha] at h2
  simp only[Option.some.injEq,AO.cells.injEq] at h2
  exact ht h2.2.1
def qgu (M:Md):Nat ⊕ (An × Md)→An × Md
 | .inl n=>(⟨(n:Int),0,0,0,[],[]⟩,M)
 | .inr q=>q
def Dt (s:St) (x:Nat) (L:List (Nat × AO)) (kr:AV→St→Bool) (q:An × Md):Prop :=
 ∀ s' V,World s' x q.2 L→s.nx≤s'.nx→SlV s' V q.1.names→kr (.agg (anL q.1.status q.1.num q.1.kind q.1.mode q.1.data V)) s'=true
theorem qde {s:St} {i j:Nat} {d:Option (AV × List Nat)}:eqS TE s .eql 72 (.ptr i j) (.raw (.pointer none)) d=some (.raw (.bool false),[]):=by kernel_rfl
theorem KG:(38:Nat)≠9:=by decide
theorem q5i {x:Nat}:qn TE 120 (.ptr x 0) 1=some (.ptr x 1):=by kernel_rfl
theorem qbw {s:St} (H:Ok TE Tryz.prog pr3) {x:Nat} {M:Md} {L:List (Nat × AO)} (hW:World s x M L) {c:Cl} (h1:1≤c.op) (h2:c.op≤4) {r:Nat ⊕ (An × Md)}
  (hsub:∀ s L kr kp,World s x M L→Kt s x M L kr kp r→(sem Tryz.prog).call 59 [.ptr x 0,.agg (clL c)] s kr kp=true) {kr kp:AV→St→Bool} (hk:Dt s x L kr (qgu M r)) :
  (sem Tryz.prog).call 31 [.ptr x 0,.agg (clL c)] s kr kp=true:=by
 refine qk H 77 qdm rfl rfl ?_
 have m1:(s.nx=s.nx+1)=False:=by simp
 have m2:(s.nx+1=s.nx)=False:=by simp
 have hL1:∀ q∈(s.nx,AO.cells (clL c) 41 0)::L,q.1≠s.nx+1:=by
  intro q hq
  simp only[List.mem_cons] at hq
  rcases hq with rfl|hq
  ·simp
  ·have:=hW.lt hq
   omega
 have hW2:=(hW.alloc (.cells (clL c) 41 0)).alloc (.cells (anL 0 0 0 0 [] nilS) 38 0)
 have o1:decide (c.op < 1)=false:=by rw[decide_eq_false_iff_not];omega
 have o2:decide (c.op > 18)=false:=by rw[decide_eq_false_iff_not];omega
 have o3:decide (c.op≤4)=true:=by rw[decide_eq_true_eq];omega
 unfold clL at hW2 ⊢
 repeat (first|with_reducible (refine q9 H ?_;constructor)|simp only[rB,rQ,q8,q7,qc,reduceIte,Nat.reduceLT,Nat.reduceEqDiff,pe3,pf3,zn,qd,QD,qD,qA,m1,m2,zX,zv,J9,qh,o1,o2,o3,Zh,qde,YX,QY,Kd,J3])
 refine hsub _ _ _ _ hW2 ?_
 cases r with
 | inl n =>
  intro s1 w1 l1
  have c1:s1.h.get (s.nx+1)=some (.cells (anL 0 0 0 0 [] nilS) 38 0):=w1.get0
  repeat (first|with_reducible (refine q9 H ?_;constructor)|simp only[rB,rQ,q8,q7,qc,reduceIte,Nat.reduceLT,Nat.reduceEqDiff,pe3,pf3]|(with_reducible refine VS H c1 ?_))
  repeat (first|with_reducible (refine q9 H ?_;constructor)|simp only[rB,rQ,q8,q7,qc,reduceIte,Nat.reduceLT,Nat.reduceEqDiff,pe3,pf3,c1,zD,qY,Tryz.results31])
  exact hk _ nilS ((w1.set hL1 _).sub (fun q hq=>List.mem_cons_of_mem _ (List.mem_cons_of_mem _ hq))) (Nat.le_trans (by show s.nx≤s.nx+1+1;omega) l1) zt
 | inr q =>
  obtain⟨an,M'⟩:=q
  intro s1 V w1 l1 hV
  have c1:s1.h.get (s.nx+1)=some (.cells (anL 0 0 0 0 [] nilS) 38 0):=w1.get0
  repeat (first|with_reducible (refine q9 H ?_;constructor)|simp only[rB,rQ,q8,q7,qc,reduceIte,Nat.reduceLT,Nat.reduceEqDiff,pe3,pf3,c1,Qj hV.cells1.2,zr]|(with_reducible refine XZ H ?_))
  repeat (first|with_reducible (refine q9 H ?_;constructor)|simp only[rB,rQ,q8,q7,qc,reduceIte,Nat.reduceLT,Nat.reduceEqDiff,pe3,pf3,c1,zD,qY,Tryz.results31])
  exact hk _ V ((w1.set hL1 _).sub (fun q hq=>List.mem_cons_of_mem _ (List.mem_cons_of_mem _ hq))) (Nat.le_trans (by show s.nx≤s.nx+1+1;omega) l1) (hV.set c1 KG _)
theorem qhg {s:St} (H:Ok TE Tryz.prog pr3) {x:Nat} {M:Md} {L:List (Nat × AO)} (hW:World s x M L) {c:Cl} (h1:5≤c.op) (h2:c.op≤7) {r:Nat ⊕ (An × Md)}
  (hsub:∀ s L kr kp,World s x M L→Kt s x M L kr kp r→(sem Tryz.prog).call 60 [.ptr x 0,.agg (clL c)] s kr kp=true) {kr kp:AV→St→Bool} (hk:Dt s x L kr (qgu M r)) :
  (sem Tryz.prog).call 31 [.ptr x 0,.agg (clL c)] s kr kp=true:=by
 refine qk H 77 qdm rfl rfl ?_
 have m1:(s.nx=s.nx+1)=False:=by simp
 have m2:(s.nx+1=s.nx)=False:=by simp
 have hL1:∀ q∈(s.nx,AO.cells (clL c) 41 0)::L,q.1≠s.nx+1:=by
  intro q hq
  simp only[List.mem_cons] at hq
  rcases hq with rfl|hq
  ·simp
  ·have:=hW.lt hq
   omega
 have hW2:=(hW.alloc (.cells (clL c) 41 0)).alloc (.cells (anL 0 0 0 0 [] nilS) 38 0)
 have o1:decide (c.op < 1)=false:=by rw[decide_eq_false_iff_not];omega
 have o2:decide (c.op > 18)=false:=by rw[decide_eq_false_iff_not];omega
 have o3:decide (c.op≤4)=false:=by rw[decide_eq_false_iff_not];omega
 have o4:decide (c.op≤7)=true:=by rw[decide_eq_true_eq];omega
 unfold clL at hW2 ⊢
 repeat (first|with_reducible (refine q9 H ?_;constructor)|simp only[rB,rQ,q8,q7,qc,reduceIte,Nat.reduceLT,Nat.reduceEqDiff,pe3,pf3,zn,qd,QD,qD,qA,m1,m2,zX,zv,J9,qh,o1,o2,o3,o4,Zh,qde,YX,QY,Kd,J3])
 refine hsub _ _ _ _ hW2 ?_
 cases r with
 | inl n =>
  intro s1 w1 l1
  have c1:s1.h.get (s.nx+1)=some (.cells (anL 0 0 0 0 [] nilS) 38 0):=w1.get0
  repeat (first|with_reducible (refine q9 H ?_;constructor)|simp only[rB,rQ,q8,q7,qc,reduceIte,Nat.reduceLT,Nat.reduceEqDiff,pe3,pf3]|(with_reducible refine VS H c1 ?_))
  repeat (first|with_reducible (refine q9 H ?_;constructor)|simp only[rB,rQ,q8,q7,qc,reduceIte,Nat.reduceLT,Nat.reduceEqDiff,pe3,pf3,c1,zD,qY,Tryz.results31])
  exact hk _ nilS ((w1.set hL1 _).sub (fun q hq=>List.mem_cons_of_mem _ (List.mem_cons_of_mem _ hq))) (Nat.le_trans (by show s.nx≤s.nx+1+1;omega) l1) zt
 | inr q =>
  obtain⟨an,M'⟩:=q
  intro s1 V w1 l1 hV
  have c1:s1.h.get (s.nx+1)=some (.cells (anL 0 0 0 0 [] nilS) 38 0):=w1.get0
  repeat (first|with_reducible (refine q9 H ?_;constructor)|simp only[rB,rQ,q8,q7,qc,reduceIte,Nat.reduceLT,Nat.reduceEqDiff,pe3,pf3,c1,Qj hV.cells1.2,zr]|(with_reducible refine XZ H ?_))
  repeat (first|with_reducible (refine q9 H ?_;constructor)|simp only[rB,rQ,q8,q7,qc,reduceIte,Nat.reduceLT,Nat.reduceEqDiff,pe3,pf3,c1,zD,qY,Tryz.results31])
  exact hk _ V ((w1.set hL1 _).sub (fun q hq=>List.mem_cons_of_mem _ (List.mem_cons_of_mem _ hq))) (Nat.le_trans (by show s.nx≤s.nx+1+1;omega) l1) (hV.set c1 KG _)
theorem Wc {s:St} (H:Ok TE Tryz.prog pr3) {x:Nat} {M:Md} {L:List (Nat × AO)} (hW:World s x M L) {c:Cl} (h1:8≤c.op) (h2:c.op≤10) {r:Nat ⊕ (An × Md)}
  (hsub:∀ s L kr kp,World s x M L→Kt s x M L kr kp r→(sem Tryz.prog).call 61 [.ptr x 0,.agg (clL c)] s kr kp=true) {kr kp:AV→St→Bool} (hk:Dt s x L kr (qgu M r)) :
  (sem Tryz.prog).call 31 [.ptr x 0,.agg (clL c)] s kr kp=true:=by
 refine qk H 77 qdm rfl rfl ?_
 have m1:(s.nx=s.nx+1)=False:=by simp
 have m2:(s.nx+1=s.nx)=False:=by simp
 have hL1:∀ q∈(s.nx,AO.cells (clL c) 41 0)::L,q.1≠s.nx+1:=by
  intro q hq
  simp only[List.mem_cons] at hq
  rcases hq with rfl|hq
  ·simp
  ·have:=hW.lt hq
   omega
 have hW2:=(hW.alloc (.cells (clL c) 41 0)).alloc (.cells (anL 0 0 0 0 [] nilS) 38 0)
 have o1:decide (c.op < 1)=false:=by rw[decide_eq_false_iff_not];omega
 have o2:decide (c.op > 18)=false:=by rw[decide_eq_false_iff_not];omega
 have o3:decide (c.op≤4)=false:=by rw[decide_eq_false_iff_not];omega
 have o4:decide (c.op≤7)=false:=by rw[decide_eq_false_iff_not];omega
 have o5:decide (c.op≤10)=true:=by rw[decide_eq_true_eq];omega
 unfold clL at hW2 ⊢
 repeat (first|with_reducible (refine q9 H ?_;constructor)|simp only[rB,rQ,q8,q7,qc,reduceIte,Nat.reduceLT,Nat.reduceEqDiff,pe3,pf3,zn,qd,QD,qD,qA,m1,m2,zX,zv,J9,qh,o1,o2,o3,o4,o5,Zh,qde,YX,QY,Kd,J3])
 refine hsub _ _ _ _ hW2 ?_
 cases r with
 | inl n =>
  intro s1 w1 l1
  have c1:s1.h.get (s.nx+1)=some (.cells (anL 0 0 0 0 [] nilS) 38 0):=w1.get0
  repeat (first|with_reducible (refine q9 H ?_;constructor)|simp only[rB,rQ,q8,q7,qc,reduceIte,Nat.reduceLT,Nat.reduceEqDiff,pe3,pf3]|(with_reducible refine VS H c1 ?_))
  repeat (first|with_reducible (refine q9 H ?_;constructor)|simp only[rB,rQ,q8,q7,qc,reduceIte,Nat.reduceLT,Nat.reduceEqDiff,pe3,pf3,c1,zD,qY,Tryz.results31])
  exact hk _ nilS ((w1.set hL1 _).sub (fun q hq=>List.mem_cons_of_mem _ (List.mem_cons_of_mem _ hq))) (Nat.le_trans (by show s.nx≤s.nx+1+1;omega) l1) zt
 | inr q =>
  obtain⟨an,M'⟩:=q
  intro s1 V w1 l1 hV
  have c1:s1.h.get (s.nx+1)=some (.cells (anL 0 0 0 0 [] nilS) 38 0):=w1.get0
  repeat (first|with_reducible (refine q9 H ?_;constructor)|simp only[rB,rQ,q8,q7,qc,reduceIte,Nat.reduceLT,Nat.reduceEqDiff,pe3,pf3,c1,Qj hV.cells1.2,zr]|(with_reducible refine XZ H ?_))
  repeat (first|with_reducible (refine q9 H ?_;constructor)|simp only[rB,rQ,q8,q7,qc,reduceIte,Nat.reduceLT,Nat.reduceEqDiff,pe3,pf3,c1,zD,qY,Tryz.results31])
  exact hk _ V ((w1.set hL1 _).sub (fun q hq=>List.mem_cons_of_mem _ (List.mem_cons_of_mem _ hq))) (Nat.le_trans (by show s.nx≤s.nx+1+1;omega) l1) (hV.set c1 KG _)
theorem qf2 {s:St} (H:Ok TE Tryz.prog pr3) {x:Nat} {M:Md} {L:List (Nat × AO)} (hW:World s x M L) {c:Cl} (h1:11≤c.op) (h2:c.op≤12) {r:Nat ⊕ (An × Md)}
  (hsub:∀ s L kr kp,World s x M L→Kt s x M L kr kp r→(sem Tryz.prog).call 62 [.ptr x 0,.agg (clL c)] s kr kp=true) {kr kp:AV→St→Bool} (hk:Dt s x L kr (qgu M r)) :
  (sem Tryz.prog).call 31 [.ptr x 0,.agg (clL c)] s kr kp=true:=by
 refine qk H 77 qdm rfl rfl ?_
 have m1:(s.nx=s.nx+1)=False:=by simp
 have m2:(s.nx+1=s.nx)=False:=by simp
 have hL1:∀ q∈(s.nx,AO.cells (clL c) 41 0)::L,q.1≠s.nx+1:=by
  intro q hq
  simp only[List.mem_cons] at hq
  rcases hq with rfl|hq
  ·simp
  ·have:=hW.lt hq
   omega
 have hW2:=(hW.alloc (.cells (clL c) 41 0)).alloc (.cells (anL 0 0 0 0 [] nilS) 38 0)
 have o1:decide (c.op < 1)=false:=by rw[decide_eq_false_iff_not];omega
 have o2:decide (c.op > 18)=false:=by rw[decide_eq_false_iff_not];omega
 have o3:decide (c.op≤4)=false:=by rw[decide_eq_false_iff_not];omega
 have o4:decide (c.op≤7)=false:=by rw[decide_eq_false_iff_not];omega
 have o5:decide (c.op≤10)=false:=by rw[decide_eq_false_iff_not];omega
 have o6:decide (c.op≤12)=true:=by rw[decide_eq_true_eq];omega
 unfold clL at hW2 ⊢
 repeat (first|with_reducible (refine q9 H ?_;constructor)|simp only[rB,rQ,q8,q7,qc,reduceIte,Nat.reduceLT,Nat.reduceEqDiff,pe3,pf3,zn,qd,QD,qD,qA,m1,m2,zX,zv,J9,qh,o1,o2,o3,o4,o5,o6,Zh,qde,YX,QY,Kd,J3])
 refine hsub _ _ _ _ hW2 ?_
 cases r with
 | inl n =>
  intro s1 w1 l1
  have c1:s1.h.get (s.nx+1)=some (.cells (anL 0 0 0 0 [] nilS) 38 0):=w1.get0
  repeat (first|with_reducible (refine q9 H ?_;constructor)|simp only[rB,rQ,q8,q7,qc,reduceIte,Nat.reduceLT,Nat.reduceEqDiff,pe3,pf3]|(with_reducible refine VS H c1 ?_))
  repeat (first|with_reducible (refine q9 H ?_;constructor)|simp only[rB,rQ,q8,q7,qc,reduceIte,Nat.reduceLT,Nat.reduceEqDiff,pe3,pf3,c1,zD,qY,Tryz.results31])
  exact hk _ nilS ((w1.set hL1 _).sub (fun q hq=>List.mem_cons_of_mem _ (List.mem_cons_of_mem _ hq))) (Nat.le_trans (by show s.nx≤s.nx+1+1;omega) l1) zt
 | inr q =>
  obtain⟨an,M'⟩:=q
  intro s1 V w1 l1 hV
  have c1:s1.h.get (s.nx+1)=some (.cells (anL 0 0 0 0 [] nilS) 38 0):=w1.get0
  repeat (first|with_reducible (refine q9 H ?_;constructor)|simp only[rB,rQ,q8,q7,qc,reduceIte,Nat.reduceLT,Nat.reduceEqDiff,pe3,pf3,c1,Qj hV.cells1.2,zr]|(with_reducible refine XZ H ?_))
  repeat (first|with_reducible (refine q9 H ?_;constructor)|simp only[rB,rQ,q8,q7,qc,reduceIte,Nat.reduceLT,Nat.reduceEqDiff,pe3,pf3,c1,zD,qY,Tryz.results31])
  exact hk _ V ((w1.set hL1 _).sub (fun q hq=>List.mem_cons_of_mem _ (List.mem_cons_of_mem _ hq))) (Nat.le_trans (by show s.nx≤s.nx+1+1;omega) l1) (hV.set c1 KG _)
theorem qnp {s:St} (H:Ok TE Tryz.prog pr3) {x:Nat} {M:Md} {L:List (Nat × AO)} (hW:World s x M L) {c:Cl} (h1:13≤c.op) (h2:c.op≤13) {r:Nat ⊕ (An × Md)}
  (hsub:∀ s L kr kp,World s x M L→Kt s x M L kr kp r→(sem Tryz.prog).call 63 [.ptr x 0,.agg (clL c)] s kr kp=true) {kr kp:AV→St→Bool} (hk:Dt s x L kr (qgu M r)) :
  (sem Tryz.prog).call 31 [.ptr x 0,.agg (clL c)] s kr kp=true:=by
 refine qk H 77 qdm rfl rfl ?_
 have m1:(s.nx=s.nx+1)=False:=by simp
 have m2:(s.nx+1=s.nx)=False:=by simp
 have hL1:∀ q∈(s.nx,AO.cells (clL c) 41 0)::L,q.1≠s.nx+1:=by
  intro q hq
  simp only[List.mem_cons] at hq
  rcases hq with rfl|hq
  ·simp
  ·have:=hW.lt hq
   omega
 have hW2:=(hW.alloc (.cells (clL c) 41 0)).alloc (.cells (anL 0 0 0 0 [] nilS) 38 0)
 have o1:decide (c.op < 1)=false:=by rw[decide_eq_false_iff_not];omega
 have o2:decide (c.op > 18)=false:=by rw[decide_eq_false_iff_not];omega
 have o3:decide (c.op≤4)=false:=by rw[decide_eq_false_iff_not];omega
 have o4:decide (c.op≤7)=false:=by rw[decide_eq_false_iff_not];omega
 have o5:decide (c.op≤10)=false:=by rw[decide_eq_false_iff_not];omega
 have o6:decide (c.op≤12)=false:=by rw[decide_eq_false_iff_not];omega
 have o7:(c.op==13)=true:=by rw[beq_iff_eq];omega
 unfold clL at hW2 ⊢
 repeat (first|with_reducible (refine q9 H ?_;constructor)|simp only[rB,rQ,q8,q7,qc,reduceIte,Nat.reduceLT,Nat.reduceEqDiff,pe3,pf3,zn,qd,QD,qD,qA,m1,m2,zX,zv,J9,qh,o1,o2,o3,o4,o5,o6,o7,Zh,qde,YX,QY,Kd,J3])
 refine hsub _ _ _ _ hW2 ?_
 cases r with
 | inl n =>
  intro s1 w1 l1
  have c1:s1.h.get (s.nx+1)=some (.cells (anL 0 0 0 0 [] nilS) 38 0):=w1.get0
  repeat (first|with_reducible (refine q9 H ?_;constructor)|simp only[rB,rQ,q8,q7,qc,reduceIte,Nat.reduceLT,Nat.reduceEqDiff,pe3,pf3]|(with_reducible refine VS H c1 ?_))
  repeat (first|with_reducible (refine q9 H ?_;constructor)|simp only[rB,rQ,q8,q7,qc,reduceIte,Nat.reduceLT,Nat.reduceEqDiff,pe3,pf3,c1,zD,qY,Tryz.results31])
  exact hk _ nilS ((w1.set hL1 _).sub (fun q hq=>List.mem_cons_of_mem _ (List.mem_cons_of_mem _ hq))) (Nat.le_trans (by show s.nx≤s.nx+1+1;omega) l1) zt
 | inr q =>
  obtain⟨an,M'⟩:=q
  intro s1 V w1 l1 hV
  have c1:s1.h.get (s.nx+1)=some (.cells (anL 0 0 0 0 [] nilS) 38 0):=w1.get0
  repeat (first|with_reducible (refine q9 H ?_;constructor)|simp only[rB,rQ,q8,q7,qc,reduceIte,Nat.reduceLT,Nat.reduceEqDiff,pe3,pf3,c1,Qj hV.cells1.2,zr]|(with_reducible refine XZ H ?_))
  repeat (first|with_reducible (refine q9 H ?_;constructor)|simp only[rB,rQ,q8,q7,qc,reduceIte,Nat.reduceLT,Nat.reduceEqDiff,pe3,pf3,c1,zD,qY,Tryz.results31])
  exact hk _ V ((w1.set hL1 _).sub (fun q hq=>List.mem_cons_of_mem _ (List.mem_cons_of_mem _ hq))) (Nat.le_trans (by show s.nx≤s.nx+1+1;omega) l1) (hV.set c1 KG _)
theorem qrf {s:St} (H:Ok TE Tryz.prog pr3) {x:Nat} {M:Md} {L:List (Nat × AO)} (hW:World s x M L) {c:Cl} (h1:14≤c.op) (h2:c.op≤17) {r:Nat ⊕ (An × Md)}
  (hsub:∀ s L kr kp,World s x M L→Kt s x M L kr kp r→(sem Tryz.prog).call 66 [.ptr x 0,.agg (clL c)] s kr kp=true) {kr kp:AV→St→Bool} (hk:Dt s x L kr (qgu M r)) :
  (sem Tryz.prog).call 31 [.ptr x 0,.agg (clL c)] s kr kp=true:=by
 refine qk H 77 qdm rfl rfl ?_
 have m1:(s.nx=s.nx+1)=False:=by simp
 have m2:(s.nx+1=s.nx)=False:=by simp
 have hL1:∀ q∈(s.nx,AO.cells (clL c) 41 0)::L,q.1≠s.nx+1:=by
  intro q hq
  simp only[List.mem_cons] at hq
  rcases hq with rfl|hq
  ·simp
  ·have:=hW.lt hq
   omega
 have hW2:=(hW.alloc (.cells (clL c) 41 0)).alloc (.cells (anL 0 0 0 0 [] nilS) 38 0)
 have o1:decide (c.op < 1)=false:=by rw[decide_eq_false_iff_not];omega
 have o2:decide (c.op > 18)=false:=by rw[decide_eq_false_iff_not];omega
 have o3:decide (c.op≤4)=false:=by rw[decide_eq_false_iff_not];omega
 have o4:decide (c.op≤7)=false:=by rw[decide_eq_false_iff_not];omega
 have o5:decide (c.op≤10)=false:=by rw[decide_eq_false_iff_not];omega
 have o6:decide (c.op≤12)=false:=by rw[decide_eq_false_iff_not];omega
 have o7:(c.op==13)=false:=by rw[beq_eq_false_iff_ne];omega
 have o8:(c.op==18)=false:=by rw[beq_eq_false_iff_ne];omega
 unfold clL at hW2 ⊢
 repeat (first|with_reducible (refine q9 H ?_;constructor)|simp only[rB,rQ,q8,q7,qc,reduceIte,Nat.reduceLT,Nat.reduceEqDiff,pe3,pf3,zn,qd,QD,qD,qA,m1,m2,zX,zv,J9,qh,o1,o2,o3,o4,o5,o6,o7,o8,Zh,qde,YX,QY,Kd,J3])
 refine hsub _ _ _ _ hW2 ?_
 cases r with
 | inl n =>
  intro s1 w1 l1
  have c1:s1.h.get (s.nx+1)=some (.cells (anL 0 0 0 0 [] nilS) 38 0):=w1.get0
  repeat (first|with_reducible (refine q9 H ?_;constructor)|simp only[rB,rQ,q8,q7,qc,reduceIte,Nat.reduceLT,Nat.reduceEqDiff,pe3,pf3]|(with_reducible refine VS H c1 ?_))
  repeat (first|with_reducible (refine q9 H ?_;constructor)|simp only[rB,rQ,q8,q7,qc,reduceIte,Nat.reduceLT,Nat.reduceEqDiff,pe3,pf3,c1,zD,qY,Tryz.results31])
  exact hk _ nilS ((w1.set hL1 _).sub (fun q hq=>List.mem_cons_of_mem _ (List.mem_cons_of_mem _ hq))) (Nat.le_trans (by show s.nx≤s.nx+1+1;omega) l1) zt
 | inr q =>
  obtain⟨an,M'⟩:=q
  intro s1 V w1 l1 hV
  have c1:s1.h.get (s.nx+1)=some (.cells (anL 0 0 0 0 [] nilS) 38 0):=w1.get0
  repeat (first|with_reducible (refine q9 H ?_;constructor)|simp only[rB,rQ,q8,q7,qc,reduceIte,Nat.reduceLT,Nat.reduceEqDiff,pe3,pf3,c1,Qj hV.cells1.2,zr]|(with_reducible refine XZ H ?_))
  repeat (first|with_reducible (refine q9 H ?_;constructor)|simp only[rB,rQ,q8,q7,qc,reduceIte,Nat.reduceLT,Nat.reduceEqDiff,pe3,pf3,c1,zD,qY,Tryz.results31])
  exact hk _ V ((w1.set hL1 _).sub (fun q hq=>List.mem_cons_of_mem _ (List.mem_cons_of_mem _ hq))) (Nat.le_trans (by show s.nx≤s.nx+1+1;omega) l1) (hV.set c1 KG _)
theorem qy2 {s:St} (H:Ok TE Tryz.prog pr3) {x:Nat} {M:Md} {L:List (Nat × AO)} (hW:World s x M L) {c:Cl} (h1:c.op < 1∨c.op > 18) {kr kp:AV→St→Bool} (hk:Dt s x L kr (⟨5,0,0,0,[],[]⟩,M)) :
  (sem Tryz.prog).call 31 [.ptr x 0,.agg (clL c)] s kr kp=true:=by
 refine qk H 77 qdm rfl rfl ?_
 have m1:(s.nx=s.nx+1)=False:=by simp
 have m2:(s.nx+1=s.nx)=False:=by simp
 have hL1:∀ q∈(s.nx,AO.cells (clL c) 41 0)::L,q.1≠s.nx+1:=by
  intro q hq
  simp only[List.mem_cons] at hq
  rcases hq with rfl|hq
  ·simp
  ·have:=hW.lt hq
   omega
 have hW2:=(hW.alloc (.cells (clL c) 41 0)).alloc (.cells (anL 0 0 0 0 [] nilS) 38 0)
 unfold clL at hW2 ⊢
 by_cases h2:c.op < 1
 ·have o1:decide (c.op < 1)=true:=by rw[decide_eq_true_eq];omega
  repeat (first|with_reducible (refine q9 H ?_;constructor)|simp only[rB,rQ,q8,q7,qc,reduceIte,Nat.reduceLT,Nat.reduceEqDiff,pe3,pf3,zn,qd,QD,qD,qA,m1,m2,zX,zv,J9,qh,o1,Zh,qde,YX,QY,q6a,Qj,zr,zb]|(with_reducible refine XZ H ?_))
  repeat (first|with_reducible (refine q9 H ?_;constructor)|simp only[rB,rQ,q8,q7,qc,reduceIte,Nat.reduceLT,Nat.reduceEqDiff,pe3,pf3,zD,qY,Tryz.results31])
  exact hk _ nilS ((hW2.set hL1 _).sub (fun q hq=>List.mem_cons_of_mem _ (List.mem_cons_of_mem _ hq))) (by show s.nx≤s.nx+1+1;omega) zt
 ·have o1:decide (c.op < 1)=false:=by rw[decide_eq_false_iff_not];omega
  have o2:decide (c.op > 18)=true:=by rw[decide_eq_true_eq];omega
  repeat (first|with_reducible (refine q9 H ?_;constructor)|simp only[rB,rQ,q8,q7,qc,reduceIte,Nat.reduceLT,Nat.reduceEqDiff,pe3,pf3,zn,qd,QD,qD,qA,m1,m2,zX,zv,J9,qh,o1,o2,Zh,qde,YX,QY,q6a,Qj,zr,zb]|(with_reducible refine XZ H ?_))
  repeat (first|with_reducible (refine q9 H ?_;constructor)|simp only[rB,rQ,q8,q7,qc,reduceIte,Nat.reduceLT,Nat.reduceEqDiff,pe3,pf3,zD,qY,Tryz.results31])
  exact hk _ nilS ((hW2.set hL1 _).sub (fun q hq=>List.mem_cons_of_mem _ (List.mem_cons_of_mem _ hq))) (by show s.nx≤s.nx+1+1;omega) zt
def qye (M:Md) (c:Cl):Option (Nat ⊕ (An × Md)):=match zE M.T M.root M.cwd c.path true with
 | none=>none
 | some (.inr n)=>some (.inl n)
 | some (.inl k)=>match M.T k with
  | none=>none
  | some nd=>bif !decide (nd.kind=1) then some (.inl 3) else some (.inr (an0,{ M with cwd:=k,fds:=M.fds }))
theorem qqz {s:St} (H:Ok TE Tryz.prog pr3) {x:Nat} {M:Md} {L:List (Nat × AO)} (hW:World s x M L) {c:Cl} (hop:c.op=18) {r:Nat ⊕ (An × Md)} (h:qye M c=some r) {kr kp:AV→St→Bool} (hk:Dt s x L kr (qgu M r)) :
  (sem Tryz.prog).call 31 [.ptr x 0,.agg (clL c)] s kr kp=true:=by
 refine qk H 77 qdm rfl rfl ?_
 have m1:(s.nx=s.nx+1)=False:=by simp
 have m2:(s.nx+1=s.nx)=False:=by simp
 have hL1:∀ q∈(s.nx,AO.cells (clL c) 41 0)::L,q.1≠s.nx+1:=by
  intro q hq
  simp only[List.mem_cons] at hq
  rcases hq with rfl|hq
  ·simp
  ·have:=hW.lt hq
   omega
 have hW2:=(hW.alloc (.cells (clL c) 41 0)).alloc (.cells (anL 0 0 0 0 [] nilS) 38 0)
 have o1:decide (c.op < 1)=false:=by rw[decide_eq_false_iff_not];omega
 have o2:decide (c.op > 18)=false:=by rw[decide_eq_false_iff_not];omega
 have o3:decide (c.op≤4)=false:=by rw[decide_eq_false_iff_not];omega
 have o4:decide (c.op≤7)=false:=by rw[decide_eq_false_iff_not];omega
 have o5:decide (c.op≤10)=false:=by rw[decide_eq_false_iff_not];omega
 have o6:decide (c.op≤12)=false:=by rw[decide_eq_false_iff_not];omega
 have o7:(c.op==13)=false:=by rw[beq_eq_false_iff_ne];omega
 have o8:(c.op==18)=true:=by rw[beq_iff_eq];omega
 unfold clL at hW2 ⊢
 repeat (first|with_reducible (refine q9 H ?_;constructor)|simp only[rB,rQ,q8,q7,qc,reduceIte,Nat.reduceAdd,Nat.reduceLT,Nat.reduceEqDiff,pe3,pf3,zn,qd,QD,qjk,qD,qA,m1,m2,zX,zv,J9,qh,o1,o2,o3,o4,o5,o6,o7,o8,Zh,qde,YX,QY,Kd,J3])
 have hW3:=hW2
 obtain⟨hB2,ι,μ,R,hL2⟩:=hW3
 unfold qye at h
 cases hf:zE M.T M.root M.cwd c.path true with
 | none=>rw[hf] at h;cases h
 | some out =>
 rw[hf] at h
 have hf':=zQ R.hom hf
 refine Xv H R.rep hB2 R.tr hf' (fun n s1 h1 h2 h3=>?_) (fun n s1 h1 h2 h3=>?_)
 ·cases out with
  | inr n=>cases h1
  | inl k =>
  have h1:ι k=n:=by
   have:(Sum.inl (ι k):Nat ⊕ Nat)=Sum.inl n:=h1
   cases this
   rfl
  subst h1
  simp only at h
  have w1:=hW2.ext h2 h3
  have c1:s1.h.get (s.nx+1)=some (.cells (anL 0 0 0 0 [] nilS) 38 0):=w1.get0
  have l1:=h2.1
  cases hT:M.T k with
  | none=>rw[hT] at h;cases h
  | some nd =>
  rw[hT] at h
  simp only at h
  have hkl:=QP hT
  have hn:=(h2.2 _ (R.li hB2 hkl)).trans (R.nd k nd hT).1
  have hx1:=(h2.2 _ (R.lx hB2)).trans R.tr
  unfold trA at hx1
  have y1:(s.nx+1=x)=False:=by
   have:=hW.1 x
   obtain⟨hB,ι',μ',R',hL'⟩:=hW
   have:=R'.lx hB
   simp
   omega
  by_cases hd:nd.kind=1
  ·have k1:(nd.kind != 1)=false:=by rw[hd];rfl
   rw[decide_eq_true hd] at h
   cases h
   repeat (first|with_reducible (refine q9 H ?_;constructor)|simp only[rB,rQ,q8,q7,qc,reduceIte,Nat.reduceAdd,Nat.reduceLT,Nat.reduceEqDiff,pe3,pf3,qD,qB,Qe,hn,ndA,YI,k1,q5i,hx1,qh1,y1,c1,qha,Qj,zr,zb]|(with_reducible refine qv H ?_)|(with_reducible refine XZ H ?_))
   repeat (first|with_reducible (refine q9 H ?_;constructor)|simp only[rB,rQ,q8,q7,qc,reduceIte,Nat.reduceAdd,Nat.reduceLT,Nat.reduceEqDiff,pe3,pf3,y1,c1,zD,qY,Tryz.results31])
   have ht:JT ((s.alloc (.cells (clL c) 41 0)).alloc (.cells (anL 0 0 0 0 [] nilS) 38 0)) { s1 with h:=s1.h.set x (trA (ι M.root) (ι k) (JJ ι M.fds) M.many) } x (trA (ι M.root) (ι k) (JJ ι M.fds) M.many) :=
    ⟨h2.1,hs_same,fun j hj hjx=>(qa hjx).trans (h2.2 j hj)⟩
   have w2:=World.fds R hB2 hL2 (qe h3 (h3 _ _ hx1) _) hkl R.f8 R.fd ht
   exact hk _ nilS ((w2.set hL1 _).sub (fun q hq=>List.mem_cons_of_mem _ (List.mem_cons_of_mem _ hq))) (Nat.le_trans (by show s.nx≤s.nx+1+1;omega) l1) zt
  ·have k1:(nd.kind != 1)=true:=by rw[bne_iff_ne];exact hd
   rw[decide_eq_false hd] at h
   cases h
   repeat (first|with_reducible (refine q9 H ?_;constructor)|simp only[rB,rQ,q8,q7,qc,reduceIte,Nat.reduceAdd,Nat.reduceLT,Nat.reduceEqDiff,pe3,pf3,qD,qB,Qe,hn,ndA,YI,k1]|(with_reducible refine qj H ?_)|(with_reducible refine VS H c1 ?_))
   repeat (first|with_reducible (refine q9 H ?_;constructor)|simp only[rB,rQ,q8,q7,qc,reduceIte,Nat.reduceAdd,Nat.reduceLT,Nat.reduceEqDiff,pe3,pf3,c1,zD,qY,Tryz.results31])
   exact hk _ nilS ((w1.set hL1 _).sub (fun q hq=>List.mem_cons_of_mem _ (List.mem_cons_of_mem _ hq))) (Nat.le_trans (by show s.nx≤s.nx+1+1;omega) l1) zt
 ·cases out with
  | inl k=>cases h1
  | inr m =>
  have h1:m=n:=by
   have:(Sum.inr m:Nat ⊕ Nat)=Sum.inr n:=h1
   cases this
   rfl
  subst h1
  cases h
  have w1:=hW2.ext h2 h3
  have l1:=h2.1
  have c1:s1.h.get (s.nx+1)=some (.cells (anL 0 0 0 0 [] nilS) 38 0):=w1.get0
  repeat (first|with_reducible (refine q9 H ?_;constructor)|simp only[rB,rQ,q8,q7,qc,reduceIte,Nat.reduceAdd,Nat.reduceLT,Nat.reduceEqDiff,pe3,pf3]|(with_reducible refine VS H c1 ?_))
  repeat (first|with_reducible (refine q9 H ?_;constructor)|simp only[rB,rQ,q8,q7,qc,reduceIte,Nat.reduceAdd,Nat.reduceLT,Nat.reduceEqDiff,pe3,pf3,c1,zD,qY,Tryz.results31])
  exact hk _ nilS ((w1.set hL1 _).sub (fun q hq=>List.mem_cons_of_mem _ (List.mem_cons_of_mem _ hq))) (Nat.le_trans (by show s.nx≤s.nx+1+1;omega) l1) zt
def doR (M:Md) (c:Cl):Nat→Option (Nat ⊕ (An × Md))
 | 1=>do1 M c
 | 2=>do2 M c
 | 3=>do3 M c
 | 4=>do4 M c
 | 5=>do5 M c
 | 6=>do6 M c
 | 7=>do7 M c
 | 8=>do8 M c
 | 9=>do9 M c
 | 10=>q0f M c
 | 11=>qx1 M c true
 | 12=>qx1 M c false
 | 13=>qzu M c
 | 14=>qze M c
 | 15=>q1v M c
 | 16=>qy0 M c
 | 17=>qz5 M c
 | 18=>qye M c
 | _=>none
def doM (M:Md) (c:Cl):Option (An × Md):=bif decide (c.op < 1)||decide (c.op > 18) then some (⟨5,0,0,0,[],[]⟩,M) else match doR M c c.op.toNat with
 | none=>none
 | some r=>some (qgu M r)
theorem do_c {s:St} (H:Ok TE Tryz.prog pr3) {x:Nat} {M:Md} {L:List (Nat × AO)} (hW:World s x M L) {c:Cl} {q:An × Md} (h:doM M c=some q) {kr kp:AV→St→Bool} (hk:Dt s x L kr q) :
  (sem Tryz.prog).call 31 [.ptr x 0,.agg (clL c)] s kr kp=true:=by
 unfold doM at h
 by_cases hb:c.op < 1∨c.op > 18
 ·have:(decide (c.op < 1)||decide (c.op > 18))=true:=by rw[Bool.or_eq_true,decide_eq_true_eq,decide_eq_true_eq];exact hb
  rw[this] at h
  cases h
  exact qy2 H hW hb hk
 ·have:(decide (c.op < 1)||decide (c.op > 18))=false:=by rw[Bool.or_eq_false_iff,decide_eq_false_iff_not,decide_eq_false_iff_not];omega
  rw[this,cond_false] at h
  cases hr:doR M c c.op.toNat with
  | none=>rw[hr] at h;cases h
  | some r =>
  rw[hr] at h
  cases h
  have hc:c.op=1∨c.op=2∨c.op=3∨c.op=4∨c.op=5∨c.op=6∨c.op=7∨c.op=8∨c.op=9∨c.op=10∨c.op=11∨c.op=12∨c.op=13∨c.op=14∨c.op=15∨c.op=16∨c.op=17∨c.op=18:=by omega
  rcases hc with e|e|e|e|e|e|e|e|e|e|e|e|e|e|e|e|e|e
  ·rw[e] at hr
   exact qbw H hW (by omega) (by omega) (fun s L kr kp hW hk=>q4f H hW e hr hk) hk
  ·rw[e] at hr
   exact qbw H hW (by omega) (by omega) (fun s L kr kp hW hk=>q5p H hW e hr hk) hk
  ·rw[e] at hr
   exact qbw H hW (by omega) (by omega) (fun s L kr kp hW hk=>q5l H hW e hr hk) hk
  ·rw[e] at hr
   exact qbw H hW (by omega) (by omega) (fun s L kr kp hW hk=>q50 H hW e hr hk) hk
  ·rw[e] at hr
   exact qhg H hW (by omega) (by omega) (fun s L kr kp hW hk=>q59 H hW e hr hk) hk
  ·rw[e] at hr
   exact qhg H hW (by omega) (by omega) (fun s L kr kp hW hk=>q30 H hW e hr hk) hk
  ·rw[e] at hr
   exact qhg H hW (by omega) (by omega) (fun s L kr kp hW hk=>q5a H hW e hr hk) hk
  ·rw[e] at hr
   exact Wc H hW (by omega) (by omega) (fun s L kr kp hW hk=>q56 H hW e hr hk) hk
  ·rw[e] at hr
   exact Wc H hW (by omega) (by omega) (fun s L kr kp hW hk=>q6g H hW e hr hk) hk
  ·rw[e] at hr
   exact Wc H hW (by omega) (by omega) (fun s L kr kp hW hk=>q2k H hW e hr hk) hk
  ·rw[e] at hr
   exact qf2 H hW (by omega) (by omega) (fun s L kr kp hW hk=>qsv H hW (file:=true) e hr hk) hk
  ·rw[e] at hr
   exact qf2 H hW (by omega) (by omega) (fun s L kr kp hW hk=>qsv H hW (file:=false) e hr hk) hk
  ·rw[e] at hr
   exact qnp H hW (by omega) (by omega) (fun s L kr kp hW hk=>q2l H hW hr hk) hk
  ·rw[e] at hr
   exact qrf H hW (by omega) (by omega) (fun s L kr kp hW hk=>qz6 H hW e hr hk) hk
  ·rw[e] at hr
   exact qrf H hW (by omega) (by omega) (fun s L kr kp hW hk=>q09 H hW e hr hk) hk
  ·rw[e] at hr
   exact qrf H hW (by omega) (by omega) (fun s L kr kp hW hk=>q1q H hW e hr hk) hk
  ·rw[e] at hr
   exact qrf H hW (by omega) (by omega) (fun s L kr kp hW hk=>qy7 H hW e hr hk) hk
  ·rw[e] at hr
   exact qqz H hW e hr hk
end Go.AX
