import Derived.Deep.Slices
import Derived.ReadAgain
import Derived.Test.YtkcbaokljkalcaaGreatBy2A3
set_option linter.unusedVariables false
set_option linter.unusedSimpArgs false
set_option linter.defProp false
namespace Go.AX
open Go.Proofs Go.RowKit Go.ChangeShapes Go.WideShapes
set_option linter.unusedSimpArgs false
set_option linter.unusedVariables false
section
variable {H:Type} {enc:TypeId × Value→H} {P:Program}
theorem Xv {W W':World} {base:Nat} {sp:Nat→Bool} {held:Bool}:∀ {ts:List TypeId} {vs:List Value} {ds:List (DataW H)} {ps:List MemPlace},DataW.TrodAll enc P W base sp held ts vs ds ps→(∀ p∈ps,W.sameAt W' p)→DataW.TrodAll enc P W' base sp held ts vs ds ps
 | [],[],[],_,h,_=>h
 | t::ts,v::vs,d::ds,ps,h,hs=>by
  obtain⟨p,q,⟨n,h1⟩,h2,rfl⟩:=h
  exact⟨p,q,⟨n,DataW.trod_carry n t _ _ h1 (fun x hx=>hs x (List.mem_append_left _ hx))⟩,Xv h2 (fun x hx=>hs x (List.mem_append_right _ hx)),rfl⟩
 | [],[],_::_,_,h,_=>h.elim
 | [],_::_,_,_,h,_=>by cases h
 | _::_,[],_,_,h,_=>by cases h
 | _::_,_::_,[],_,h,_=>by cases h
theorem args_again {T:TypeId→Prop} (K:Kids P T) (hz:∀ t e,T t→P.underlying t=some (.slice e)→0 < P.cellsOf e) {W W':World} {ts:List TypeId} {vs:List Value} {ds:List (DataW H)} {ps:List MemPlace} (hT:∀ t∈ts,T t)
  (hA:DataW.TrodAll enc P W 0 (fun _=>true) true ts vs ds ps) (hlt:∀ p∈ps,p.block < W.heap.size) (hb:Below W.heap.size W W') (sp:Nat→Bool) (hsp:∀ p∈ps,sp p.block=true):DataW.TrodAll enc P W' 0 sp true ts vs ds ps :=
 DataW.TrodAll.respare K hz hT (Xv hA (fun p hp=>hb.same (hlt p hp))) hsp
theorem hand_slice2 {t e:TypeId} {fs:Array Field} {w:World} {fuel:Nat} {cs:List Value} {x:DataW H × List MemPlace} (ht:P.underlying t=some (.slice e)) (he:P.underlying e=some (.struct fs)) (hz:P.cellsOf e=fs.size)
  (hf:∀ (j:Nat) (f:Field),fs[j]?=some f→f.offset=j∧P.cellsOf f.type=1) (h:DataW.trod enc P w 0 (fun _=>true) true fuel t cs=some x) :
  cs=[.slice none 0 0]∨∃ (a:Addr) (len cap n:Nat) (D:Nat→DataW H) (rest:List (DataW H)),cs=[.slice (some a) len cap]∧len≤cap∧x.1=.slice ((List.range len).map D) rest∧∀ i,i < len→∃ (vs:List Value) (xs:List (DataW H)),D i=.agg xs∧vs.length=fs.size ∧
   (∀ (j:Nat) (v:Value),vs[j]?=some v→w.cell? (a.add (i * fs.size+j))=some v) ∧
   ∀ (j:Nat) (f:Field) (v:Value),fs[j]?=some f→vs[j]?=some v→∃ y,DataW.trod enc P w 0 (fun _=>true) true n f.type [v]=some y∧xs[j]?=some y.1:=by
 rcases Go.Deep.open_slice ht h with⟨h0,_⟩|⟨a,len,cap,m,n,D,Pl,rfl,_,hl,_,hm,hxe,hx⟩
 ·exact Or.inl h0
 right
 refine⟨a,len,cap,n - 1,D,_,rfl,hl,by rw[hxe],fun i hi=>?_⟩
 obtain⟨vs,h1,h2⟩:=hx i (by rw[hm];simp;omega)
 rw[hz] at h1
 obtain⟨_,hlen,hcell⟩:=World.cells?_some h1
 obtain⟨xs,k,hk,hD,_,hxl,hfl⟩:=DataW.trod_struct he h2
 have hk':k=n - 1:=by omega
 subst hk'
 simp only[Prod.mk.injEq] at hD
 refine⟨vs,xs.map (·.1),hD.1,hlen,fun j v hv=>?_,fun j f v hjf hv=>?_⟩
 ·have hj:=(List.getElem?_eq_some_iff.mp hv).1
  have:=hcell j (by omega)
  rw[Go.Deep.add_add] at this
  rw[this,hv]
 ·obtain⟨o1,o2⟩:=hf j f hjf
  have:=hfl j f hjf
  rw[o1,o2] at this
  have hj:=(List.getElem?_eq_some_iff.mp hv).1
  have e:(vs.drop j).take 1=[v]:=by
   have hg:vs[j]=v:=by have:=List.getElem?_eq_some_iff.mp hv;exact this.2
   rw[List.drop_eq_getElem_cons hj,hg]
   rfl
  rw[e] at this
  rw[this]
  have hjx:j < xs.length:=by rw[hxl];exact (Array.getElem?_eq_some_iff.mp hjf).1
  refine⟨xs[j],List.getElem?_eq_getElem hjx,?_⟩
  rw[List.getElem?_map,List.getElem?_eq_getElem hjx]
  rfl
end
theorem qi3 {w:World} {a:Addr} {n:Nat} {F:Nat→Value} (h:∀ i,i < n→w.cell? (a.add i)=some (F i)) (hp:0 < n):∃ b off C el fz,a=⟨b,off,none⟩∧w.heap[b]?=some (.cells C el fz)∧∀ i,i < n→C[off+i]?=some (F i):=by
 obtain⟨b,off,spot⟩:=a
 have hspot:spot=none:=by simpa [Addr.add] using World.cell?_spot (h 0 hp)
 subst hspot
 have h1:=h 0 hp
 rw[Go.WideShapes.add_plain] at h1
 unfold World.cell? at h1
 simp only at h1
 split at h1
 ·rename_i C el fz hO
  refine⟨b,off,C,el,fz,rfl,hO,fun i hi=>?_⟩
  have h2:=h i hi
  rw[Go.WideShapes.add_plain] at h2
  unfold World.cell? at h2
  simp only at h2
  rw[hO] at h2
  simpa using h2
 ·cases h1
theorem list_of {α:Type}:∀ {n:Nat} {Q:Nat→α→Prop},(∀ i,i < n→∃ x,Q i x)→∃ l:List α,l.length=n∧∀ i x,l[i]?=some x→Q i x
 | 0,_,_=>⟨[],rfl,fun i x h=>by cases h⟩
 | n+1,Q,h=>by
  obtain⟨l,h1,h2⟩:=list_of (n:=n) (Q:=fun i x=>Q (i+1) x) (fun i hi=>h (i+1) (by omega))
  obtain⟨x,hx⟩:=h 0 (by omega)
  refine⟨x::l,by simp[h1],fun i y hy=>?_⟩
  cases i with
  | zero=>cases hy;exact hx
  | succ i=>exact h2 i y hy
theorem qvk (s:ByteArray):Yp (s.data.toList.map UInt8.toNat)=.string s:=by
 obtain⟨⟨l⟩⟩:=s
 have h:UInt8.ofNat∘UInt8.toNat=id:=funext fun x=>UInt8.ofNat_toNat
 unfold Yp
 rw[List.map_map,h,List.map_id]
theorem q04 {s:ByteArray}:∀ c∈s.data.toList.map UInt8.toNat,c < 256:=by
 intro c hc
 obtain⟨b,_,rfl⟩:=List.mem_map.mp hc
 exact b.toNat_lt
theorem str_vrel {E:Em} (s:ByteArray):VRel E (.str (s.data.toList.map UInt8.toNat)) (.string s):=by
 simp only[VRel]
 exact⟨q04,(qvk s).symm⟩
end Go.AX
