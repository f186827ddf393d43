import Derived.Test.YtkcbaokljkalcaaGreatBy2A3
import Derived.Test.YtkcbaokljkalcaaGreatBy2A4
import Derived.Shelf.SlSortCmp.InsertionK
set_option linter.unusedVariables false
set_option linter.unusedSimpArgs false
set_option linter.defProp false
namespace Go.AX
open Go.Proofs Go.RowKit Go.Sort
set_option maxRecDepth 100000
set_option linter.unusedSimpArgs false
set_option linter.unusedVariables false
abbrev EnS:=List Nat × Int × Int × List Nat
def OkE (n:Nat) (e:EnS):Prop:=e.1.length≤n∧qO e.1∧qO e.2.2.2
abbrev EA (n:Nat):={ e:EnS // OkE n e }
instance (n:Nat):Inhabited (EA n):=⟨⟨([],0,0,[]),Nat.zero_le _,by simp[qO],by simp[qO]⟩⟩
def JI {n:Nat} (x:EA n):List Value:=[Yp x.1.1,.int .i64 x.1.2.1,.int .i64 x.1.2.2.1,Yp x.1.2.2.2]
def Ww (e:EnS):List AV:=[.str e.1,.raw (.int .i64 e.2.1),.raw (.int .i64 e.2.2.1),.str e.2.2.2]
def Yi:List EnS→List AV
 | []=>[]
 | e::l=>Ww e++Yi l
theorem XU:∀ {l:List EnS},(Yi l).length=l.length * 4
 | []=>rfl
 | e::l=>by
  have:(Ww e).length=4:=rfl
  simp only[Yi,List.length_append,List.length_cons,XU (l:=l),this]
  omega
theorem Jc:∀ {es:List EnS} {k j:Nat} {e:EnS},es[k]?=some e→j < 4→(Yi es)[k * 4+j]?=(Ww e)[j]?
 | [],k,j,e,h,_=>by simp at h
 | a::l,0,j,e,h,hj=>by
  simp at h
  subst h
  show (Ww a++Yi l)[0 * 4+j]?=_
  rw[Nat.zero_mul,Nat.zero_add,List.getElem?_append_left hj]
 | a::l,k+1,j,e,h,hj=>by
  have ih:=Jc (es:=l) (k:=k) (j:=j) (e:=e) (by simpa using h) hj
  show (Ww a++Yi l)[(k+1) * 4+j]?=_
  have hl:(Ww a).length=4:=rfl
  rw[List.getElem?_append_right (by omega),hl,show (k+1) * 4+j - 4=k * 4+j from by omega]
  exact ih
theorem qi4 {n:Nat} (x:EA n):(JI x).length=4:=rfl
theorem qp8 {n:Nat} (x:EA n):∀ v∈JI x,v.oneCell'=true:=by
 intro v hv
 simp only[JI,List.mem_cons,List.not_mem_nil,or_false] at hv
 rcases hv with rfl|rfl|rfl|rfl <;> rfl
theorem qrj {n:Nat} {E:Em} (x:EA n) {j:Nat} {v:AV} (h:(Ww x.1)[j]?=some v):∃ V,(JI x)[j]?=some V∧VRel E v V:=by
 match j,h with
 | 0,h=>cases h;exact⟨_,rfl,by simp only[VRel];exact⟨x.2.2.1,trivial⟩⟩
 | 1,h=>cases h;exact⟨_,rfl,by simp only[VRel]⟩
 | 2,h=>cases h;exact⟨_,rfl,by simp only[VRel]⟩
 | 3,h=>cases h;exact⟨_,rfl,by simp only[VRel];exact⟨x.2.2.2,trivial⟩⟩
 | j+4,h=>cases h
theorem qx5 {n:Nat} {E:Em} (x:EA n) {j:Nat} {v:AV} {V:Value} (h:(Ww x.1)[j]?=some v) (hV:VRel E v V):(JI x)[j]?=some V:=by
 match j,h with
 | 0,h=>cases h;simp only[VRel] at hV;rw[hV.2];rfl
 | 1,h=>cases h;simp only[VRel] at hV;rw[hV];rfl
 | 2,h=>cases h;simp only[VRel] at hV;rw[hV];rfl
 | 3,h=>cases h;simp only[VRel] at hV;rw[hV.2];rfl
 | j+4,h=>cases h
theorem qaf {n:Nat} {E:Em} (x:EA n):VRels E (Ww x.1) (JI x):=by
 simp only[Ww,JI,VRels,VRel]
 exact⟨_,_,⟨x.2.2.1,rfl⟩,⟨_,_,rfl,⟨_,_,rfl,⟨_,_,⟨x.2.2.2,rfl⟩,rfl,rfl⟩,rfl⟩,rfl⟩,rfl⟩
theorem qpm {α:Type} {Q:α→Prop}:∀ {l:List α},(∀ x∈l,Q x)→∃ r:List { x // Q x },r.map (·.1)=l
 | [],_=>⟨[],rfl⟩
 | a::l,h=>by
  obtain⟨r,hr⟩:=qpm (l:=l) (fun x hx=>h x (List.mem_cons_of_mem _ hx))
  exact⟨⟨a,h a (by simp)⟩::r,by simp[hr]⟩
theorem qu7 {w w':World} (h:Below w.heap.size w w') (hd:w.drawn≤w'.drawn):∃ q os,w'=grow (w.drewN q) os:=by
 refine⟨w'.drawn - w.drawn,w'.heap.extract w.heap.size w'.heap.size,?_⟩
 have hh:w'.heap=w.heap++w'.heap.extract w.heap.size w'.heap.size:=by
  apply Array.ext_getElem?
  intro i
  by_cases hi:i < w.heap.size
  ·rw[Array.getElem?_append_left hi]
   exact h.block i hi
  ·have hs:=h.size
   rw[Array.getElem?_append_right (by omega),Array.getElem?_extract]
   by_cases h2:i < w'.heap.size
   ·rw[if_pos (by omega),show w.heap.size+(i - w.heap.size)=i from by omega]
   ·rw[Array.getElem?_eq_none (by omega),if_neg (by omega)]
 obtain⟨heap',tape',drawn',os',output'⟩:=w'
 obtain⟨h1,h2,h3,h4,h5⟩:=h
 simp only at h1 h2 h3 h4 h5 hd hh ⊢
 subst h1 h2 h3
 unfold grow World.drewN
 simp only
 congr 1
 omega
theorem qyy {P:Program} {g n blk off size:Nat} {cf:EA n→EA n→Int} {w:World} (h:∀ (x y:EA n) (w:World),Calls P g #[.agg (JI x).toArray,.agg (JI y).toArray] w fun e w'=>e=.returned (.int .i64 (cf x y))∧Below w.heap.size w w'∧w.drawn≤w'.drawn) :
  CmpLays P g #[] JI 4 cf blk off size w:=by
 intro m os dk _ x y
 refine (h x y _).mono fun e w' ⟨he,hb,hd⟩=>⟨he,qu7 hb hd⟩
theorem q1v {P:Program} {g n:Nat} {cf:EA n→EA n→Int} (h:∀ (x y:EA n) (kr kp:AV→St→Bool),(∀ s',kr (.raw (.int .i64 (cf x y))) s'=true)→(sem P).call g [.agg (Ww x.1),.agg (Ww y.1)] st0 kr kp=true) (x y:EA n) (w:World) :
  Calls P g #[.agg (JI x).toArray,.agg (JI y).toArray] w fun e w'=>e=.returned (.int .i64 (cf x y))∧Below w.heap.size w w'∧w.drawn≤w'.drawn:=by
 have key:=sem_call.1 (h x y (fun v _=>@decide (v=.raw (.int .i64 (cf x y))) (Classical.propDecidable _)) (fun _ _=>false) (fun s'=>@decide_eq_true _ (Classical.propDecidable _) rfl))
  w w (fun _=>none) [.agg (JI x).toArray,.agg (JI y).toArray] (fun V w'=>V=.int .i64 (cf x y)∧Below w.heap.size w w') (fun _ _=>False)
  (by
   simp only[VRels,VRel]
   exact⟨_,_,⟨_,qaf x,rfl⟩,⟨_,_,⟨_,qaf y,rfl⟩,rfl,rfl⟩,rfl⟩) (q9b w)
  (fun E' v s' V w' _ g2 g3 g4=>by
   have e:=@of_decide_eq_true _ (Classical.propDecidable _) g4
   subst e
   simp only[VRel] at g2
   exact⟨g2,g3.below⟩) (fun _ _ _ _ _ _ _ _ g=>by cases g)
 have k2:=qrb key.2 (fun w' h=>h)
 refine (callsIn_wide (n:=0)).1 (CallsIn.mono k2 fun e w' he=>?_)
 obtain⟨he,hd⟩:=he
 cases e with
 | returned V=>obtain⟨rfl,hb⟩:=he;exact⟨rfl,hb,hd⟩
 | panicked c=>obtain⟨_,_,hf⟩:=he;exact hf.elim
 | outgrown=>exact he.elim
theorem qc8 {n:Nat} {d:Array (EA n)} {i:Nat} (h:i < d.size * 4):(flatK JI 4 d)[i]?=(JI d[i / 4]!)[i % 4]?:=by
 have h1:i < (flatK JI 4 d).size:=by rw[size_flatK];exact h
 have h2:i % 4 < (JI d[i / 4]!).length:=by rw[qi4];exact Nat.mod_lt _ (by omega)
 have e:=get_flatK JI 4 d i h
 rw[getElem!_pos _ i h1,getElem!_pos _ (i % 4) h2] at e
 rw[Array.getElem?_eq_getElem h1,List.getElem?_eq_getElem h2,e]
theorem qrf {w:World} {blk off m:Nat} {F C:Array Value} {el:TypeId} {fr:Nat × Nat} (hb:w.heap[blk]?=some (.cells C el fr)):Puts w (putRow id (Sort.ahead w m) blk off F) blk (.cells (putCells id off F C) el fr):=by
 refine⟨fun k hk=>?_,?_,by rw[size_putRow];rfl,rfl,rfl,rfl⟩
 ·show ((Sort.ahead w m).heap.modify blk (onCells (putCells id off F)))[k]?=_
  rw[Array.getElem?_modify,if_neg (Ne.symm hk)]
  rfl
 ·show ((Sort.ahead w m).heap.modify blk (onCells (putCells id off F)))[blk]?=_
  rw[Array.getElem?_modify,if_pos rfl]
  show (w.heap[blk]?).map _=_
  rw[hb]
  rfl
theorem qvq {P:Program} {f g n:Nat} {c:EnS→EnS→Int} (hE:Qy P f)
  (hS:∀ (blk off cap:Nat) (d:Array (EA n)) (w:World),CmpLays P g #[] (JI (n:=n)) 4 (fun (x y:EA n)=>c x.1 y.1) blk off d.size w→HoldsK (JI (n:=n)) 4 w blk off d→blk < w.heap.size→d.size < 4611686018427387904 →
   Calls P f #[.slice (some ⟨blk,off,none⟩) d.size cap,.func (.func g) #[] #[]] w fun e w'=>e=.returned (.tuple #[])∧∃ (d':Array (EA n)) (m:Nat) (os:Array Obj),PermIn 0 d.size d d'∧SortedIn (ltOf fun (x y:EA n)=>c x.1 y.1) 0 d.size d'∧w'=sortWorldK (JI (n:=n)) 4 w blk off m d' os)
  (hC:∀ (x y:EA n) (kr kp:AV→St→Bool),(∀ s',kr (.raw (.int .i64 (c x.1 y.1))) s'=true)→(sem P).call g [.agg (Ww x.1),.agg (Ww y.1)] st0 kr kp=true)
  {s:St} {q cap T fz:Nat} {ex:Bool} {es:List EnS} (hg:s.h.get q=some (.cells (Yi es) T fz)) (hl:∀ e∈es,e.1.length≤n) (hsz:es.length < 1000000000) {kr kp:AV→St→Bool}
  (hk:∀ es':List EnS,es'.Perm es→es'.Pairwise (fun a b=>¬ c b a < 0)→kr (.tuple []) { s with h:=s.h.set q (.cells (Yi es') T fz) }=true) :
  (sem P).call f [.slice q 0 es.length 0 cap ex,.fn g []] s kr kp=true:=by
 refine sem_call.2 fun w0 w E Args R Rp hv hs hkr hkp=>⟨hE,ZK ?_⟩
 simp only[VRels,VRel] at hv
 obtain⟨V,Vs,⟨p,hp,rfl,hcap1,hcap2⟩,⟨V2,Vs2,⟨C0,rfl,rfl⟩,rfl,rfl⟩,rfl⟩:=hv
 obtain⟨p',O,hp',hO,hr,hge⟩:=hs.obj q _ hg
 rw[hp] at hp'
 cases hp'
 simp only[ORel] at hr
 obtain⟨C,fr,rfl,hc,hfree⟩:=hr
 have hby:∀ e∈es,OkE n e:=by
  intro e he
  obtain⟨k,hk⟩:=List.mem_iff_getElem?.mp he
  obtain⟨V0,_,g0⟩:=hc _ _ (Jc (j:=0) hk (by omega))
  obtain⟨V3,_,g3⟩:=hc _ _ (Jc (j:=3) hk (by omega))
  simp only[VRel] at g0 g3
  exact⟨hl e he,g0.1,g3.1⟩
 obtain⟨r,hr⟩:=qpm hby
 have hrl:r.length=es.length:=by rw[← hr,List.length_map]
 have hds:r.toArray.size=es.length:=by simp[hrl]
 have hat:∀ (k:Nat) (x:EA n),r[k]?=some x→es[k]?=some x.1:=fun k x h=>by rw[← hr,List.getElem?_map,h];rfl
 have hblk:p.1 < w.heap.size:=(Array.getElem?_eq_some_iff.1 hO).1
 have hH:HoldsK JI 4 w p.1 (p.2.1+0) r.toArray:=by
  intro j hj
  rw[size_flatK,hds] at hj
  have hq:j / 4 < r.length:=by omega
  have hrj:r[j / 4]?=some r[j / 4]:=List.getElem?_eq_getElem hq
  have hm:j % 4 < 4:=Nat.mod_lt _ (by omega)
  have hv4:(Ww r[j / 4].1)[j % 4]?=some (Ww r[j / 4].1)[j % 4]:=List.getElem?_eq_getElem hm
  have h1:=Jc (j:=j % 4) (hat _ _ hrj) hm
  rw[show j / 4 * 4+j % 4=j from by omega,hv4] at h1
  obtain⟨V,hV,hrel⟩:=hc j _ h1
  have hVe:=qx5 r[j / 4] hv4 hrel
  have hdj:r.toArray[j / 4]! = r[j / 4]:=by rw[getElem!_pos _ _ (by simp;omega)];simp
  have hfk:(flatK JI 4 r.toArray)[j]! = V:=by
   have hjs:j < (flatK JI 4 r.toArray).size:=by rw[size_flatK,hds];exact hj
   have:=qc8 (d:=r.toArray) (i:=j) (by rw[hds];exact hj)
   rw[hdj,hVe,Array.getElem?_eq_getElem hjs] at this
   rw[getElem!_pos _ j hjs]
   exact Option.some.inj this
  refine⟨?_,?_⟩
  ·rw[X1 hO,Nat.add_zero,hV,hfk]
   rfl
  ·exact Yj hO (hfree.1 _ (by omega) (by
    have:=(Array.getElem?_eq_some_iff.1 hV).1
    omega))
 have hcalls:=hS p.1 (p.2.1+0) (if ex then cap else p.2.2 - 0) r.toArray w (qyy (q1v hC)) hH hblk (by rw[hds];omega)
 rw[hds] at hcalls
 refine hcalls.mono fun e w' ⟨he,d',m,os,hperm,hsort,hw⟩=>?_
 subst he
 obtain⟨hsz',_,hpm⟩:=hperm
 rw[hds] at hsz'
 have hpl:d'.toList.Perm r:=by
  have h1:d'.extract 0 es.length=d':=by
   have:es.length=d'.size:=hsz'.symm
   rw[this]
   simp
  have h2:r.toArray.extract 0 es.length=r.toArray:=by
   rw[← hds]
   simp
  rw[h1,h2] at hpm
  simpa using hpm
 have hes':(d'.toList.map (·.1)).Perm es:=by
  have:=hpl.map (·.1)
  rw[hr] at this
  exact this
 have hlen':(d'.toList.map (·.1)).length=es.length:=hes'.length_eq
 have hpw:(d'.toList.map (·.1)).Pairwise (fun a b=>¬ c b a < 0):=by
  rw[List.pairwise_iff_getElem]
  intro i j hi hj hij
  have hi':i < d'.size:=by simpa using hi
  have hj':j < d'.size:=by simpa using hj
  have:=hsort i j (Nat.zero_le _) hij (by omega)
  rw[getElem!_pos _ i hi',getElem!_pos _ j hj'] at this
  simp only[List.getElem_map,Array.getElem_toList]
  intro hlt
  unfold ltOf at this
  simp[hlt] at this
 have hkk:=hk _ hes' hpw
 have hS1:Sim w0 E { s with h:=s.h.set q (.cells (Yi (d'.toList.map (·.1))) T fz) } (putRow id (Sort.ahead w m) p.1 (p.2.1+0) (flatK JI 4 d')):=by
  refine hs.puts hg hp (qrf hO) ?_
  simp only[ORel]
  refine⟨_,fr,rfl,fun i v hi=>?_,by simpa [putCells] using hfree⟩
  have hil:=(List.getElem?_eq_some_iff.1 hi).1
  rw[XU,hlen'] at hil
  have hq:i / 4 < d'.toList.length:=by simp;omega
  have hdq:d'.toList[i / 4]?=some d'.toList[i / 4]:=List.getElem?_eq_getElem hq
  have hmq:(d'.toList.map (·.1))[i / 4]?=some d'.toList[i / 4].1:=by rw[List.getElem?_map,hdq];rfl
  have h1:=Jc (j:=i % 4) hmq (Nat.mod_lt _ (by omega))
  rw[show i / 4 * 4+i % 4=i from by omega,hi] at h1
  obtain⟨V,hV,hrel⟩:=qrj (E:=E) d'.toList[i / 4] h1.symm
  refine⟨V,?_,hrel⟩
  -- the cell
  have hnow:i < (Yi es).length:=by rw[XU];exact hil
  obtain⟨V0,hV0,_⟩:=hc i _ (List.getElem?_eq_getElem hnow)
  have hCl:=(Array.getElem?_eq_some_iff.1 hV0).1
  have hfs:(flatK JI 4 d').size=es.length * 4:=by rw[size_flatK,hsz']
  unfold putCells
  rw[Array.getElem?_mapIdx,Array.getElem?_eq_getElem hCl]
  show some (if p.2.1+0≤p.2.1+i∧p.2.1+i < p.2.1+0+(flatK JI 4 d').size then id (flatK JI 4 d')[p.2.1+i - (p.2.1+0)]! else _)=_
  rw[if_pos ⟨by omega,by rw[hfs];omega⟩,show p.2.1+i - (p.2.1+0)=i from by omega]
  have hji:i < (flatK JI 4 d').size:=by rw[hfs];exact hil
  rw[getElem!_pos _ i hji]
  have:=qc8 (d:=d') (i:=i) (by rw[hsz'];exact hil)
  have hde:d'[i / 4]! = d'.toList[i / 4]:=by rw[getElem!_pos _ _ (by omega)];simp
  rw[hde,hV,Array.getElem?_eq_getElem hji] at this
  exact this
 have hS2:Sim w0 E { s with h:=s.h.set q (.cells (Yi (d'.toList.map (·.1))) T fz) } w':=by
  refine hS1.grown ?_
  rw[hw]
  unfold sortWorldK putRowK grow
  refine⟨rfl,rfl,rfl,by simp,fun k hk=>?_⟩
  simp only
  rw[Array.getElem?_append_left hk]
 exact hkr E _ _ _ w' (Em.le_refl E) (by simp only[VRel,VRels];exact⟨[],rfl,rfl⟩) hS2 hkk
end Go.AX
