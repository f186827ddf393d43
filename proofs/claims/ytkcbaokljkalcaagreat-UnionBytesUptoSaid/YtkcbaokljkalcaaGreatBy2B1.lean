import Derived.Shelf.Strings.IndexAnyAll
import Derived.Shelf.Small.Utf8
import Derived.Lib.OthersKept
import Derived.Shelf.RegionOpen
import Derived.Scope
import Derived.Laws.Cover1
import Derived.Laws.Runes
import Derived.Shelf.Strings.OnBuilder
import Derived.Shelf.Strings.Repeat
import Derived.Shelf.SlIter.Nil
import Derived.Shelf.SortM.Plain
import Derived.Shelf.SortM.SortNone
import Derived.Ground.GgzProg
import Derived.Ground.SlgmProg
import Derived.Test.YtkcbaokljkalcaaGreatProg
set_option linter.unusedVariables false
set_option linter.unusedSimpArgs false
set_option linter.defProp false
namespace Go.Proofs
open Go.Shelf Go.RowKit Go.Lib
variable {P:Program} {ρ:Ren}
set_option linter.unusedVariables false
def sl0:ByteArray:=⟨#[47,0]⟩
theorem qhj {r:Int} (h:128≤r):2≤(Utf8.encode r).size∧∃ hl:(Utf8.encode r).size - 1 < (Utf8.encode r).size,128≤((Utf8.encode r)[(Utf8.encode r).size - 1]'hl).toNat:=by
 have e:∃ c:Nat,128≤c∧c≤1114111∧Utf8.encode r=(if c < 0x80 then⟨#[UInt8.ofNat c]⟩
 else if c < 0x800 then⟨#[UInt8.ofNat (0xC0+c / 64),UInt8.ofNat (0x80+c % 64)]⟩
 else if c < 0x10000 then⟨#[UInt8.ofNat (0xE0+c / 4096),UInt8.ofNat (0x80+c / 64 % 64),UInt8.ofNat (0x80+c % 64)]⟩
 else⟨#[UInt8.ofNat (0xF0+c / 262144),UInt8.ofNat (0x80+c / 4096 % 64),UInt8.ofNat (0x80+c / 64 % 64),UInt8.ofNat (0x80+c % 64)]⟩):=by
  cases hv:Utf8.valid r with
  | true =>
   refine⟨r.toNat,by omega,?_,?_⟩
   ·unfold Utf8.valid at hv
    simp only[Bool.or_eq_true,Bool.and_eq_true,decide_eq_true_eq] at hv
    omega
   ·unfold Utf8.encode
    simp only[hv,if_true]
  | false =>
   refine⟨65533,by decide,by decide,?_⟩
   unfold Utf8.encode
   simp only[hv,Utf8.runeError]
   rfl
 obtain⟨c,h1,h2,e⟩:=e
 rw[if_neg (by omega)] at e
 have m:(UInt8.ofNat (0x80+c % 64)).toNat=0x80+c % 64:=by
  simp only[UInt8.toNat_ofNat']
  omega
 by_cases c1:c < 0x800
 ·rw[if_pos c1] at e
  rw[e]
  exact⟨(by show 2≤(2:Nat);omega),(by show (1:Nat) < 2;omega),by show 128≤(UInt8.ofNat (0x80+c % 64)).toNat;omega⟩
 ·rw[if_neg c1] at e
  by_cases c2:c < 0x10000
  ·rw[if_pos c2] at e
   rw[e]
   exact⟨(by show 2≤(3:Nat);omega),(by show (2:Nat) < 3;omega),by show 128≤(UInt8.ofNat (0x80+c % 64)).toNat;omega⟩
  ·rw[if_neg c2] at e
   rw[e]
   exact⟨(by show 2≤(4:Nat);omega),(by show (3:Nat) < 4;omega),by show 128≤(UInt8.ofNat (0x80+c % 64)).toNat;omega⟩
set_option maxHeartbeats 4000000 in
set_option maxRecDepth 1000000 in
theorem Any.IndexRune_err (L:Lays.n152 P ρ) (w:World) :
  Calls P (ρ.f 152) #[.string sl0,.int .i32 65533] w fun e w'=>e=.returned (.int .i64 (-1))∧w'=w.iter sl0 2:=by
 have t3:=L.t3;have a3:=L.a3;have z3:=L.z3;have v3:=L.v3
 have t4:=L.t4;have a4:=L.a4;have z4:=L.z4;have v4:=L.v4
 have t5:=L.t5;have a5:=L.a5;have z5:=L.z5;have v5:=L.v5
 have t9:=L.t9;have a9:=L.a9;have z9:=L.z9;have v9:=L.v9
 have t21:=L.t21;have a21:=L.a21;have z21:=L.z21;have v21:=L.v21
 have hn0:∀ ty,(Instr.next (.pointer (some ⟨w.heap.size,0,none⟩)) true ty).run P (w.iter sl0 0)=.ok (.tuple #[.bool true,.int .i64 0,.int .i32 47]) (w.iter sl0 1):=fun ty=>run_next_ascii (P:=P) w sl0 0 ty (by decide) (by decide)
 have hn1:∀ ty,(Instr.next (.pointer (some ⟨w.heap.size,0,none⟩)) true ty).run P (w.iter sl0 1)=.ok (.tuple #[.bool true,.int .i64 1,.int .i32 0]) (w.iter sl0 2):=fun ty=>run_next_ascii (P:=P) w sl0 1 ty (by decide) (by decide)
 have hnx:=fun ty=>run_next_end (P:=P) w sl0 2 ty (by decide)
 go_enter L.f152,Body.n152_ntmps ρ
 go_wp2
 go_loopg [] 2 (fun g wx=>∃ i:Nat,i+g=2∧wx=w.iter sl0 i)
 case atStart=>exact⟨0,by omega,rfl⟩
 case round =>
  obtain⟨i,hig,rfl⟩:=hrel
  cases gk with
  | zero =>
   obtain rfl:i=2:=by omega
   go_wp2
   go_ret
   exact⟨rfl,rfl⟩
  | succ g =>
   have hi:i=0∨i=1:=by omega
   rcases hi with rfl|rfl
   ·go_wp2
    go_roundg g
    case measure=>omega
    case rel=>exact⟨1,by omega,rfl⟩
   ·go_wp2
    go_roundg g
    case measure=>omega
    case rel=>exact⟨2,by omega,rfl⟩
end Go.Proofs
namespace Go.Proofs
open Go.Shelf Go.RowKit Go.Lib
variable {P:Program} {ρ:Ren}
set_option linter.unusedVariables false
set_option maxHeartbeats 4000000 in
set_option maxRecDepth 1000000 in
theorem Any.IndexRune_high (L:Lays.n152 P ρ) (r:Int) (w:World) (h1:128≤r) (h2:r≠65533) :
  Calls P (ρ.f 152) #[.string sl0,.int .i32 r] w fun e w'=>e=.returned (.int .i64 (-1))∧Below w.heap.size w w':=by
 have t3:=L.t3;have a3:=L.a3;have z3:=L.z3;have v3:=L.v3
 have t4:=L.t4;have a4:=L.a4;have z4:=L.z4;have v4:=L.v4
 have t5:=L.t5;have a5:=L.a5;have z5:=L.z5;have v5:=L.v5
 have t9:=L.t9;have a9:=L.a9;have z9:=L.z9;have v9:=L.v9
 have t21:=L.t21;have a21:=L.a21;have z21:=L.z21;have v21:=L.v21
 have e119:∀ args w,(callFunc (ρ.f 119) args).run P w=.ok (.enter (ρ.f 119) args) w:=enters_of L.f119 (by kernel_rfl) rfl
 have e137:∀ args w,(callFunc (ρ.f 137) args).run P w=.ok (.enter (ρ.f 137) args) w:=enters_of L.f137 (by kernel_rfl) rfl
 have hne:(r==65533)=false:=beq_eq_false_iff_ne.2 h2
 have hlt:¬ r < 128:=by omega
 cases hv:Lib.validRune r
 ·go_enter L.f152,Body.n152_ntmps ρ
  go_wp2_with (go_at_fn (ρ.f 119);refine (Any.utf8_ValidRune { L with } _ _).mono ?_;rintro e w' ⟨rfl,hw⟩;rw[hw,hv])
  go_ret
  exact⟨rfl,Below.refl _ _⟩
 ·obtain⟨hs2,hl,hb⟩:=qhj h1
  have hs4:(Utf8.encode r).size≤4:=by
   unfold Utf8.encode
   simp only
   repeat' split
   all_goals simp[ByteArray.size]
  have hsz:(sl0.size:Int)=2:=rfl
  rcases Nat.lt_or_ge 2 (Utf8.encode r).size with h3|h3
  ·have hz:decide (((Utf8.encode r).size:Int) - 1 < (sl0.size:Int))=false:=decide_eq_false (by rw[hsz];omega)
   go_enter L.f152,Body.n152_ntmps ρ
   go_wp2_with (go_at_fn (ρ.f 119);refine (Any.utf8_ValidRune { L with } _ _).mono ?_;rintro e w' ⟨rfl,hw⟩;rw[hw,hv])
   refine wp_scope_straight ?_
   go_wp2
   go_loopg [9] 0 (fun g s9 wx=>s9=.int .i64 (((Utf8.encode r).size:Int) - 1)∧wx=w)
   case atStart=>exact⟨rfl,rfl⟩
   case round =>
    obtain⟨rfl,rfl⟩:=hrel
    go_wp2
    simp only[Exit.noGoto]
    go_ret
    exact⟨rfl,Below.refl _ _⟩
  ·have h4:(Utf8.encode r).size=2:=by omega
   have mixed:=L.mixed
   have hib:∀ c:UInt8,Lib.indexByte (sl0.extract 2 2).data.toList c=-1:=fun c=>rfl
   obtain⟨x,hx⟩:∃ x:UInt8,(Utf8.encode r)[1]'(by omega)=x:=⟨_,rfl⟩
   have hxb:128≤x.toNat:=by
    rw[← hx]
    have e1:(Utf8.encode r).size - 1=1:=by omega
    simpa only[e1] using hb
   have hy:sl0[1]'(by decide)=0:=rfl
   have hnx:((0:Int) != (x.toNat:Int))=true:=bne_iff_ne.2 (by omega)
   go_enter L.f152,Body.n152_ntmps ρ
   go_wp2_with (go_at_fn (ρ.f 119);refine (Any.utf8_ValidRune { L with } _ _).mono ?_;rintro e w' ⟨rfl,hw⟩;rw[hw,hv])
   refine wp_scope_straight ?_
   go_wp2
   go_loopg [9] 0 (fun g s9 wx=>s9=.int .i64 1∧wx=w)
   case atStart=>exact⟨rfl,rfl⟩
   case round =>
    obtain⟨rfl,rfl⟩:=hrel
    go_wp2
    refine wp_scope_straight ?_
    go_wp2
    go_region_o
    all_goals go_wp2
    all_goals go_region_with_o (go_at_fn (ρ.f 137);refine (Any.strings_IndexByte { L with } _ _ _).mono ?_;rintro e w' ⟨rfl,hw⟩;rw[hw])
    all_goals go_wp2
    all_goals (simp only[Exit.noGoto,Exit.inBlock,Exit.then];go_ret;exact⟨rfl,(Below.refl _ _).drew.drew⟩)
end Go.Proofs
namespace Go.Proofs
open Go.Shelf Go.RowKit Go.Lib
variable {P:Program} {ρ:Ren}
set_option linter.unusedVariables false
theorem qfe (s:ByteArray) (i:Nat) (h:i < s.size) (ha:128≤(s[i]'h).toNat):i+(Utf8.decode s i).2≤s.size∧∀ j,j < (Utf8.decode s i).2→128≤(s.get! (i+j)).toNat:=by
 have h0:128≤(s.get! (i+0)).toNat:=by rw[get_at s i h];exact ha
 simp only[Utf8.decode]
 repeat' split
 all_goals simp only[Bool.and_eq_true,decide_eq_true_eq,beq_iff_eq] at *
 all_goals refine⟨by omega,fun j hj=>?_⟩
 all_goals
  have hj4:j=0∨j=1∨j=2∨j=3:=by omega
  rcases hj4 with rfl|rfl|rfl|rfl <;> omega
theorem qq4 (s:ByteArray) (i:Nat) {b:UInt8} (h:s.data.toList[i]?=some b):s.get! i=b:=by
 obtain⟨hi,e⟩:=List.getElem?_eq_some_iff.mp h
 have hi':i < s.size:=by rw[Lib.size_eq];exact hi
 have:=Lib.data_getElem? s i hi'
 rw[h] at this
 rw[Option.some.inj this]
 have:=get_at s i hi'
 rw[Nat.add_zero] at this
 exact this
theorem qj9 {s:ByteArray} {i n:Nat} (h:Lib.NoAny s.data.toList [47,0] i) (hc:∀ j,j < n→128≤(s.get! (i+j)).toNat):Lib.NoAny s.data.toList [47,0] (i+n):=by
 intro j b hj hb
 rcases Nat.lt_or_ge j i with hlt|hge
 ·exact h j b hlt hb
 ·have:=hc (j - i) (by omega)
  rw[show i+(j - i)=j by omega,qq4 s j hb] at this
  have n1:(b==47)=false:=beq_eq_false_iff_ne.2 (fun e=>by rw[e] at this;exact absurd this (by decide))
  have n2:(b==0)=false:=beq_eq_false_iff_ne.2 (fun e=>by rw[e] at this;exact absurd this (by decide))
  simp only[List.contains,List.elem,n1,n2]
set_option maxHeartbeats 8000000 in
set_option maxRecDepth 1000000 in
theorem Any.IndexAny_short_sl (L:Lays.n153 P ρ) (s:ByteArray) (w:World) (h8:s.size≤8) :
  Calls P (ρ.f 153) #[.string s,.string sl0] w fun e w'=>e=.returned (.int .i64 (Lib.indexAny s.data.toList [47,0]))∧Below w.heap.size w w':=by
 have hemp:sl0.toList.isEmpty=false:=by rw[Lib.toList_data];rfl
 have hn1:((sl0.size:Int)==1)=false:=rfl
 have h8z:decide ((8:Int) < (s.size:Int))=false:=decide_eq_false (by omega)
 have t3:=L.t3;have a3:=L.a3;have z3:=L.z3;have v3:=L.v3
 have t4:=L.t4;have a4:=L.a4;have z4:=L.z4;have v4:=L.v4
 have t5:=L.t5;have a5:=L.a5;have z5:=L.z5;have v5:=L.v5
 have t9:=L.t9;have a9:=L.a9;have z9:=L.z9;have v9:=L.v9
 have t21:=L.t21;have a21:=L.a21;have z21:=L.z21;have v21:=L.v21
 have e152:∀ args w,(callFunc (ρ.f 152) args).run P w=.ok (.enter (ρ.f 152) args) w:=enters_of L.f152 (by kernel_rfl) rfl
 have e226:∀ args w,(callFunc (ρ.f 226) args).run P w=.ok (.enter (ρ.f 226) args) w:=enters_of L.f226 (by kernel_rfl) rfl
 go_enter L.f153,Body.n153_ntmps ρ
 go_wp2_with (go_at_fn (ρ.f 226);refine (Any.strings_shouldUseASCIISet { L with } _ _).mono ?_;rintro e w' ⟨rfl,hw⟩;rw[hw,h8z])
 go_loopg [9,10] s.size (fun g _ _ wx=>∃ i:Nat,i+g=s.size∧wx.heap[w.heap.size]?=some (.stringIter s i)∧Below w.heap.size w wx∧Lib.NoAny s.data.toList [47,0] i)
 case atStart=>exact⟨0,by omega,by simp[World.iter_heap],(Below.refl _ _).alloc (Nat.le_refl _) _,Lib.NoAny.zero _ _⟩
 case round =>
  obtain⟨i,hig,hit,hB,hno⟩:=hrel
  have HN:Aside (Lib.NoAny s.data.toList [47,0] i):=hno
  clear hno
  have HB:Aside (Below w.heap.size w wr):=hB
  clear hB
  have hks:w.heap.size < wr.heap.size:=(Array.getElem?_eq_some_iff.1 hit).1
  cases gk with
  | zero =>
   obtain rfl:i=s.size:=by omega
   have hnx:∀ ty,(Instr.next (.pointer (some ⟨w.heap.size,0,none⟩)) true ty).run P wr=_:=fun ty=>Lib.run_next_end_at wr w.heap.size s s.size ty hit (by omega)
   go_wp2
   go_ret
   exact⟨by rw[Lib.indexAny_none (by rw[← Lib.size_eq];exact HN.out)];rfl,HB.out⟩
  | succ g =>
   have hi:i < s.size:=by omega
   obtain⟨x,hx⟩:∃ x:UInt8,s[i]'hi=x:=⟨_,rfl⟩
   have hxl:s.data.toList[i]?=some x:=by rw[← hx];exact Lib.data_getElem? s i hi
   have Hx:Aside (s.data.toList[i]?=some x):=hxl
   clear hxl
   rcases Nat.lt_or_ge x.toNat 128 with h128|h128
   ·have hnx:∀ ty,(Instr.next (.pointer (some ⟨w.heap.size,0,none⟩)) true ty).run P wr=.ok (.tuple #[.bool true,.int .i64 i,.int .i32 (x.toNat:Int)]) (wr.iterAt w.heap.size s (i+1)):=fun ty=>by
     rw[Lib.run_next_ascii_at wr w.heap.size s i ty hit hi (by rw[hx];exact h128),hx]
    have hit':=Lib.iterAt_heap wr w.heap.size s i (i+1) hit
    have hcon:=Lib.contains_iff_indexByte sl0.data.toList x
    have hback:((x.toNat:Int)).toNat.toUInt8=x:=by simp
    have HB':Aside (Below w.heap.size w (wr.iterAt w.heap.size s (i+1))):=Lib.below_iterAt HB.out (Nat.le_refl _) _ _
    cases hin:sl0.data.toList.contains x
    ·rw[hin] at hcon
     have hlt:¬ ((0:Int)≤Lib.indexByte sl0.data.toList x):=of_decide_eq_false hcon.symm
     clear hcon
     go_wp2_with (go_at_fn (ρ.f 152);refine (Any.strings_IndexRune_ascii { L with } _ _ _ (by omega) (by omega)).mono ?_;rintro e w' ⟨rfl,hw⟩;rw[hw,hback])
     go_roundg g
     case measure=>omega
     case rel=>exact⟨i+1,by omega,hit',HB'.out,HN.out.succ Hx.out hin⟩
    ·rw[hin] at hcon
     have hge:(0:Int)≤Lib.indexByte sl0.data.toList x:=of_decide_eq_true hcon.symm
     clear hcon
     go_wp2_with (go_at_fn (ρ.f 152);refine (Any.strings_IndexRune_ascii { L with } _ _ _ (by omega) (by omega)).mono ?_;rintro e w' ⟨rfl,hw⟩;rw[hw,hback])
     go_ret
     exact⟨by rw[Lib.indexAny_hit HN.out Hx.out hin];rfl,HB'.out⟩
   ·have hx':128≤(s[i]'hi).toNat:=by rw[hx];exact h128
    obtain⟨hc1,hc2⟩:=qfe s i hi hx'
    obtain⟨hd1,hd2⟩:=decode_high s i hi hx'
    have HC:Aside (∀ j,j < (Utf8.decode s i).2→128≤(s.get! (i+j)).toNat):=hc2
    clear hc2
    have hnx:∀ ty,(Instr.next (.pointer (some ⟨w.heap.size,0,none⟩)) true ty).run P wr=.ok (.tuple #[.bool true,.int .i64 i,.int .i32 ((Utf8.decode s i).1:Int)]) (wr.iterAt w.heap.size s (i+(Utf8.decode s i).2)):=fun ty=>Lib.run_next_any_at wr w.heap.size s i ty hit hi
    have hit':=Lib.iterAt_heap wr w.heap.size s i (i+(Utf8.decode s i).2) hit
    have HB':Aside (Below w.heap.size w (wr.iterAt w.heap.size s (i+(Utf8.decode s i).2))):=Lib.below_iterAt HB.out (Nat.le_refl _) _ _
    have hsz':(wr.iterAt w.heap.size s (i+(Utf8.decode s i).2)).heap.size=wr.heap.size:=Lib.iterAt_size _ _ _ _
    have hR:∀ w2:World,Calls P (ρ.f 152) #[.string sl0,.int .i32 ((Utf8.decode s i).1:Int)] w2 fun e w'=>e=.returned (.int .i64 (-1))∧Below w2.heap.size w2 w':=fun w2=>by
     by_cases he:(Utf8.decode s i).1=65533
     ·rw[he]
      exact (Any.IndexRune_err { L with } w2).mono fun e w' ⟨h1,h2⟩=>⟨h1,by rw[h2];exact (Below.refl _ _).alloc (Nat.le_refl _) _⟩
     ·exact Any.IndexRune_high { L with } _ w2 (by omega) (by omega)
    have HR:Aside (∀ w2:World,Calls P (ρ.f 152) #[.string sl0,.int .i32 ((Utf8.decode s i).1:Int)] w2 fun e w'=>e=.returned (.int .i64 (-1))∧Below w2.heap.size w2 w'):=hR
    clear hR
    generalize hww:wr.iterAt w.heap.size s (i+(Utf8.decode s i).2)=wq at hnx hit' HB' hsz'
    go_wp2_with (go_at_fn (ρ.f 152);refine (HR.out _).mono ?_;rintro e w' ⟨rfl,hw⟩)
    go_roundg (s.size - (i+(Utf8.decode s i).2))
    case measure=>omega
    case rel=>exact⟨i+(Utf8.decode s i).2,by omega,by rw[hw.block _ (by omega)];exact hit',HB'.out.trans (hw.mono (by omega)),qj9 HN.out HC.out⟩
theorem Any.IndexAny_sl (L:Lays.n153 P ρ) (hv116:∀ w,(zeroValue (ρ.t 116)).run P w=.ok (.agg (Array.replicate 256 (.bool false))) w) (hi116:(P.info? (ρ.t 116)).map (·.size)=some 256) (s:ByteArray) (w:World) (hs:s.size < 4294967281) :
  Calls P (ρ.f 153) #[.string s,.string sl0] w fun e w'=>e=.returned (.int .i64 (Lib.indexAny s.data.toList sl0.data.toList))∧Below w.heap.size w w':=by
 by_cases h8:s.size≤8
 ·exact Any.IndexAny_short_sl L s w h8
 ·refine (Any.strings_IndexAny_long L hv116 hi116 s sl0 w (by decide) (by omega) hs (by decide) (fun j b hb=>?_)).mono fun e w' ⟨h1,h2⟩=>⟨h1,?_⟩
  ·have:b∈sl0.data.toList:=List.mem_of_getElem? hb
   have hm:b=47∨b=0:=by simpa [sl0] using this
   rcases hm with rfl|rfl <;> decide
  ·rw[h2]
   exact ((Below.refl _ _).alloc (Nat.le_refl _) _).alloc (by simp) _
set_option maxHeartbeats 1000000 in
theorem Any.ContainsAny_sl (L:Lays.n150 P ρ) (h116:(P.info? (ρ.t 116)).map (fun i=>(i.zero,i.size))=some (some (.agg (Array.replicate 256 (.bool false))),256)) (s:ByteArray) (w:World) (hs:s.size < 4294967281) :
  Calls P (ρ.f 150) #[.string s,.string sl0] w fun e w'=>e=.returned (.bool (Lib.containsAny s.data.toList sl0.data.toList))∧Below w.heap.size w w':=by
 have c:=Any.IndexAny_sl { L with } (zero_of_info h116).1 (zero_of_info h116).2 s w hs
 have t3:=L.t3;have a3:=L.a3;have z3:=L.z3;have v3:=L.v3
 have t4:=L.t4;have a4:=L.a4;have z4:=L.z4;have v4:=L.v4
 have t9:=L.t9;have a9:=L.a9;have z9:=L.z9;have v9:=L.v9
 have e153:∀ args w,(callFunc (ρ.f 153) args).run P w=.ok (.enter (ρ.f 153) args) w:=enters_of L.f153 (by kernel_rfl) rfl
 go_enter L.f150,Body.n150_ntmps ρ
 go_wp2_with (go_at_fn (ρ.f 153);refine c.mono ?_;rintro e w' ⟨rfl,hw⟩)
 go_ret
 exact⟨rfl,hw⟩
#print axioms Any.ContainsAny_sl
end Go.Proofs
namespace Go.Proofs
open Go.Shelf
def Tryz.lays156_ren:Go.Shelf.Ren:=⟨fun|156=>149|165=>157|166=>158|169=>160|240=>177|241=>178|276=>206|277=>207|n=>n,fun|31=>36|9=>9|3=>3|4=>4|0=>0|20=>20|72=>193|76=>197|70=>191|37=>68|75=>196|127=>213|164=>230|5=>5|80=>154|n=>n,fun|n=>n⟩
theorem Tryz.lays156:Go.Proofs.Lays.n156 Tryz.prog Tryz.lays156_ren:={
 mixed:=by kernel_rfl
 f156:=Tryz.func149.trans (congrArg some (by kernel_rfl))
 f165:=Tryz.func157.trans (congrArg some (by kernel_rfl))
 f166:=Tryz.func158.trans (congrArg some (by kernel_rfl))
 f169:=Tryz.func160.trans (congrArg some (by kernel_rfl))
 f240:=Tryz.func177.trans (congrArg some (by kernel_rfl))
 f241:=Tryz.func178.trans (congrArg some (by kernel_rfl))
 f276:=Tryz.func206.trans (congrArg some (by kernel_rfl))
 f277:=Tryz.func207.trans (congrArg some (by kernel_rfl))
 t0:=Tryz.underlying0
 a0:=Tryz.isAgg0
 z0:=Tryz.sizeOf0
 v0:=Tryz.zeroValue0
 t3:=Tryz.underlying3
 a3:=Tryz.isAgg3
 z3:=Tryz.sizeOf3
 v3:=Tryz.zeroValue3
 t4:=Tryz.underlying4
 a4:=Tryz.isAgg4
 z4:=Tryz.sizeOf4
 v4:=Tryz.zeroValue4
 t9:=Tryz.underlying9
 a9:=Tryz.isAgg9
 z9:=Tryz.sizeOf9
 v9:=Tryz.zeroValue9
 t20:=Tryz.underlying20
 a20:=Tryz.isAgg20
 z20:=Tryz.sizeOf20
 v20:=Tryz.zeroValue20
 t31:=Tryz.underlying36
 a31:=Tryz.isAgg36
 z31:=Tryz.sizeOf36
 v31:=Tryz.zeroValue36
 t37:=Tryz.underlying68
 a37:=Tryz.isAgg68
 z37:=Tryz.sizeOf68
 v37:=Tryz.zeroValue68
 t70:=Tryz.underlying191
 a70:=Tryz.isAgg191
 z70:=Tryz.sizeOf191
 v70:=Tryz.zeroValue191
 t72:=Tryz.underlying193
 a72:=Tryz.isAgg193
 z72:=Tryz.sizeOf193
 v72:=Tryz.zeroValue193
 t75:=Tryz.underlying196
 a75:=Tryz.isAgg196
 z75:=Tryz.sizeOf196
 v75:=Tryz.zeroValue196
 t76:=Tryz.underlying197
 a76:=Tryz.isAgg197
 z76:=Tryz.sizeOf197
 v76:=Tryz.zeroValue197
 t127:=Tryz.underlying213
 a127:=Tryz.isAgg213
 z127:=Tryz.sizeOf213
 v127:=Tryz.zeroValue213
 t164:=Tryz.underlying230
 a164:=Tryz.isAgg230
 z164:=Tryz.sizeOf230
 v164:=Tryz.zeroValue230 }
theorem Tryz.Builder_Extra_156:Builder.Extra Tryz.prog Tryz.lays156_ren:={
 sizeBuilder:=by kernel_rfl
 liesBuilder:=by kernel_rfl
 t5:=Tryz.underlying5
 a5:=Tryz.isAgg5
 z5:=Tryz.sizeOf5
 v5:=Tryz.zeroValue5
 infoByte:=by kernel_rfl
 cellsByte:=by kernel_rfl
 sizeByte:=by kernel_rfl
 neB5:=by decide }
def Tryz.lays105_ren:Go.Shelf.Ren:=⟨fun|105=>136|212=>155|99=>156|165=>157|166=>158|170=>159|169=>160|263=>175|264=>176|206=>150|240=>177|241=>178|276=>206|277=>207|n=>n,fun|9=>9|3=>3|4=>4|20=>20|0=>0|46=>35|109=>189|5=>5|72=>193|76=>197|51=>207|146=>208|53=>210|148=>211|70=>191|37=>68|75=>196|127=>213|164=>230|80=>154|n=>n,fun|n=>n⟩
theorem Tryz.lays105:Go.Proofs.Lays.n105 Tryz.prog Tryz.lays105_ren:={
 mixed:=by kernel_rfl
 f99:=Tryz.func156.trans (congrArg some (by kernel_rfl))
 f105:=Tryz.func136.trans (congrArg some (by kernel_rfl))
 f165:=Tryz.func157.trans (congrArg some (by kernel_rfl))
 f166:=Tryz.func158.trans (congrArg some (by kernel_rfl))
 f169:=Tryz.func160.trans (congrArg some (by kernel_rfl))
 f170:=Tryz.func159.trans (congrArg some (by kernel_rfl))
 f206:=Tryz.func150.trans (congrArg some (by kernel_rfl))
 f212:=Tryz.func155.trans (congrArg some (by kernel_rfl))
 f240:=Tryz.func177.trans (congrArg some (by kernel_rfl))
 f241:=Tryz.func178.trans (congrArg some (by kernel_rfl))
 f263:=Tryz.func175.trans (congrArg some (by kernel_rfl))
 f264:=Tryz.func176.trans (congrArg some (by kernel_rfl))
 f276:=Tryz.func206.trans (congrArg some (by kernel_rfl))
 f277:=Tryz.func207.trans (congrArg some (by kernel_rfl))
 t0:=Tryz.underlying0
 a0:=Tryz.isAgg0
 z0:=Tryz.sizeOf0
 v0:=Tryz.zeroValue0
 t3:=Tryz.underlying3
 a3:=Tryz.isAgg3
 z3:=Tryz.sizeOf3
 v3:=Tryz.zeroValue3
 t4:=Tryz.underlying4
 a4:=Tryz.isAgg4
 z4:=Tryz.sizeOf4
 v4:=Tryz.zeroValue4
 t5:=Tryz.underlying5
 a5:=Tryz.isAgg5
 z5:=Tryz.sizeOf5
 v5:=Tryz.zeroValue5
 t9:=Tryz.underlying9
 a9:=Tryz.isAgg9
 z9:=Tryz.sizeOf9
 v9:=Tryz.zeroValue9
 t20:=Tryz.underlying20
 a20:=Tryz.isAgg20
 z20:=Tryz.sizeOf20
 v20:=Tryz.zeroValue20
 t37:=Tryz.underlying68
 a37:=Tryz.isAgg68
 z37:=Tryz.sizeOf68
 v37:=Tryz.zeroValue68
 t46:=Tryz.underlying35
 a46:=Tryz.isAgg35
 z46:=Tryz.sizeOf35
 v46:=Tryz.zeroValue35
 t51:=Tryz.underlying207
 a51:=Tryz.isAgg207
 z51:=Tryz.sizeOf207
 v51:=Tryz.zeroValue207
 t53:=Tryz.underlying210
 a53:=Tryz.isAgg210
 z53:=Tryz.sizeOf210
 v53:=Tryz.zeroValue210
 t70:=Tryz.underlying191
 a70:=Tryz.isAgg191
 z70:=Tryz.sizeOf191
 v70:=Tryz.zeroValue191
 t72:=Tryz.underlying193
 a72:=Tryz.isAgg193
 z72:=Tryz.sizeOf193
 v72:=Tryz.zeroValue193
 t75:=Tryz.underlying196
 a75:=Tryz.isAgg196
 z75:=Tryz.sizeOf196
 v75:=Tryz.zeroValue196
 t76:=Tryz.underlying197
 a76:=Tryz.isAgg197
 z76:=Tryz.sizeOf197
 v76:=Tryz.zeroValue197
 t109:=Tryz.underlying189
 a109:=Tryz.isAgg189
 z109:=Tryz.sizeOf189
 v109:=Tryz.zeroValue189
 t127:=Tryz.underlying213
 a127:=Tryz.isAgg213
 z127:=Tryz.sizeOf213
 v127:=Tryz.zeroValue213
 t146:=Tryz.underlying208
 a146:=Tryz.isAgg208
 z146:=Tryz.sizeOf208
 v146:=Tryz.zeroValue208
 t148:=Tryz.underlying211
 a148:=Tryz.isAgg211
 z148:=Tryz.sizeOf211
 v148:=Tryz.zeroValue211
 t164:=Tryz.underlying230
 a164:=Tryz.isAgg230
 z164:=Tryz.sizeOf230
 v164:=Tryz.zeroValue230 }
theorem Tryz.Builder_Extra_105:Builder.Extra Tryz.prog Tryz.lays105_ren:={
 sizeBuilder:=by kernel_rfl
 liesBuilder:=by kernel_rfl
 t5:=Tryz.underlying5
 a5:=Tryz.isAgg5
 z5:=Tryz.sizeOf5
 v5:=Tryz.zeroValue5
 infoByte:=by kernel_rfl
 cellsByte:=by kernel_rfl
 sizeByte:=by kernel_rfl
 neB5:=by decide }
def Tryz.lays150_ren:Go.Shelf.Ren:=⟨fun|150=>171|153=>192|152=>213|226=>214|227=>215|228=>216|137=>223|119=>224|224=>204|225=>203|217=>202|266=>220|n=>n,fun|9=>9|4=>4|3=>3|5=>5|21=>21|117=>242|116=>241|0=>0|46=>35|124=>251|n=>n,fun|n=>n⟩
theorem Tryz.lays150:Go.Proofs.Lays.n150 Tryz.prog Tryz.lays150_ren:={
 mixed:=by kernel_rfl
 f119:=Tryz.func224.trans (congrArg some (by kernel_rfl))
 f137:=Tryz.func223.trans (congrArg some (by kernel_rfl))
 f150:=Tryz.func171.trans (congrArg some (by kernel_rfl))
 f152:=Tryz.func213.trans (congrArg some (by kernel_rfl))
 f153:=Tryz.func192.trans (congrArg some (by kernel_rfl))
 f217:=Tryz.func202.trans (congrArg some (by kernel_rfl))
 f224:=Tryz.func204.trans (congrArg some (by kernel_rfl))
 f225:=Tryz.func203.trans (congrArg some (by kernel_rfl))
 f226:=Tryz.func214.trans (congrArg some (by kernel_rfl))
 f227:=Tryz.func215.trans (congrArg some (by kernel_rfl))
 f228:=Tryz.func216.trans (congrArg some (by kernel_rfl))
 f266:=Tryz.func220.trans (congrArg some (by kernel_rfl))
 t0:=Tryz.underlying0
 a0:=Tryz.isAgg0
 z0:=Tryz.sizeOf0
 v0:=Tryz.zeroValue0
 t3:=Tryz.underlying3
 a3:=Tryz.isAgg3
 z3:=Tryz.sizeOf3
 v3:=Tryz.zeroValue3
 t4:=Tryz.underlying4
 a4:=Tryz.isAgg4
 z4:=Tryz.sizeOf4
 v4:=Tryz.zeroValue4
 t5:=Tryz.underlying5
 a5:=Tryz.isAgg5
 z5:=Tryz.sizeOf5
 v5:=Tryz.zeroValue5
 t9:=Tryz.underlying9
 a9:=Tryz.isAgg9
 z9:=Tryz.sizeOf9
 v9:=Tryz.zeroValue9
 t21:=Tryz.underlying21
 a21:=Tryz.isAgg21
 z21:=Tryz.sizeOf21
 v21:=Tryz.zeroValue21
 t46:=Tryz.underlying35
 a46:=Tryz.isAgg35
 z46:=Tryz.sizeOf35
 v46:=Tryz.zeroValue35
 t116:=Tryz.underlying241
 a116:=Tryz.isAgg241
 z116:=Tryz.sizeOf241
 t117:=Tryz.underlying242
 a117:=Tryz.isAgg242
 z117:=Tryz.sizeOf242
 v117:=Tryz.zeroValue242
 t124:=Tryz.underlying251
 a124:=Tryz.isAgg251
 z124:=Tryz.sizeOf251
 v124:=Tryz.zeroValue251 }
def Tryz.keys121_ren:Go.Shelf.Ren:=⟨fun|7=>134|10=>153|n=>n,fun|23=>115|26=>9|3=>112|28=>174|0=>0|27=>173|33=>127|4=>4|n=>n,fun|n=>n⟩
theorem Tryz.keys121:Go.Proofs.SlLaysZ.n7 Tryz.prog Tryz.keys121_ren:={
 mixed:=by kernel_rfl
 f7:=⟨Tryz.f134.name,by decide,Tryz.func134.trans (congrArg some (by kernel_rfl))⟩
 f10:=⟨Tryz.f153.name,by decide,Tryz.func153.trans (congrArg some (by kernel_rfl))⟩
 t0:=Tryz.underlying0
 a0:=Tryz.isAgg0
 z0:=Tryz.sizeOf0
 v0:=Tryz.zeroValue0
 t4:=Tryz.underlying4
 a4:=Tryz.isAgg4
 z4:=Tryz.sizeOf4
 v4:=Tryz.zeroValue4
 t23:=Tryz.underlying115
 a23:=Tryz.isAgg115
 z23:=Tryz.sizeOf115
 v23:=Tryz.zeroValue115
 t26:=Tryz.underlying9
 a26:=Tryz.isAgg9
 z26:=Tryz.sizeOf9
 v26:=Tryz.zeroValue9
 t27:=Tryz.underlying173
 a27:=Tryz.isAgg173
 z27:=Tryz.sizeOf173
 v27:=Tryz.zeroValue173
 t28:=Tryz.underlying174
 a28:=Tryz.isAgg174
 z28:=Tryz.sizeOf174
 v28:=Tryz.zeroValue174
 t33:=Tryz.underlying127
 a33:=Tryz.isAgg127
 z33:=Tryz.sizeOf127
 v33:=Tryz.zeroValue127 }
def Tryz.sorted120_ren:Go.Shelf.Ren:=⟨fun|6=>133|8=>151|9=>152|11=>172|13=>170|12=>173|23=>190|24=>191|14=>193|15=>194|16=>195|17=>196|18=>197|19=>198|20=>199|21=>200|22=>201|25=>217|26=>209|27=>210|28=>218|29=>219|30=>180|31=>225|n=>n,fun|26=>9|28=>174|24=>36|0=>0|3=>3|37=>35|48=>207|50=>210|4=>4|40=>216|39=>215|45=>220|5=>5|9=>9|51=>233|55=>237|57=>248|58=>87|33=>127|n=>n,fun|n=>n⟩
theorem Tryz.sorted120:Go.Proofs.SlLaysZ.n6 Tryz.prog Tryz.sorted120_ren:={
 mixed:=by kernel_rfl
 f6:=⟨Tryz.f133.name,by decide,Tryz.func133.trans (congrArg some (by kernel_rfl))⟩
 f8:=⟨Tryz.f151.name,by decide,Tryz.func151.trans (congrArg some (by kernel_rfl))⟩
 f11:=⟨Tryz.f172.name,by decide,Tryz.func172.trans (congrArg some (by kernel_rfl))⟩
 t0:=Tryz.underlying0
 a0:=Tryz.isAgg0
 z0:=Tryz.sizeOf0
 v0:=Tryz.zeroValue0
 t24:=Tryz.underlying36
 a24:=Tryz.isAgg36
 z24:=Tryz.sizeOf36
 v24:=Tryz.zeroValue36
 t26:=Tryz.underlying9
 a26:=Tryz.isAgg9
 z26:=Tryz.sizeOf9
 v26:=Tryz.zeroValue9
 t28:=Tryz.underlying174
 a28:=Tryz.isAgg174
 z28:=Tryz.sizeOf174
 v28:=Tryz.zeroValue174
 i26:=by kernel_rfl }
def Tryz.sort133_ren:Go.Shelf.Ren:=⟨fun|6=>152|8=>170|9=>173|19=>190|20=>191|21=>193|22=>194|23=>195|24=>196|25=>197|26=>198|27=>199|28=>200|29=>201|36=>217|31=>209|32=>210|37=>218|38=>219|39=>180|41=>225|n=>n,fun|27=>36|29=>9|3=>3|32=>35|26=>36|0=>0|44=>207|46=>210|4=>4|36=>216|35=>215|41=>220|5=>5|9=>9|53=>233|57=>237|63=>248|64=>87|n=>n,fun|n=>n⟩
theorem Tryz.sort133:Go.Proofs.SlLaysM.n6 Tryz.prog Tryz.sort133_ren:={
 mixed:=by kernel_rfl
 f6:=⟨Tryz.f152.name,by decide,Tryz.func152.trans (congrArg some (by kernel_rfl))⟩
 f8:=Tryz.func170.trans (congrArg some (by kernel_rfl))
 f9:=⟨Tryz.f173.name,by decide,Tryz.func173.trans (congrArg some (by kernel_rfl))⟩
 f19:=Tryz.func190.trans (congrArg some (by kernel_rfl))
 f20:=Tryz.func191.trans (congrArg some (by kernel_rfl))
 f21:=⟨Tryz.f193.name,by decide,Tryz.func193.trans (congrArg some (by kernel_rfl))⟩
 f22:=⟨Tryz.f194.name,by decide,Tryz.func194.trans (congrArg some (by kernel_rfl))⟩
 f23:=⟨Tryz.f195.name,by decide,Tryz.func195.trans (congrArg some (by kernel_rfl))⟩
 f24:=⟨Tryz.f196.name,by decide,Tryz.func196.trans (congrArg some (by kernel_rfl))⟩
 f25:=⟨Tryz.f197.name,by decide,Tryz.func197.trans (congrArg some (by kernel_rfl))⟩
 f26:=⟨Tryz.f198.name,by decide,Tryz.func198.trans (congrArg some (by kernel_rfl))⟩
 f27:=⟨Tryz.f199.name,by decide,Tryz.func199.trans (congrArg some (by kernel_rfl))⟩
 f28:=⟨Tryz.f200.name,by decide,Tryz.func200.trans (congrArg some (by kernel_rfl))⟩
 f29:=⟨Tryz.f201.name,by decide,Tryz.func201.trans (congrArg some (by kernel_rfl))⟩
 f31:=Tryz.func209.trans (congrArg some (by kernel_rfl))
 f32:=Tryz.func210.trans (congrArg some (by kernel_rfl))
 f36:=⟨Tryz.f217.name,by decide,Tryz.func217.trans (congrArg some (by kernel_rfl))⟩
 f37:=⟨Tryz.f218.name,by decide,Tryz.func218.trans (congrArg some (by kernel_rfl))⟩
 f38:=⟨Tryz.f219.name,by decide,Tryz.func219.trans (congrArg some (by kernel_rfl))⟩
 f39:=⟨Tryz.f180.name,by decide,Tryz.func180.trans (congrArg some (by kernel_rfl))⟩
 f41:=⟨Tryz.f225.name,by decide,Tryz.func225.trans (congrArg some (by kernel_rfl))⟩
 t0:=Tryz.underlying0
 a0:=Tryz.isAgg0
 z0:=Tryz.sizeOf0
 v0:=Tryz.zeroValue0
 t3:=Tryz.underlying3
 a3:=Tryz.isAgg3
 z3:=Tryz.sizeOf3
 v3:=Tryz.zeroValue3
 t4:=Tryz.underlying4
 a4:=Tryz.isAgg4
 z4:=Tryz.sizeOf4
 v4:=Tryz.zeroValue4
 t5:=Tryz.underlying5
 a5:=Tryz.isAgg5
 z5:=Tryz.sizeOf5
 v5:=Tryz.zeroValue5
 t9:=Tryz.underlying9
 a9:=Tryz.isAgg9
 z9:=Tryz.sizeOf9
 v9:=Tryz.zeroValue9
 t26:=Tryz.underlying36
 a26:=Tryz.isAgg36
 z26:=Tryz.sizeOf36
 v26:=Tryz.zeroValue36
 t27:=Tryz.underlying36
 a27:=Tryz.isAgg36
 z27:=Tryz.sizeOf36
 v27:=Tryz.zeroValue36
 t29:=Tryz.underlying9
 a29:=Tryz.isAgg9
 z29:=Tryz.sizeOf9
 v29:=Tryz.zeroValue9
 t32:=Tryz.underlying35
 a32:=Tryz.isAgg35
 z32:=Tryz.sizeOf35
 v32:=Tryz.zeroValue35
 t35:=Tryz.underlying215
 a35:=Tryz.isAgg215
 z35:=Tryz.sizeOf215
 v35:=Tryz.zeroValue215
 t36:=Tryz.underlying216
 a36:=Tryz.isAgg216
 z36:=Tryz.sizeOf216
 v36:=Tryz.zeroValue216
 t41:=Tryz.underlying220
 a41:=Tryz.isAgg220
 z41:=Tryz.sizeOf220
 v41:=Tryz.zeroValue220
 t44:=Tryz.underlying207
 a44:=Tryz.isAgg207
 z44:=Tryz.sizeOf207
 v44:=Tryz.zeroValue207
 t46:=Tryz.underlying210
 a46:=Tryz.isAgg210
 z46:=Tryz.sizeOf210
 v46:=Tryz.zeroValue210
 t53:=Tryz.underlying233
 a53:=Tryz.isAgg233
 z53:=Tryz.sizeOf233
 v53:=Tryz.zeroValue233
 t57:=Tryz.underlying237
 a57:=Tryz.isAgg237
 z57:=Tryz.sizeOf237
 v57:=Tryz.zeroValue237
 t63:=Tryz.underlying248
 a63:=Tryz.isAgg248
 z63:=Tryz.sizeOf248
 v63:=Tryz.zeroValue248
 t64:=Tryz.underlying87
 a64:=Tryz.isAgg87
 z64:=Tryz.sizeOf87
 v64:=Tryz.zeroValue87 }
end Go.Proofs
