import Derived.Test.YtnaelolekokhbaaGreatAxRun
import Derived.Test.YtnaelolekokhbaaGreatShelf
namespace Go.Proofs
open Go.RowKit Go.Maps Go.Sort Go.Shelf Go.AX

def pn : PN := { indexByte := 173, join := 114, rep := 122, sorted := 120, keys := 134, tyStr := 9, anyOf := 126 }

theorem Tryz.sorts120 (m : Nat) : AnyZ.SortsIn Tryz.prog Tryz.sorted120_ren Fence.wide m :=
  ⟨fun blk off cap ss W hH hblk hsz => callsIn_wide.2 (AnyM.slices_Sort_string Tryz.sort133 blk off cap ss W hH hblk hsz),
   fun p cap W => callsIn_wide.2 (AnyM.slices_Sort_string_none Tryz.sort133 p cap W)⟩

set_option maxHeartbeats 1000000 in
theorem Tryz.sortedKeys (c b nn : Nat) (D0 : DataW Unit) (R : Value → Option (DataW Unit × List MemPlace)) (W : World) (hc : c < W.heap.size) (hm : W.cell? ⟨c, 0, none⟩ = some (.map (some b))) (hown : W.ownsMap Tryz.prog 9 R b nn D0) (hmax : Maps.size D0 ≤ maxLen) (hbytes : Maps.size D0 * 16 ≤ 140737488355328) :
    CallsIn Fence.wide 5 Tryz.prog 120 #[.func (.func 134) #[] #[.pointer (some ⟨c, 0, none⟩)]] W fun e w' => ∃ (v : Value) (ss : List (List UInt8)), e = .returned v ∧ ss.Perm (strKeys D0) ∧
      w'.ownsRow W.heap.size 9 1 v ss.length ((ss.mergeSort (fun x y => decide (x ≤ y))).map encStr) ∧ (v = .slice none 0 0 ↔ ss = []) ∧ Go.RowKit.Below W.heap.size W w' := by
  have hseq : SeqGives Fence.wide 2 Tryz.prog 134 #[.pointer (some ⟨c, 0, none⟩)] encStr (fun ss => ss.Perm (strKeys D0)) (Maps.size D0) W :=
    AnyZ.keys_gives (ρ := Tryz.keys121_ren) { Tryz.keys121 with } Fence.wide _ trivial rfl (by omega) c b nn D0 _ hc hm hown
  exact AnyZ.sorted_in Tryz.sorted120 Fence.wide 5 trivial trivial trivial trivial rfl (by omega) (Tryz.sorts120 _) (enters_of Tryz.func133 (by kernel_rfl) rfl) 134 #[.pointer (some ⟨c, 0, none⟩)] trivial (enters_of Tryz.func134 (by kernel_rfl) rfl) _ _ hmax hbytes _ hseq

theorem Tryz.libOk : LibOk Tryz.prog pn := {
  byte := fun args w => run_callFunc_indexByte Tryz.func173 (by kernel_rfl) (by kernel_rfl) (by kernel_rfl) (by kernel_rfl) args w
  joinE := enters_of Tryz.func114 (by kernel_rfl) rfl
  join0 := fun a c sep w => Any.strings_Join_none Tryz.lays156 Tryz.Builder_Extra_156 a c sep w
  join := fun bk o c xs sep w h1 h2 h3 h4 h5 => Any.strings_Join Tryz.lays156 Tryz.Builder_Extra_156 bk o c xs sep w h1 h2 h3 h4 h5
  repE := enters_of Tryz.func122 (by kernel_rfl) rfl
  rep := fun s c w h1 h2 => Any.strings_Repeat Tryz.lays105 Tryz.Builder_Extra_105 s c w h1 h2
  anyE := enters_of Tryz.func126 (by kernel_rfl) rfl
  any := fun s chars w h1 h2 h3 h4 => Any.strings_ContainsAny_laid Tryz.lays150 (by kernel_rfl) s chars w h1 h2 h3 h4
  sortE := enters_of Tryz.func120 (by kernel_rfl) rfl
  tyS := Tryz.underlying9
  sorted := fun c b nn D0 R W h1 h2 h3 h4 h5 => callsIn_wide.1 (Tryz.sortedKeys c b nn D0 R W h1 h2 h3 h4 h5) }

theorem Tryz.progOk : ProgOk (envOf Tryz.prog) Tryz.prog := Go.AX.progOk (by kernel_rfl) (by kernel_rfl) (by kernel_rfl)
end Go.Proofs
