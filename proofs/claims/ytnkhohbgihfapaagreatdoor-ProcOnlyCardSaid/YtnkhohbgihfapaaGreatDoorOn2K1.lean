import Derived.Test.YtnkhohbgihfapaaGreatDoorRows
import Derived.Test.YtnkhohbgihfapaaGreatDoorTie
import Derived.Test.YtnkhohbgihfapaaGreatDoorCards
import Derived.WalkKit
import Derived.ProofKit
import Derived.OpenShut
import Derived.LaidMore
import Derived.Lay
import Derived.SevenTiedAt
import Derived.Stop.Joined
import Derived.JoinedCond
namespace Go.Proofs.YtnkhohbgihfapaaGreatDoor
open Go Go.ChangeShapes Go.WideShapes Go.ChangeAt Go.RowKit
set_option maxRecDepth 100000
theorem kEnter : Tryz.prog.mayEnter = true := by kernel_rfl
theorem own : ownKnob Tryz.prog.godebug = none := by kernel_rfl
def LT : List (List Nat) := [[], [], [1], [4, 5, 6, 7, 8, 9, 9, 9, 10, 10, 11, 8, 12], [13, 6, 14, 7, 14, 14, 6, 10, 10, 10, 8], [], [15, 16, 17, 18, 19], [20], [21], [22, 23, 24, 25], [], [], [], [26, 27], [28, 9, 29, 30], [31], [33, 32, 35], [36, 37, 38, 39, 41, 40], [], [42], [43, 44, 44, 45, 46], [48, 47], [], [50, 49, 51], [], [52, 53, 54, 55, 56, 57, 58, 59, 60], [61, 62, 63], [64, 65], [66], [67, 69, 68, 68, 70, 68, 69, 68], [], [71, 72, 73, 74, 75, 76], [77], [34], [78], [], [], [49, 79], [80], [81], [], [82], [], [83, 84], [49], [86], [87, 88], [89, 90, 47], [], [91, 92, 93, 94, 70], [95], [44, 45, 90], [], [58, 59, 96, 59, 89, 59], [97, 59, 79, 59, 59, 99, 95, 90, 98, 59, 59, 40], [58, 59, 59, 100, 59, 59, 101], [97, 59, 59, 59, 59, 59], [97, 97, 59, 102, 59, 59, 59, 59, 59, 99, 95, 90, 98, 59, 103, 47, 40], [105, 104], [], [58, 59, 106, 59, 59, 96, 100], [107], [108], [62, 109, 110, 111, 112, 111, 109, 112, 113, 109, 113, 109, 112, 113, 109, 109, 112, 111, 114], [115], [], [67, 116, 117], [], [116, 116], [], [118, 119, 119, 119, 120], [17], [121], [122], [123, 124, 122], [], [125, 126], [], [127], [128], [92, 92, 129], [], [130], [], [85], [131, 131], [130], [], [132], [134, 133], [], [93, 94], [93], [135], [137], [95, 90], [59], [105, 59, 104, 59], [], [99], [59, 59, 101], [138], [], [92, 98, 59], [59, 59, 59, 105, 139], [95, 49, 59, 59, 92], [], [140, 141, 140], [], [62], [62, 142, 114], [143, 114], [144], [62, 143, 145, 111, 143, 63, 111], [62, 108], [146, 147, 147, 65, 65, 64, 65, 64, 65, 64, 65, 65, 65], [], [69, 68, 68, 68, 148, 148, 148, 149, 148, 150, 151, 69, 68, 148, 149, 152, 68, 148, 153, 148, 154, 148, 155, 68], [156, 157], [156], [], [158, 159, 160, 161, 128], [123], [39], [86, 123], [163, 162], [80], [], [164], [85], [], [], [165, 165, 165], [166, 167], [168], [136], [169], [170], [171, 86, 86, 86, 86, 86, 118, 119, 172, 172, 172, 120, 119, 120], [173], [], [174, 174, 175, 175, 175, 175, 175, 176, 174, 177], [], [62], [178, 144, 62, 143, 144], [108], [146, 65, 65, 147, 65, 65, 179, 65, 180, 65], [], [116, 181], [182], [183, 184, 116], [], [69, 69], [185, 186, 68, 187], [188], [154, 154, 152, 189, 152, 116, 190, 152, 150, 191, 69], [192], [193], [], [49, 80, 45], [], [], [194, 195, 196, 197, 198, 199, 200, 201, 162, 162], [202, 203], [204], [], [205], [163, 206], [], [204], [207, 208, 209, 210, 207], [211, 212], [], [], [], [], [213, 214, 214, 215, 216, 217, 218], [], [62, 143, 143, 219, 62, 220, 114, 145, 178], [], [221], [], [], [222], [], [], [223, 223, 69, 154, 116, 69, 224, 152], [225, 224, 226, 116], [227, 188, 224, 228, 229, 230, 228], [], [], [231, 232, 233, 234, 235], [], [], [], [236, 236], [237, 238], [239, 239, 239, 240], [], [], [], [], [], [], [241, 242, 241, 243, 242, 244], [], [245, 246, 247, 248, 249, 250, 251, 252, 253, 206, 206], [254, 255, 254, 243, 242], [], [], [], [], [], [256], [256], [257, 257], [257, 257, 258, 258, 259], [258], [260, 256], [62, 143, 261, 111, 143, 261, 143, 143, 114, 111, 142, 114], [62, 143, 143, 143, 142], [], [], [41, 262, 213, 214, 263, 264, 188, 128, 188], [265], [], [207], [260], [230, 230], [260], [], [], [], [], [], [266], [], [163], [], [240], [267, 267, 267], [268], [], [], [269], [251], [270, 270], [237, 238], [271, 271, 271, 272], [], [251, 251, 251], [131, 131], [251, 251], [251, 251, 251, 251], [241], [], [], [], [], [273, 218, 259, 274, 275, 276, 260, 276, 276, 276, 276], [], [62, 220, 114, 145, 112], [136, 277, 277], [], [136, 263, 86, 41, 263, 278, 278], [279, 280], [281, 282], [], [], [], [251, 251], [272], [283, 283, 283], [260], [284], [], [276], [285], [286, 287], [], [288, 289, 260, 256], [], [290, 291, 291, 213, 288, 292, 292, 278], [251], [260, 256], [294, 293, 209, 296, 295, 298, 297], [], [290, 291, 299, 260, 289, 214, 214, 256], [260, 256], [260, 260, 256], [288], [], [300, 301], [], [], [210], [210], [302, 226], [303, 226], [288], [], [290, 291, 299, 260, 256], [304], [305, 302], [], [], [], [], [], [], [], [], [], [], [], [], [], [], [], [], [], [], [], [], [], [], [], [], [], [], [], []]
theorem lt_eq : Tryz.prog.funcs.toList.map Tryz.prog.leadsTo = LT := by kernel_rfl
def clVia (T : List (List Nat)) : Nat → List Nat → List Nat → List Nat
  | 0, _, seen => seen.reverse
  | _, [], seen => seen.reverse
  | n + 1, f :: todo, seen => if seen.contains f then clVia T n todo seen else clVia T n ((T[f]?).getD [] ++ todo) (f :: seen)
theorem at_eq (f : Nat) : (Tryz.prog.funcs[f]?).elim [] Tryz.prog.leadsTo = (LT[f]?).getD [] := by
  rw [← lt_eq, List.getElem?_map]
  simp only [Array.getElem?_toList]
  cases Tryz.prog.funcs[f]? <;> rfl
theorem via_eq : ∀ (n : Nat) (todo seen : List Nat), Tryz.prog.closureVia n todo seen = clVia LT n todo seen
  | 0, _, _ => by simp only [Program.closureVia, clVia]
  | _ + 1, [], _ => by simp only [Program.closureVia, clVia]
  | n + 1, f :: todo, seen => by
    simp only [Program.closureVia, clVia, at_eq, via_eq n]
theorem cl_eq (f : Nat) : Tryz.prog.closure f = clVia LT (1 + (LT.map fun l => l.length + 1).sum) [f] [] := by
  have e : (Tryz.prog.funcs.toList.map fun g => (Tryz.prog.leadsTo g).length + 1) = LT.map fun l => l.length + 1 := by
    rw [← lt_eq, List.map_map]
    rfl
  unfold Program.closure
  rw [e, via_eq]
def clB (T : List (List Nat)) : Nat → List Nat → List Nat → Nat → List Nat
  | 0, _, seen, _ => seen.reverse
  | _, [], seen, _ => seen.reverse
  | n + 1, f :: todo, seen, m => bif Nat.testBit m f then clB T n todo seen m else clB T n ((T[f]?).getD [] ++ todo) (f :: seen) (m ||| 2 ^ f)
theorem clB_eq (T : List (List Nat)) : ∀ (n : Nat) (todo seen : List Nat) (m : Nat), (∀ i, Nat.testBit m i = seen.contains i) → clVia T n todo seen = clB T n todo seen m
  | 0, _, _, _, _ => by simp only [clVia, clB]
  | _ + 1, [], _, _, _ => by simp only [clVia, clB]
  | n + 1, f :: todo, seen, m, h => by
    simp only [clVia, clB, h f]
    cases hc : seen.contains f with
    | true =>
      rw [if_pos rfl, cond_true]
      exact clB_eq T n todo seen m h
    | false =>
      rw [if_neg (by simp), cond_false]
      refine clB_eq T n _ _ _ fun i => ?_
      rw [Nat.testBit_or, Nat.testBit_two_pow, h i, List.contains_cons, Bool.or_comm]
      congr 1
      by_cases e : f = i
      · subst e; simp
      · have e' : ¬ i = f := fun x => e x.symm
        simp [e, e']
def lc (f : Nat) : List Nat := clB LT (1 + (LT.map fun l => l.length + 1).sum) [f] [] 0
theorem lc_eq (f : Nat) : Tryz.prog.closure f = lc f := (cl_eq f).trans (clB_eq LT _ _ _ _ (fun i => by simp))
theorem kLaid : laidOutB Tryz.prog = true := by kernel_rfl
theorem kMaps : mapsRowed Tryz.prog = true := by kernel_rfl
theorem kStops : (Tryz.prog.stops == []) = true := by kernel_rfl
theorem kKnobs : (Tryz.prog.stopKnobs == []) = true := by kernel_rfl
theorem kKeys : Tryz.prog.plainKeys = true := by kernel_rfl
theorem kHeard : Tryz.prog.stopsHeard = true := by kernel_rfl
theorem kLift : (Rows.procOnlyRow.lifted == Tryz.prog.liftsFinal) = true := by kernel_rfl
theorem kMake : (Tryz.prog.make == some Rows.procOnlyRow.make) = true := by kernel_rfl
theorem kLooks : true = Tryz.prog.looks [] := by kernel_rfl
theorem kMain : Tryz.prog.mainIs = some (true, "5fd5ee559db3fa08cd7c72c2e8803744ebf60ab58485f6a1e66a197547ed7efc".toList) := by kernel_rfl
theorem kGoes : Tryz.prog.funcs.any Func.goes = false := by kernel_rfl
theorem goes_no (f : Nat) : Tryz.prog.goes f = false := by
  have h : ((Tryz.prog.closure f).any fun g => (Tryz.prog.funcs[g]?).any Func.goes) = false := by
    rw [List.any_eq_false]
    intro g _ hg
    cases hf : Tryz.prog.funcs[g]? with
    | none => rw [hf] at hg; simp at hg
    | some fn =>
      rw [hf] at hg
      have h2 := kGoes
      rw [Array.any_eq_false] at h2
      obtain ⟨hlt, he⟩ := Array.getElem?_eq_some_iff.1 hf
      have := h2 g hlt
      rw [he] at this
      exact this (by simpa using hg)
  unfold Program.goes
  rw [h, kGoes, Bool.and_false]
  rfl
def smallFacts (P : Program) (fn : Func) (s : ChangeSpec) (c : OpenClaim) : Bool :=
  fn.params.all (P.readableRec ·) && namedTie P c.named s.vars && (c.stops == []) && (c.knobs == []) &&
  (c.maps == (fn.params.toList ++ s.plain.varTypes P).any (P.mapsRec ·)) && (c.ifaces == (fn.params.toList ++ s.plain.varTypes P).any (P.ifacesRec ·)) && (c.mapsOut == P.mapsAmong fn.resultTypes.toList) &&
  (c.loops == (fn.params.toList ++ s.plain.varTypes P).any (P.loopsFrom ·)) && (c.wideKeys == (fn.params.toList ++ s.plain.varTypes P ++ fn.resultTypes.toList).any (P.wideKeysFrom ·)) &&
  s.vars.all (P.varReadable ·) && fn.resultTypes.all (fun t => P.readableRec t && decide (t < P.types.size)) && (c.ifacesOut == fn.resultTypes.toList.any (P.ifacesRec ·)) && (c.loopsOut == fn.resultTypes.toList.any (P.loopsFrom ·)) && c.shortTexts.isNone && (c.kinds == (if c.domain.isEmpty then [] else fn.params.toList.map fun t => match P.underlying t with | some (.int k) => some k | _ => none)) && (c.pinned == c.pinnedBy) &&
  (c.veiled == (fn.params.toList ++ s.plain.varTypes P ++ fn.resultTypes.toList).any (P.veiledRec ·)) && c.veiledFits P fn.params.toList (fn.params.toList ++ s.plain.varTypes P ++ fn.resultTypes.toList)
theorem facts {f : Nat} {fn : Func} {s : ChangeSpec} {c : OpenClaim} (hw : c.wf (OpenSpec.ofChange s) = true) (hs : smallFacts Tryz.prog fn s c = true)
    (h1 : (c.inPlace == (lc f).filterMap fun g => (Tryz.prog.funcs[g]?).bind fun fn => if fn.ours || fn.body.isNone || fn.name == "runtime.NumGoroutine" then some fn.name else none) = true)
    (h2 : ((lc f).any fun g => (Tryz.prog.funcs[g]?).any fun fn => match fn.body with | some c => c.unfollowed | none => entryCalls fn) = true) (h3 : c.unfollowed = true ∧ c.recurses = true)
    (h4 : (c.named == (((lc f).flatMap fun g => ((Tryz.prog.funcs[g]?).bind (·.body)).elim [] Code.globalsNamed).eraseDups.filterMap (fun g => (Tryz.prog.globals[g]?).map (·.name)) ++
      (lc f).filterMap fun g => (Tryz.prog.funcs[g]?).bind fun fn => if fn.body.isNone then entryReads.lookup fn.name else none).eraseDups) = true)
    (h5 : c.plainKeys = true) (h6 : c.lifted = Rows.procOnlyRow.lifted) (h7 : c.make = Rows.procOnlyRow.make) : joinedFacts Tryz.prog f fn s c = true := by
  have e := lc_eq f
  have u : Tryz.prog.unfollowed f = true := by
    unfold Program.unfollowed
    rw [e]
    exact h2
  have r : Tryz.prog.recurses f = true := by
    unfold Program.recurses
    rw [u]
    rfl
  have i : (c.inPlace == Tryz.prog.inPlace f) = true := by
    unfold Program.inPlace
    rw [e]
    exact h1
  have n : (c.named == Tryz.prog.varsNamed f) = true := by
    unfold Program.varsNamed
    rw [e]
    exact h4
  have k6 := kLift
  have k7 := kMake
  rw [← h6] at k6
  rw [← h7] at k7
  unfold smallFacts at hs
  simp only [Bool.and_eq_true] at hs
  obtain ⟨⟨⟨⟨⟨⟨⟨⟨⟨⟨⟨⟨⟨⟨⟨⟨⟨s1, s2⟩, s3⟩, s4⟩, s5⟩, s6⟩, s7⟩, s8⟩, s9⟩, s10⟩, s11⟩, s12⟩, s13⟩, s14⟩, s15⟩, s16⟩, s17⟩, s18⟩ := hs
  have uu : (c.unfollowed == Tryz.prog.unfollowed f) = true := by rw [h3.1, u]; rfl
  have rr : (c.recurses == Tryz.prog.recurses f) = true := by rw [h3.2, r]; rfl
  have kk : (c.plainKeys == Tryz.prog.plainKeys) = true := by rw [h5, kKeys]; rfl
  unfold joinedFacts
  simp only [Bool.and_eq_true]
  exact ⟨⟨⟨⟨⟨⟨⟨⟨⟨⟨⟨⟨⟨⟨⟨⟨⟨⟨⟨⟨⟨⟨⟨⟨⟨⟨⟨⟨⟨⟨⟨hw, kLaid⟩, kMaps⟩, s1⟩, s2⟩, s3⟩, kStops⟩, s4⟩, kKnobs⟩, i⟩, uu⟩, rr⟩, n⟩, s5⟩, s6⟩, s7⟩, s8⟩, s9⟩, s10⟩, s11⟩, s12⟩, s13⟩, kk⟩, s14⟩, kHeard⟩, kEnter⟩, k6⟩, k7⟩, s15⟩, s16⟩, s17⟩, s18⟩
def laid2 : List (String × DataW Unit) := [("unicode/utf8.acceptRanges", Rows.laid_unicode_utf8_acceptRanges), ("unicode/utf8.first", Rows.laid_unicode_utf8_first)]
theorem fits (os : Os) : (World.holding Tryz.prog os ⟨#[], #[], []⟩).layFits Tryz.prog laid2 [] = true := by kernel_rfl
theorem ifcs (os : Os) : (World.holding Tryz.prog os ⟨#[], #[], []⟩).layIfaces Tryz.prog laid2 (World.laidAll Tryz.prog os laid2) = true := by kernel_rfl
theorem met (os : Os) (args : Array Value) : laidMetH Tryz.prog laid2 ((World.laidAll Tryz.prog os laid2).forCall (fun _ _ => 0) ⟨#[], args, []⟩).memory := by
  rw [MakeChecks.laidMetH_plain _ _ _ (by kernel_rfl)]
  exact laidMet_laidAll _ (fits os) (ifcs os)
end Go.Proofs.YtnkhohbgihfapaaGreatDoor
