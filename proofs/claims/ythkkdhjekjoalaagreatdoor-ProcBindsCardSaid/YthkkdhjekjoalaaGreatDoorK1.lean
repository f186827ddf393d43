/-
  The closed facts on the whole program that each of this seat's rows and cards asks, each once; a row's start.
-/
import Derived.Test.YthkkdhjekjoalaaGreatDoorRows
import Derived.Test.YthkkdhjekjoalaaGreatDoorTie
import Derived.Test.YthkkdhjekjoalaaGreatDoorCards
import Derived.WalkKit
import Derived.ProofKit
import Derived.OpenShut
import Derived.LaidMore
import Derived.Lay
import Derived.SevenTiedAt
import Derived.Stop.Joined
import Derived.JoinedCond
namespace Go.Proofs.YthkkdhjekjoalaaGreatDoor
open Go Go.ChangeShapes Go.WideShapes Go.ChangeAt Go.RowKit
set_option maxRecDepth 100000

theorem kEnter : Tryz.prog.mayEnter = true := by kernel_rfl
theorem own : ownKnob Tryz.prog.godebug = none := by kernel_rfl
/-! ### Which functions lead to which -/
def LT : List (List Nat) := [[], [], [1], [22, 23, 24, 25, 26, 27, 27, 27, 28, 28, 29, 26, 30], [22, 31, 32], [22, 31, 33], [22, 31, 34], [22, 31, 35], [22, 31, 36], [22, 31, 37], [22, 31, 38], [22, 31, 39], [22, 31, 40], [22, 31, 41], [22, 31, 42], [22, 31, 43], [22, 31, 44], [22, 31, 45], [22, 23, 24, 27, 25, 27, 27, 27, 27, 27, 26, 28, 28], [22, 31, 46], [22, 31, 47], [22, 31, 48], [49, 24, 50, 25, 50, 50, 24, 28, 28, 28, 26], [], [51, 52, 53, 54, 55], [56], [57], [58, 59, 60, 61], [], [], [], [24, 62], [23, 63, 63, 64, 29], [63, 65, 66], [63, 65, 66], [23, 63, 63, 63, 65, 65, 66, 67, 66], [63, 65, 23, 67, 67, 67], [63, 63, 67, 67, 67, 67, 64, 67], [63, 63, 63, 63, 68, 67, 67], [63, 69, 63, 63, 64, 29], [63, 63], [63, 65, 67, 63, 63], [23, 63, 63, 67, 63, 67, 67, 67, 67, 67, 67, 67, 63, 67, 67, 67, 63, 67], [63, 63, 67, 67], [63, 63, 67, 65, 67, 67, 67, 67, 67, 67, 67, 63, 67, 65, 65], [23, 63, 23, 63, 63, 67, 63, 63], [23, 63, 67, 23, 23, 23, 64, 29], [63, 63, 63, 67, 67, 67], [23, 63, 63, 65, 63, 66, 64, 29, 64, 29, 67, 67, 64, 67, 67, 67], [70, 71], [72, 27, 73, 74], [75], [77, 76, 79], [80, 81, 82, 83, 85, 84], [], [86], [87, 88, 88, 89, 90], [92, 91], [], [94, 93, 95], [], [96, 97, 98, 99, 100, 101, 102, 103, 104], [27], [], [], [], [], [], [29], [], [105, 106, 107], [108, 109], [110], [111, 113, 112, 112, 114, 112, 113, 112], [], [115, 116, 117, 118, 119, 120], [121], [78], [122], [], [], [93, 123], [124], [125], [], [126], [], [127, 128], [93], [130], [131, 132], [133, 134, 91], [], [135, 136, 137, 138, 114], [139], [88, 89, 134], [], [102, 103, 140, 103, 133, 103], [141, 103, 123, 103, 103, 143, 139, 134, 142, 103, 103, 84], [102, 103, 103, 144, 103, 103, 145], [141, 103, 103, 103, 103, 103], [141, 141, 103, 146, 103, 103, 103, 103, 103, 143, 139, 134, 142, 103, 147, 91, 84], [149, 148], [], [102, 103, 150, 103, 103, 140, 144], [151], [152], [106, 153, 154, 155, 156, 155, 153, 156, 157, 153, 157, 153, 156, 157, 153, 153, 156, 155, 158], [159], [], [111, 160, 161], [], [160, 160], [], [162, 163, 163, 163, 164], [53], [165], [166], [167, 168, 166], [], [169, 170], [], [171], [172], [136, 136, 173], [], [174], [], [129], [175, 175], [174], [], [176], [178, 177], [], [137, 138], [137], [179], [181], [139, 134], [103], [149, 103, 148, 103], [], [143], [103, 103, 145], [182], [], [136, 142, 103], [103, 103, 103, 149, 183], [139, 93, 103, 103, 136], [], [184, 185, 184], [], [106], [106, 186, 158], [187, 158], [188], [106, 187, 189, 155, 187, 107, 155], [106, 152], [190, 191, 191, 109, 109, 108, 109, 108, 109, 108, 109, 109, 109], [], [113, 112, 112, 112, 192, 192, 192, 193, 192, 194, 195, 113, 112, 192, 193, 196, 112, 192, 197, 192, 198, 192, 199, 112], [200, 201], [200], [], [202, 203, 204, 205, 172], [167], [83], [130, 167], [207, 206], [124], [], [208], [129], [], [], [209, 209, 209], [210, 211], [212], [180], [213], [214], [215, 130, 130, 130, 130, 130, 162, 163, 216, 216, 216, 164, 163, 164], [217], [], [218, 218, 219, 219, 219, 219, 219, 220, 218, 221], [], [106], [222, 188, 106, 187, 188], [152], [190, 109, 109, 191, 109, 109, 223, 109, 224, 109], [], [160, 225], [226], [227, 228, 160], [], [113, 113], [229, 230, 112, 231], [232], [198, 198, 196, 233, 196, 160, 234, 196, 194, 235, 113], [236], [237], [], [93, 124, 89], [], [], [238, 239, 240, 241, 242, 243, 244, 245, 206, 206], [246, 247], [248], [], [249], [207, 250], [], [248], [251, 252, 253, 254, 251], [255, 256], [], [], [], [], [257, 258, 258, 259, 260, 261, 262], [], [106, 187, 187, 263, 106, 264, 158, 189, 222], [], [265], [], [], [266], [], [], [267, 267, 113, 198, 160, 113, 268, 196], [269, 268, 270, 160], [271, 232, 268, 272, 273, 274, 272], [], [], [275, 276, 277, 278, 279], [], [], [], [280, 280], [281, 282], [283, 283, 283, 284], [], [], [], [], [], [], [285, 286, 285, 287, 286, 288], [], [289, 290, 291, 292, 293, 294, 295, 296, 297, 250, 250], [298, 299, 298, 287, 286], [], [], [], [], [], [300], [300], [301, 301], [301, 301, 302, 302, 303], [302], [304, 300], [106, 187, 305, 155, 187, 305, 187, 187, 158, 155, 186, 158], [106, 187, 187, 187, 186], [], [], [85, 306, 257, 258, 307, 308, 232, 172, 232], [309], [], [251], [304], [274, 274], [304], [], [], [], [], [], [310], [], [207], [], [284], [311, 311, 311], [312], [], [], [313], [295], [314, 314], [281, 282], [315, 315, 315, 316], [], [295, 295, 295], [175, 175], [295, 295], [295, 295, 295, 295], [285], [], [], [], [], [317, 262, 303, 318, 319, 320, 304, 320, 320, 320, 320], [], [106, 264, 158, 189, 156], [180, 321, 321], [], [180, 307, 130, 85, 307, 322, 322], [323, 324], [325, 326], [], [], [], [295, 295], [316], [327, 327, 327], [304], [328], [], [320], [329], [330, 331], [], [332, 333, 304, 300], [], [334, 335, 335, 257, 332, 336, 336, 322], [295], [304, 300], [338, 337, 253, 340, 339, 342, 341], [], [334, 335, 343, 304, 333, 258, 258, 300], [304, 300], [304, 304, 300], [332], [], [344, 345], [], [], [254], [254], [346, 270], [347, 270], [332], [], [334, 335, 343, 304, 300], [348], [349, 346], [], [], [], [], [], [], [], [], [], [], [], [], [], [], [], [], [], [], [], [], [], [], [], [], [], [], [], []]
theorem lt_eq : Tryz.prog.funcs.toList.map Tryz.prog.leadsTo = LT := by kernel_rfl
def clVia (T : List (List Nat)) : Nat → List Nat → List Nat → List Nat
  | 0, _, seen => seen.reverse
  | _, [], seen => seen.reverse
  | n + 1, f :: todo, seen => if seen.contains f then clVia T n todo seen else clVia T n ((T[f]?).getD [] ++ todo) (f :: seen)
theorem at_eq (f : Nat) : (Tryz.prog.funcs[f]?).elim [] Tryz.prog.leadsTo = (LT[f]?).getD [] := by
  rw [← lt_eq, List.getElem?_map]
  simp only [Array.getElem?_toList]
  cases Tryz.prog.funcs[f]? <;> rfl
theorem via_eq : ∀ (n : Nat) (todo seen : List Nat), Tryz.prog.closureVia n todo seen = clVia LT n todo seen
  | 0, _, _ => by simp only [Program.closureVia, clVia]
  | _ + 1, [], _ => by simp only [Program.closureVia, clVia]
  | n + 1, f :: todo, seen => by
    simp only [Program.closureVia, clVia, at_eq, via_eq n]
theorem cl_eq (f : Nat) : Tryz.prog.closure f = clVia LT (1 + (LT.map fun l => l.length + 1).sum) [f] [] := by
  have e : (Tryz.prog.funcs.toList.map fun g => (Tryz.prog.leadsTo g).length + 1) = LT.map fun l => l.length + 1 := by
    rw [← lt_eq, List.map_map]
    rfl
  unfold Program.closure
  rw [e, via_eq]

/-- The same, what was seen as the bits of a number. -/
def clB (T : List (List Nat)) : Nat → List Nat → List Nat → Nat → List Nat
  | 0, _, seen, _ => seen.reverse
  | _, [], seen, _ => seen.reverse
  | n + 1, f :: todo, seen, m => bif Nat.testBit m f then clB T n todo seen m else clB T n ((T[f]?).getD [] ++ todo) (f :: seen) (m ||| 2 ^ f)
theorem clB_eq (T : List (List Nat)) : ∀ (n : Nat) (todo seen : List Nat) (m : Nat), (∀ i, Nat.testBit m i = seen.contains i) → clVia T n todo seen = clB T n todo seen m
  | 0, _, _, _, _ => by simp only [clVia, clB]
  | _ + 1, [], _, _, _ => by simp only [clVia, clB]
  | n + 1, f :: todo, seen, m, h => by
    simp only [clVia, clB, h f]
    cases hc : seen.contains f with
    | true =>
      rw [if_pos rfl, cond_true]
      exact clB_eq T n todo seen m h
    | false =>
      rw [if_neg (by simp), cond_false]
      refine clB_eq T n _ _ _ fun i => ?_
      rw [Nat.testBit_or, Nat.testBit_two_pow, h i, List.contains_cons, Bool.or_comm]
      congr 1
      by_cases e : f = i
      · subst e; simp
      · have e' : ¬ i = f := fun x => e x.symm
        simp [e, e']
def lc (f : Nat) : List Nat := clB LT (1 + (LT.map fun l => l.length + 1).sum) [f] [] 0
theorem lc_eq (f : Nat) : Tryz.prog.closure f = lc f := (cl_eq f).trans (clB_eq LT _ _ _ _ (fun i => by simp))

/-! ### The program's own facts -/
theorem kLaid : laidOutB Tryz.prog = true := by kernel_rfl
theorem kMaps : mapsRowed Tryz.prog = true := by kernel_rfl
theorem kStops : (Tryz.prog.stops == []) = true := by kernel_rfl
theorem kKnobs : (Tryz.prog.stopKnobs == []) = true := by kernel_rfl
theorem kKeys : Tryz.prog.plainKeys = true := by kernel_rfl
theorem kHeard : Tryz.prog.stopsHeard = true := by kernel_rfl
theorem kLift : (Rows.procKindsRow.lifted == Tryz.prog.liftsFinal) = true := by kernel_rfl
theorem kMake : (Tryz.prog.make == some Rows.procKindsRow.make) = true := by kernel_rfl
theorem kLooks : true = Tryz.prog.looks [] := by kernel_rfl
theorem kMain : Tryz.prog.mainIs = some (true, "d0a7098eca320b6306fee5170973a2423aff83ed4cdd1f274b2350a741014835".toList) := by kernel_rfl
theorem kGoes : Tryz.prog.funcs.any Func.goes = false := by kernel_rfl
theorem goes_no (f : Nat) : Tryz.prog.goes f = false := by
  have h : ((Tryz.prog.closure f).any fun g => (Tryz.prog.funcs[g]?).any Func.goes) = false := by
    rw [List.any_eq_false]
    intro g _ hg
    cases hf : Tryz.prog.funcs[g]? with
    | none => rw [hf] at hg; simp at hg
    | some fn =>
      rw [hf] at hg
      have h2 := kGoes
      rw [Array.any_eq_false] at h2
      obtain ⟨hlt, he⟩ := Array.getElem?_eq_some_iff.1 hf
      have := h2 g hlt
      rw [he] at this
      exact this (by simpa using hg)
  unfold Program.goes
  rw [h, kGoes, Bool.and_false]
  rfl
/-- What a row's facts are, but for the program's own and for what the function comes to. -/
def smallFacts (P : Program) (fn : Func) (s : ChangeSpec) (c : OpenClaim) : Bool :=
  fn.params.all (P.readableRec ·) && namedTie P c.named s.vars && (c.stops == []) && (c.knobs == []) &&
  (c.maps == (fn.params.toList ++ s.plain.varTypes P).any (P.mapsRec ·)) && (c.ifaces == (fn.params.toList ++ s.plain.varTypes P).any (P.ifacesRec ·)) && (c.mapsOut == P.mapsAmong fn.resultTypes.toList) &&
  (c.loops == (fn.params.toList ++ s.plain.varTypes P).any (P.loopsFrom ·)) && (c.wideKeys == (fn.params.toList ++ s.plain.varTypes P ++ fn.resultTypes.toList).any (P.wideKeysFrom ·)) &&
  s.vars.all (P.varReadable ·) && fn.resultTypes.all (fun t => P.readableRec t && decide (t < P.types.size)) && (c.ifacesOut == fn.resultTypes.toList.any (P.ifacesRec ·)) && (c.loopsOut == fn.resultTypes.toList.any (P.loopsFrom ·)) && c.shortTexts.isNone && (c.kinds == (if c.domain.isEmpty then [] else fn.params.toList.map fun t => match P.underlying t with | some (.int k) => some k | _ => none)) && (c.pinned == c.pinnedBy) &&
  (c.veiled == (fn.params.toList ++ s.plain.varTypes P ++ fn.resultTypes.toList).any (P.veiledRec ·)) && c.veiledFits P fn.params.toList (fn.params.toList ++ s.plain.varTypes P ++ fn.resultTypes.toList)
theorem facts {f : Nat} {fn : Func} {s : ChangeSpec} {c : OpenClaim} (hw : c.wf (OpenSpec.ofChange s) = true) (hs : smallFacts Tryz.prog fn s c = true)
    (h1 : (c.inPlace == (lc f).filterMap fun g => (Tryz.prog.funcs[g]?).bind fun fn => if fn.ours || fn.body.isNone || fn.name == "runtime.NumGoroutine" then some fn.name else none) = true)
    (h2 : ((lc f).any fun g => (Tryz.prog.funcs[g]?).any fun fn => match fn.body with | some c => c.unfollowed | none => entryCalls fn) = true) (h3 : c.unfollowed = true ∧ c.recurses = true)
    (h4 : (c.named == (((lc f).flatMap fun g => ((Tryz.prog.funcs[g]?).bind (·.body)).elim [] Code.globalsNamed).eraseDups.filterMap (fun g => (Tryz.prog.globals[g]?).map (·.name)) ++
      (lc f).filterMap fun g => (Tryz.prog.funcs[g]?).bind fun fn => if fn.body.isNone then entryReads.lookup fn.name else none).eraseDups) = true)
    (h5 : c.plainKeys = true) (h6 : c.lifted = Rows.procKindsRow.lifted) (h7 : c.make = Rows.procKindsRow.make) : joinedFacts Tryz.prog f fn s c = true := by
  have e := lc_eq f
  have u : Tryz.prog.unfollowed f = true := by
    unfold Program.unfollowed
    rw [e]
    exact h2
  have r : Tryz.prog.recurses f = true := by
    unfold Program.recurses
    rw [u]
    rfl
  have i : (c.inPlace == Tryz.prog.inPlace f) = true := by
    unfold Program.inPlace
    rw [e]
    exact h1
  have n : (c.named == Tryz.prog.varsNamed f) = true := by
    unfold Program.varsNamed
    rw [e]
    exact h4
  have k6 := kLift
  have k7 := kMake
  rw [← h6] at k6
  rw [← h7] at k7
  unfold smallFacts at hs
  simp only [Bool.and_eq_true] at hs
  obtain ⟨⟨⟨⟨⟨⟨⟨⟨⟨⟨⟨⟨⟨⟨⟨⟨⟨s1, s2⟩, s3⟩, s4⟩, s5⟩, s6⟩, s7⟩, s8⟩, s9⟩, s10⟩, s11⟩, s12⟩, s13⟩, s14⟩, s15⟩, s16⟩, s17⟩, s18⟩ := hs
  have uu : (c.unfollowed == Tryz.prog.unfollowed f) = true := by rw [h3.1, u]; rfl
  have rr : (c.recurses == Tryz.prog.recurses f) = true := by rw [h3.2, r]; rfl
  have kk : (c.plainKeys == Tryz.prog.plainKeys) = true := by rw [h5, kKeys]; rfl
  unfold joinedFacts
  simp only [Bool.and_eq_true]
  exact ⟨⟨⟨⟨⟨⟨⟨⟨⟨⟨⟨⟨⟨⟨⟨⟨⟨⟨⟨⟨⟨⟨⟨⟨⟨⟨⟨⟨⟨⟨⟨hw, kLaid⟩, kMaps⟩, s1⟩, s2⟩, s3⟩, kStops⟩, s4⟩, kKnobs⟩, i⟩, uu⟩, rr⟩, n⟩, s5⟩, s6⟩, s7⟩, s8⟩, s9⟩, s10⟩, s11⟩, s12⟩, s13⟩, kk⟩, s14⟩, kHeard⟩, kEnter⟩, k6⟩, k7⟩, s15⟩, s16⟩, s17⟩, s18⟩

/-! ### A row's start: the listed variables laid -/
def laid2 : List (String × DataW Unit) := [("unicode/utf8.acceptRanges", Rows.laid_unicode_utf8_acceptRanges), ("unicode/utf8.first", Rows.laid_unicode_utf8_first)]
theorem fits (os : Os) : (World.holding Tryz.prog os ⟨#[], #[], []⟩).layFits Tryz.prog laid2 [] = true := by kernel_rfl
theorem ifcs (os : Os) : (World.holding Tryz.prog os ⟨#[], #[], []⟩).layIfaces Tryz.prog laid2 (World.laidAll Tryz.prog os laid2) = true := by kernel_rfl
theorem met (os : Os) (args : Array Value) : laidMetH Tryz.prog laid2 ((World.laidAll Tryz.prog os laid2).forCall (fun _ _ => 0) ⟨#[], args, []⟩).memory := by
  rw [MakeChecks.laidMetH_plain _ _ _ (by kernel_rfl)]
  exact laidMet_laidAll _ (fits os) (ifcs os)
end Go.Proofs.YthkkdhjekjoalaaGreatDoor
