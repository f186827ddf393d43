import Derived.Test.YtnkhohbgihfapaaGreatDoorOn2B2
import Derived.Test.YtnkhohbgihfapaaGreatDoorOn2A3
import Derived.Laws.StandIn
set_option linter.unusedVariables false
set_option linter.unusedSimpArgs false
set_option linter.defProp false
namespace Go.AX
open Go.Proofs Go.RowKit
set_option maxRecDepth 1000000
set_option linter.unusedSimpArgs false
def truncP (args : List AV) (s : St) : Option (AV × St) := match args with
  | [.raw (.float .f64 x)] => match FloatKind.f64.decode x with
    | .nan _ _ => none
    | d => some (.raw (.float .f64 (FloatKind.f64.encode (d.integral .zero))), s)
  | _ => none
def prT : Prims := { pr2 with ext := fun f args s => bif Nat.beq f 279 then truncP args s else pr2.ext f args s }
theorem trunc_find : Extern.find Tryz.f279 = some (Extern.MathFloor.toIntegral "math.archTrunc" .zero) := by kernel_rfl
theorem trunc_call (args : Array Value) (w : Go.World) : (callFunc 279 args).run Tryz.prog w = ((Extern.MathFloor.toIntegral "math.archTrunc" .zero args).run Tryz.prog w).andThen fun v w' => .ok (.value v) w' :=
  run_callFunc_extern Tryz.func279 (by kernel_rfl) (by kernel_rfl) (by kernel_rfl) trunc_find args w
theorem trunc_run (x : Nat) (d) (h : FloatKind.f64.decode x = d) (hn : ∀ s t, d ≠ .nan s t) : Extern.MathFloor.toIntegral "math.archTrunc" .zero #[.float .f64 x] = pure (.float .f64 (FloatKind.f64.encode (d.integral .zero))) := by
  unfold Extern.MathFloor.toIntegral
  conv => lhs; whnf
  rw [h]
  cases d <;> first | rfl | exact absurd rfl (hn _ _)
theorem okT : Ok TE Tryz.prog prT := by
  refine ⟨ok0.prog, ⟨?_, fun h hv hs => (ok2 ok0).prims.fn h hv hs⟩⟩
  intro g args s s' v w0 w E Args h hv hs
  unfold prT at h
  simp only at h
  cases hg : Nat.beq g 279 with
  | false => rw [hg] at h; exact (ok2 ok0).prims.ext h hv hs
  | true =>
    rw [hg, cond_true] at h
    rw [Nat.eq_of_beq_eq_true hg]
    unfold truncP at h
    split at h
    · rename_i x
      simp only [VRels, VRel] at hv
      obtain ⟨_, _, rfl, rfl, rfl⟩ := hv
      split at h
      · cases h
      · rename_i d hd
        simp only [Option.some.injEq, Prod.mk.injEq] at h
        obtain ⟨rfl, rfl⟩ := h
        refine ⟨.float .f64 (FloatKind.f64.encode ((FloatKind.f64.decode x).integral .zero)), w, E, ?_, Em.le_refl E, (by simp only [VRel]), hs⟩
        rw [trunc_call]
        show ((Extern.MathFloor.toIntegral "math.archTrunc" .zero #[.float .f64 x]).run Tryz.prog w).andThen _ = _
        rw [trunc_run x _ rfl (fun s t e => hd s t e)]
        rfl
    · cases h
end Go.AX
namespace Go.AX
abbrev vi (n : Int) : AV := .raw (.int .i64 n)
abbrev vf (n : Nat) : AV := .raw (.float .f64 n)
abbrev vb (b : Bool) : AV := .raw (.bool b)
abbrev vs (a b : Nat) : AV := .raw (.slice none a b)
abbrev vp : AV := .raw (.pointer none)
def o0 : AO := .cells [(vi 0), (.str []), (vf 0), (vs 0 0), (vi 0)] 80 0
def o1 : AO := .cells [(vi 1), (.str [100, 111]), (vf 0), (vi 0), (vi 1), (.str [109, 107, 100, 105, 114]), (vf 0), (vi 3), (vi 4), (.str [40]), (vf 0), (vi 8), (vi 3), (.str [97]), (vf 0), (vi 9), (vi 4), (.str [44]), (vf 0), (vi 12), (vi 2), (.str [52, 57, 51]), (vf 4647380563911507968), (vi 14), (vi 4), (.str [41]), (vf 0), (vi 17), (vi 4), (.str [59]), (vf 0), (vi 18), (vi 1), (.str [100, 111]), (vf 0), (vi 20), (vi 1), (.str [109, 107, 100, 105, 114]), (vf 0), (vi 23), (vi 4), (.str [40]), (vf 0), (vi 28), (vi 3), (.str [98, 47, 99]), (vf 0), (vi 29), (vi 4), (.str [44]), (vf 0), (vi 34), (vi 2), (.str [52, 57, 51]), (vf 4647380563911507968), (vi 36), (vi 4), (.str [41]), (vf 0), (vi 39), (vi 4), (.str [59]), (vf 0), (vi 40), (vi 0), (.str []), (vf 0), (vi 41)] 140 8
def o2 : AO := .cells [(.slice 76 0 17 0 17 false), (vi 0), (vi 0), (vi 0), (vi 0), (vi 0), (vi 0)] 138 0
def o3 : AO := .cells [(vi 8), (.str []), (vf 0), (vs 0 0), (vi 0)] 80 0
def o4 : AO := .cells [(vi 1), (.str [100, 111]), (vf 0), (vi 0)] 140 0
def o5 : AO := .cells [(vi 12), (.str []), (vf 0), (vs 0 0), (vi 0)] 80 0
def o6 : AO := .cells [(.str [61, 61]), (.str [60])] 9 0
def o7 : AO := .cells [(.str [38])] 9 0
def o8 : AO := .cells [(.str [43]), (.str [45])] 9 0
def o9 : AO := .cells [(.str [42]), (.str [47]), (.str [37])] 9 0
def o10 : AO := .cells [(.slice 94 0 2 0 2 true), (.slice 95 0 1 0 1 true), (.slice 96 0 2 0 2 true), (.slice 97 0 3 0 3 true)] 41 0
def o11 : AO := .cells [(.slice 100 0 2 0 2 true), (.slice 101 0 1 0 1 true), (.slice 102 0 2 0 2 true), (.slice 103 0 3 0 3 true)] 41 0
def o12 : AO := .cells [(.slice 106 0 2 0 2 true), (.slice 107 0 1 0 1 true), (.slice 108 0 2 0 2 true), (.slice 109 0 3 0 3 true)] 41 0
def o13 : AO := .cells [(.slice 112 0 2 0 2 true), (.slice 113 0 1 0 1 true), (.slice 114 0 2 0 2 true), (.slice 115 0 3 0 3 true)] 41 0
def o14 : AO := .cells [(vi 1), (.str [109, 107, 100, 105, 114]), (vf 0), (vi 3)] 140 0
def o15 : AO := .cells [(vi 19), (.str [109, 107, 100, 105, 114]), (vf 0), (vs 0 0), (vi 3)] 80 0
def o16 : AO := .cells [(vi 19), (.str [109, 107, 100, 105, 114]), (vf 0), (.slice 204 0 1 0 1 false), (vi 3)] 80 0
def o17 : AO := .cells [(vi 16), (.str [97]), (vf 0), (vs 0 0), (vi 9)] 80 0
def o18 : AO := .cells [(vi 16), (.str [97]), (vf 0), (vs 0 0), (vi 9)] 80 10
def o19 : AO := .cells [(.slice 76 0 17 0 17 false), (vi 8), (vi 0), (vi 0), (vi 0), (vi 0), (vi 0)] 138 0
def o20 : AO := .cells [(vi 16), (.str [97]), (vf 0), (vs 0 0), (vi 9), (vi 15), (.str []), (vf 4647380563911507968), (vs 0 0), (vi 14)] 80 10
def o21 : AO := .cells [(vi 19), (.str [109, 107, 100, 105, 114]), (vf 0), (.slice 282 0 2 0 2 false), (vi 3)] 80 0
def o22 : AO := .cells [(vi 8), (.str []), (vf 0), (.slice 319 0 1 0 1 false), (vi 0)] 80 0
def o23 : AO := .cells [(vi 12), (.str []), (vf 0), (.slice 315 0 1 0 1 true), (vi 0)] 80 0
def o24 : AO := .cells [(vi 12), (.str []), (vf 0), (.slice 315 0 1 0 1 true), (vi 0)] 80 10
def o25 : AO := .cells [(vi 1), (.str [100, 111]), (vf 0), (vi 20)] 140 0
def o26 : AO := .cells [(vi 12), (.str []), (vf 0), (vs 0 0), (vi 20)] 80 0
def o27 : AO := .cells [(.slice 335 0 2 0 2 true), (.slice 336 0 1 0 1 true), (.slice 337 0 2 0 2 true), (.slice 338 0 3 0 3 true)] 41 0
def o28 : AO := .cells [(.slice 341 0 2 0 2 true), (.slice 342 0 1 0 1 true), (.slice 343 0 2 0 2 true), (.slice 344 0 3 0 3 true)] 41 0
def o29 : AO := .cells [(.slice 347 0 2 0 2 true), (.slice 348 0 1 0 1 true), (.slice 349 0 2 0 2 true), (.slice 350 0 3 0 3 true)] 41 0
def o30 : AO := .cells [(.slice 353 0 2 0 2 true), (.slice 354 0 1 0 1 true), (.slice 355 0 2 0 2 true), (.slice 356 0 3 0 3 true)] 41 0
def o31 : AO := .cells [(vi 1), (.str [109, 107, 100, 105, 114]), (vf 0), (vi 23)] 140 0
def o32 : AO := .cells [(vi 19), (.str [109, 107, 100, 105, 114]), (vf 0), (vs 0 0), (vi 23)] 80 0
def o33 : AO := .cells [(vi 19), (.str [109, 107, 100, 105, 114]), (vf 0), (.slice 445 0 1 0 1 false), (vi 23)] 80 0
def o34 : AO := .cells [(vi 16), (.str [98, 47, 99]), (vf 0), (vs 0 0), (vi 29)] 80 0
def o35 : AO := .cells [(vi 16), (.str [98, 47, 99]), (vf 0), (vs 0 0), (vi 29)] 80 10
def o36 : AO := .cells [(vi 2), (vi 0), (vf 0), (.str [97]), (vi 1), (vi 0), (vf 4647380563911507968), (.str []), (vi 17), (vi 2), (vf 0), (.str [109, 107, 100, 105, 114]), (vi 18), (vi 0), (vf 0), (.str []), (vi 2), (vi 0), (vf 0), (.str [98, 47, 99]), (vi 1), (vi 0), (vf 4647380563911507968), (.str []), (vi 17), (vi 2), (vf 0), (.str [109, 107, 100, 105, 114]), (vi 18), (vi 0), (vf 0), (.str []), (vi 0), (vi 0), (vf 0), (.str [])] 92 8
def o37 : AO := .cells [(.slice 639 0 9 0 9 false), (vi 0), (vi 100), (vi 0), (vs 0 0), (vb false), (.str []), (vf 0), (vb false), (.str []), (vf 0), (vb false), (.str []), (vf 0), (vb false), (.str []), (vf 0), (vb false), (.str []), (vf 0), (vb false), (.str []), (vf 0), (vb false), (.str []), (vf 0), (vb false), (.str []), (vf 0), (vb false), (.str []), (vf 0), (vb false), (.str []), (vf 0), (vb false), (.str []), (vf 0), (vb false), (.str []), (vf 0), (vb false), (.str []), (vf 0), (vb false), (.str []), (vf 0), (vb false), (.str []), (vf 0), (vb false), (.str []), (vf 0), (vb false), (.str []), (vf 0), (vb false), (.str []), (vf 0), (vb false), (.str []), (vf 0), (vb false), (.str []), (vf 0), (vb false), (.str []), (vf 0), (vb false), (.str []), (vf 0), (vb false), (.str []), (vf 0), (vb false), (.str []), (vf 0), (vb false), (.str []), (vf 0), (vb false), (.str []), (vf 0), (vb false), (.str []), (vf 0), (vb false), (.str []), (vf 0), (vb false), (.str []), (vf 0), (vb false), (.str []), (vf 0), (vb false), (.str []), (vf 0), (vb false), (.str []), (vf 0), (vb false), (.str []), (vf 0), (vb false), (.str []), (vf 0), (vb false), (.str []), (vf 0), (vb false), (.str []), (vf 0), (vb false), (.str []), (vf 0), (vb false), (.str []), (vf 0), (vb false), (.str []), (vf 0), (vb false), (.str []), (vf 0), (vb false), (.str []), (vf 0), (vb false), (.str []), (vf 0), (vb false), (.str []), (vf 0), (vb false), (.str []), (vf 0), (vb false), (.str []), (vf 0), (vb false), (.str []), (vf 0), (vb false), (.str []), (vf 0), (vb false), (.str []), (vf 0), (vb false), (.str []), (vf 0), (vb false), (.str []), (vf 0), (vb false), (.str []), (vf 0), (vb false), (.str []), (vf 0), (vb false), (.str []), (vf 0), (vb false), (.str []), (vf 0), (vb false), (.str []), (vf 0), (vb false), (.str []), (vf 0), (vb false), (.str []), (vf 0), (vb false), (.str []), (vf 0), (vb false), (.str []), (vf 0), (vb false), (.str []), (vf 0), (vb false), (.str []), (vf 0), (vb false), (.str []), (vf 0), (vb false), (.str []), (vf 0), (vb false), (.str []), (vf 0), (vi 0), (vi 0), (.str []), (.str []), (vi 0), (vi 0), (vi 0), (vi 0), (.str []), (.str []), (vi 0), (.str [])] 101 0
def o38 : AO := .map []
def o39 : AO := .cells [(vi 1), (vi 493), (.str []), (.map 641), vp, (.str [])] 112 0
def o40 : AO := .cells [(.ptr 642 0), (.ptr 642 0), vp, vp, vp, vp, vp, vp, vp, vp, (vi 0)] 106 0
def o41 : AO := .cells [(vs 0 0)] 117 0
def o42 : AO := .cells [(.ptr 640 0), (.ptr 645 0), (.ptr 643 0), (vs 0 0), (vs 0 0)] 70 0
def o43 : AO := .cells [(.slice 639 0 9 0 9 false), (vi 3), (vi 97), (vi 3), (.slice 662 0 1 0 2 false), (vb false), (.str []), (vf 0), (vb false), (.str []), (vf 0), (vb false), (.str []), (vf 0), (vb false), (.str []), (vf 0), (vb false), (.str []), (vf 0), (vb false), (.str []), (vf 0), (vb false), (.str []), (vf 0), (vb false), (.str []), (vf 0), (vb false), (.str []), (vf 0), (vb false), (.str []), (vf 0), (vb false), (.str []), (vf 0), (vb false), (.str []), (vf 0), (vb false), (.str []), (vf 0), (vb false), (.str []), (vf 0), (vb false), (.str []), (vf 0), (vb false), (.str []), (vf 0), (vb false), (.str []), (vf 0), (vb false), (.str []), (vf 0), (vb false), (.str []), (vf 0), (vb false), (.str []), (vf 0), (vb false), (.str []), (vf 0), (vb false), (.str []), (vf 0), (vb false), (.str []), (vf 0), (vb false), (.str []), (vf 0), (vb false), (.str []), (vf 0), (vb false), (.str []), (vf 0), (vb false), (.str []), (vf 0), (vb false), (.str []), (vf 0), (vb false), (.str []), (vf 0), (vb false), (.str []), (vf 0), (vb false), (.str []), (vf 0), (vb false), (.str []), (vf 0), (vb false), (.str []), (vf 0), (vb false), (.str []), (vf 0), (vb false), (.str []), (vf 0), (vb false), (.str []), (vf 0), (vb false), (.str []), (vf 0), (vb false), (.str []), (vf 0), (vb false), (.str []), (vf 0), (vb false), (.str []), (vf 0), (vb false), (.str []), (vf 0), (vb false), (.str []), (vf 0), (vb false), (.str []), (vf 0), (vb false), (.str []), (vf 0), (vb false), (.str []), (vf 0), (vb false), (.str []), (vf 0), (vb false), (.str []), (vf 0), (vb false), (.str []), (vf 0), (vb false), (.str []), (vf 0), (vb false), (.str []), (vf 0), (vb false), (.str []), (vf 0), (vb false), (.str []), (vf 0), (vb false), (.str []), (vf 0), (vb false), (.str []), (vf 0), (vb false), (.str []), (vf 0), (vb false), (.str []), (vf 0), (vb false), (.str []), (vf 0), (vb false), (.str []), (vf 0), (vb false), (.str []), (vf 0), (vb false), (.str []), (vf 0), (vb false), (.str []), (vf 0), (vb false), (.str []), (vf 0), (vb false), (.str []), (vf 0), (vb false), (.str []), (vf 0), (vi 0), (vi 0), (.str []), (.str []), (vi 0), (vi 0), (vi 0), (vi 0), (.str []), (.str [109, 107, 100, 105, 114]), (vi 0), (.str [])] 101 0
def o44 : AO := .map [((.str [97]), (.ptr 681 0))]
def o45 : AO := .cells [(.ptr 642 0), (.ptr 642 0), vp, vp, vp, vp, vp, vp, vp, vp, (vi 1)] 106 0
def o46 : AO := .cells [(vb false), (.str []), (vf 0), (vb false), (.str []), (vf 4647380563911507968)] 98 6
def o47 : AO := .cells [(vi 1), (vi 493), (.str []), (.map 680), (.ptr 642 0), (.str [97])] 112 0
def o48 : AO := .cells [(.slice 691 0 1 0 1 false)] 117 0
def o49 : AO := .cells [(vi 0), (vi 0), (vi 0), (vi 0), (.str []), (vs 0 0)] 43 0
def o50 : AO := .cells [(.str [98]), (.str [97]), (vb true)] 38 6
def cut0 : Cut := ⟨61, [(.str [100, 111, 32, 109, 107, 100, 105, 114, 40, 34, 97, 34, 44, 32, 52, 57, 51, 41, 59, 32, 100, 111, 32, 109, 107, 100, 105, 114, 40, 34, 98, 47, 99, 34, 44, 32, 52, 57, 51, 41, 59])], [(0, o0)], 1, (.ptr 77 0), [(0, o0), (76, o1), (77, o2)], 78⟩
def cut1 : Cut := ⟨261, [(.ptr 77 0)], [(0, o0), (76, o1), (77, .cells [(.slice 76 0 17 0 17 false), (vi 3), (vi 0), (vi 0), (vi 0), (vi 0), (vi 0)] 138 0), (78, o3), (80, o0), (82, o4), (83, o5), (92, o0), (93, o0), (94, o6), (95, o7), (96, o8), (97, o9), (98, o10), (99, o0), (100, o6), (101, o7), (102, o8), (103, o9), (104, o11), (105, o0), (106, o6), (107, o7), (108, o8), (109, o9), (110, o12), (111, o0), (112, o6), (113, o7), (114, o8), (115, o9), (116, o13), (117, o0), (118, o0), (120, o14), (125, o0), (127, o14), (130, o15)], 133, (.agg [(vi 16), (.str [97]), (vf 0), (vs 0 0), (vi 9)]), [(0, o0), (76, o1), (77, .cells [(.slice 76 0 17 0 17 false), (vi 4), (vi 0), (vi 0), (vi 0), (vi 0), (vi 0)] 138 0), (78, o3), (80, o0), (82, o4), (83, o5), (92, o0), (93, o0), (94, o6), (95, o7), (96, o8), (97, o9), (98, o10), (99, o0), (100, o6), (101, o7), (102, o8), (103, o9), (104, o11), (105, o0), (106, o6), (107, o7), (108, o8), (109, o9), (110, o12), (111, o0), (112, o6), (113, o7), (114, o8), (115, o9), (116, o13), (117, o0), (118, o0), (120, o14), (125, o0), (127, o14), (130, o15)], 203⟩
def cut2 : Cut := ⟨261, [(.ptr 77 0)], [(0, o0), (76, o1), (77, .cells [(.slice 76 0 17 0 17 false), (vi 5), (vi 0), (vi 0), (vi 0), (vi 0), (vi 0)] 138 0), (78, o3), (80, o0), (82, o4), (83, o5), (92, o0), (93, o0), (94, o6), (95, o7), (96, o8), (97, o9), (98, o10), (99, o0), (100, o6), (101, o7), (102, o8), (103, o9), (104, o11), (105, o0), (106, o6), (107, o7), (108, o8), (109, o9), (110, o12), (111, o0), (112, o6), (113, o7), (114, o8), (115, o9), (116, o13), (117, o0), (118, o0), (120, o14), (125, o0), (127, o14), (130, o16), (203, o17), (204, o18)], 211, (.agg [(vi 15), (.str []), (vf 4647380563911507968), (vs 0 0), (vi 14)]), [(0, o0), (76, o1), (77, .cells [(.slice 76 0 17 0 17 false), (vi 6), (vi 0), (vi 0), (vi 0), (vi 0), (vi 0)] 138 0), (78, o3), (80, o0), (82, o4), (83, o5), (92, o0), (93, o0), (94, o6), (95, o7), (96, o8), (97, o9), (98, o10), (99, o0), (100, o6), (101, o7), (102, o8), (103, o9), (104, o11), (105, o0), (106, o6), (107, o7), (108, o8), (109, o9), (110, o12), (111, o0), (112, o6), (113, o7), (114, o8), (115, o9), (116, o13), (117, o0), (118, o0), (120, o14), (125, o0), (127, o14), (130, o16), (203, o17), (204, o18)], 281⟩
def cut3 : Cut := ⟨63, [(.ptr 77 0)], [(0, o0), (76, o1), (77, o2), (78, o3)], 80, (.agg [(vi 12), (.str []), (vf 0), (.slice 315 0 1 0 1 true), (vi 0)]), [(0, o0), (76, o1), (77, o19), (78, o3), (282, o20), (315, o21)], 318⟩
def cut4 : Cut := ⟨261, [(.ptr 77 0)], [(0, o0), (76, o1), (77, .cells [(.slice 76 0 17 0 17 false), (vi 11), (vi 0), (vi 0), (vi 0), (vi 0), (vi 0)] 138 0), (78, o22), (282, o20), (315, o21), (318, o23), (319, o24), (321, o0), (323, o25), (324, o26), (333, o0), (334, o0), (335, o6), (336, o7), (337, o8), (338, o9), (339, o27), (340, o0), (341, o6), (342, o7), (343, o8), (344, o9), (345, o28), (346, o0), (347, o6), (348, o7), (349, o8), (350, o9), (351, o29), (352, o0), (353, o6), (354, o7), (355, o8), (356, o9), (357, o30), (358, o0), (359, o0), (361, o31), (366, o0), (368, o31), (371, o32)], 374, (.agg [(vi 16), (.str [98, 47, 99]), (vf 0), (vs 0 0), (vi 29)]), [(0, o0), (76, o1), (77, .cells [(.slice 76 0 17 0 17 false), (vi 12), (vi 0), (vi 0), (vi 0), (vi 0), (vi 0)] 138 0), (78, o22), (282, o20), (315, o21), (318, o23), (319, o24), (321, o0), (323, o25), (324, o26), (333, o0), (334, o0), (335, o6), (336, o7), (337, o8), (338, o9), (339, o27), (340, o0), (341, o6), (342, o7), (343, o8), (344, o9), (345, o28), (346, o0), (347, o6), (348, o7), (349, o8), (350, o9), (351, o29), (352, o0), (353, o6), (354, o7), (355, o8), (356, o9), (357, o30), (358, o0), (359, o0), (361, o31), (366, o0), (368, o31), (371, o32)], 444⟩
def cut5 : Cut := ⟨261, [(.ptr 77 0)], [(0, o0), (76, o1), (77, .cells [(.slice 76 0 17 0 17 false), (vi 13), (vi 0), (vi 0), (vi 0), (vi 0), (vi 0)] 138 0), (78, o22), (282, o20), (315, o21), (318, o23), (319, o24), (321, o0), (323, o25), (324, o26), (333, o0), (334, o0), (335, o6), (336, o7), (337, o8), (338, o9), (339, o27), (340, o0), (341, o6), (342, o7), (343, o8), (344, o9), (345, o28), (346, o0), (347, o6), (348, o7), (349, o8), (350, o9), (351, o29), (352, o0), (353, o6), (354, o7), (355, o8), (356, o9), (357, o30), (358, o0), (359, o0), (361, o31), (366, o0), (368, o31), (371, o33), (444, o34), (445, o35)], 452, (.agg [(vi 15), (.str []), (vf 4647380563911507968), (vs 0 0), (vi 36)]), [(0, o0), (76, o1), (77, .cells [(.slice 76 0 17 0 17 false), (vi 14), (vi 0), (vi 0), (vi 0), (vi 0), (vi 0)] 138 0), (78, o22), (282, o20), (315, o21), (318, o23), (319, o24), (321, o0), (323, o25), (324, o26), (333, o0), (334, o0), (335, o6), (336, o7), (337, o8), (338, o9), (339, o27), (340, o0), (341, o6), (342, o7), (343, o8), (344, o9), (345, o28), (346, o0), (347, o6), (348, o7), (349, o8), (350, o9), (351, o29), (352, o0), (353, o6), (354, o7), (355, o8), (356, o9), (357, o30), (358, o0), (359, o0), (361, o31), (366, o0), (368, o31), (371, o33), (444, o34), (445, o35)], 522⟩
def cut6 : Cut := ⟨63, [(.ptr 77 0)], [(0, o0), (76, o1), (77, o19), (78, o22), (282, o20), (315, o21), (318, o23), (319, o24)], 321, (.agg [(vi 12), (.str []), (vf 0), (.slice 556 0 1 0 1 true), (vi 20)]), [(0, o0), (76, o1), (77, .cells [(.slice 76 0 17 0 17 false), (vi 16), (vi 0), (vi 0), (vi 0), (vi 0), (vi 0)] 138 0), (78, o22), (282, o20), (315, o21), (318, o23), (319, o24), (523, .cells [(vi 16), (.str [98, 47, 99]), (vf 0), (vs 0 0), (vi 29), (vi 15), (.str []), (vf 4647380563911507968), (vs 0 0), (vi 36)] 80 10), (556, .cells [(vi 19), (.str [109, 107, 100, 105, 114]), (vf 0), (.slice 523 0 2 0 2 false), (vi 23)] 80 0)], 559⟩
def cut7 : Cut := ⟨13, [(.str [100, 111, 32, 109, 107, 100, 105, 114, 40, 34, 97, 34, 44, 32, 52, 57, 51, 41, 59, 32, 100, 111, 32, 109, 107, 100, 105, 114, 40, 34, 98, 47, 99, 34, 44, 32, 52, 57, 51, 41, 59])], [], 0, (.slice 614 0 9 0 9 false), [(614, o36)], 615⟩
def cut8 : Cut := ⟨6, [(.agg [(vs 0 0)]), (.slice 614 0 9 0 9 false), (vi 100)], [(614, o36)], 615, (.tuple [(.ptr 649 0), (vi 0)]), [(614, o36), (639, o36), (640, o37), (641, o38), (642, o39), (643, o40), (645, o41), (649, o42)], 650⟩
def cut9 : Cut := ⟨14, [(.ptr 649 0)], [(614, o36), (639, o36), (640, o37), (641, o38), (642, o39), (643, o40), (645, o41), (649, o42)], 650, (.tuple [(.agg [(vi 0), (vi 0), (vi 0), (vi 0), (.str []), (vs 0 0)]), (vi 0)]), [(614, o36), (639, o36), (640, o43), (641, o44), (642, o39), (643, o45), (645, o41), (649, o42), (662, o46), (680, o38), (681, o47)], 687⟩
def cut10 : Cut := ⟨14, [(.ptr 649 0)], [(614, o36), (639, o36), (640, o43), (641, o44), (642, o39), (643, o45), (645, o48), (649, o42), (662, o46), (680, o38), (681, o47), (687, o49), (691, o50)], 692, (.tuple [(.agg [(vi 11), (vi 0), (vi 0), (vi 0), (.str []), (vs 0 0)]), (vi 0)]), [(614, o36), (639, o36), (640, .cells [(.slice 639 0 9 0 9 false), (vi 7), (vi 93), (vi 7), (.slice 662 0 1 0 2 false), (vb false), (.str []), (vf 0), (vb false), (.str []), (vf 0), (vb false), (.str []), (vf 0), (vb false), (.str []), (vf 0), (vb false), (.str []), (vf 0), (vb false), (.str []), (vf 0), (vb false), (.str []), (vf 0), (vb false), (.str []), (vf 0), (vb false), (.str []), (vf 0), (vb false), (.str []), (vf 0), (vb false), (.str []), (vf 0), (vb false), (.str []), (vf 0), (vb false), (.str []), (vf 0), (vb false), (.str []), (vf 0), (vb false), (.str []), (vf 0), (vb false), (.str []), (vf 0), (vb false), (.str []), (vf 0), (vb false), (.str []), (vf 0), (vb false), (.str []), (vf 0), (vb false), (.str []), (vf 0), (vb false), (.str []), (vf 0), (vb false), (.str []), (vf 0), (vb false), (.str []), (vf 0), (vb false), (.str []), (vf 0), (vb false), (.str []), (vf 0), (vb false), (.str []), (vf 0), (vb false), (.str []), (vf 0), (vb false), (.str []), (vf 0), (vb false), (.str []), (vf 0), (vb false), (.str []), (vf 0), (vb false), (.str []), (vf 0), (vb false), (.str []), (vf 0), (vb false), (.str []), (vf 0), (vb false), (.str []), (vf 0), (vb false), (.str []), (vf 0), (vb false), (.str []), (vf 0), (vb false), (.str []), (vf 0), (vb false), (.str []), (vf 0), (vb false), (.str []), (vf 0), (vb false), (.str []), (vf 0), (vb false), (.str []), (vf 0), (vb false), (.str []), (vf 0), (vb false), (.str []), (vf 0), (vb false), (.str []), (vf 0), (vb false), (.str []), (vf 0), (vb false), (.str []), (vf 0), (vb false), (.str []), (vf 0), (vb false), (.str []), (vf 0), (vb false), (.str []), (vf 0), (vb false), (.str []), (vf 0), (vb false), (.str []), (vf 0), (vb false), (.str []), (vf 0), (vb false), (.str []), (vf 0), (vb false), (.str []), (vf 0), (vb false), (.str []), (vf 0), (vb false), (.str []), (vf 0), (vb false), (.str []), (vf 0), (vb false), (.str []), (vf 0), (vb false), (.str []), (vf 0), (vb false), (.str []), (vf 0), (vb false), (.str []), (vf 0), (vb false), (.str []), (vf 0), (vb false), (.str []), (vf 0), (vb false), (.str []), (vf 0), (vi 0), (vi 0), (.str []), (.str []), (vi 0), (vi 0), (vi 0), (vi 0), (.str []), (.str [109, 107, 100, 105, 114]), (vi 0), (.str [])] 101 0), (641, o44), (642, o39), (643, o45), (645, o48), (649, o42), (662, .cells [(vb false), (.str []), (vf 13845754104397168640), (vb false), (.str []), (vf 4647380563911507968)] 98 6), (680, o38), (681, o47), (687, o49), (691, o50)], 726⟩
end Go.AX
namespace Go.AX
open Go.Proofs Go.RowKit
set_option maxRecDepth 1000000
set_option maxHeartbeats 400000000
def pc0 : Prims := prT
theorem okc0 : Ok TE Tryz.prog pc0 := okT
theorem ran0 : cut0.ran pc0 TE = true := by kernel_rfl
def pc1 : Prims := pc0.cut cut0
theorem okc1 : Ok TE Tryz.prog pc1 := ok_cut okc0 ran0
theorem ran1 : cut1.ran pc1 TE = true := by kernel_rfl
def pc2 : Prims := pc1.cut cut1
theorem okc2 : Ok TE Tryz.prog pc2 := ok_cut okc1 ran1
theorem ran2 : cut2.ran pc2 TE = true := by kernel_rfl
def pc3 : Prims := pc2.cut cut2
theorem okc3 : Ok TE Tryz.prog pc3 := ok_cut okc2 ran2
theorem ran3 : cut3.ran pc3 TE = true := by kernel_rfl
def pc4 : Prims := pc3.cut cut3
theorem okc4 : Ok TE Tryz.prog pc4 := ok_cut okc3 ran3
theorem ran4 : cut4.ran pc4 TE = true := by kernel_rfl
def pc5 : Prims := pc4.cut cut4
theorem okc5 : Ok TE Tryz.prog pc5 := ok_cut okc4 ran4
theorem ran5 : cut5.ran pc5 TE = true := by kernel_rfl
def pc6 : Prims := pc5.cut cut5
theorem okc6 : Ok TE Tryz.prog pc6 := ok_cut okc5 ran5
theorem ran6 : cut6.ran pc6 TE = true := by kernel_rfl
def pc7 : Prims := pc6.cut cut6
theorem okc7 : Ok TE Tryz.prog pc7 := ok_cut okc6 ran6
theorem ran7 : cut7.ran pc7 TE = true := by kernel_rfl
def pc8 : Prims := pc7.cut cut7
theorem okc8 : Ok TE Tryz.prog pc8 := ok_cut okc7 ran7
theorem ran8 : cut8.ran pc8 TE = true := by kernel_rfl
def pc9 : Prims := pc8.cut cut8
theorem okc9 : Ok TE Tryz.prog pc9 := ok_cut okc8 ran8
theorem ran9 : cut9.ran pc9 TE = true := by kernel_rfl
def pc10 : Prims := pc9.cut cut9
theorem okc10 : Ok TE Tryz.prog pc10 := ok_cut okc9 ran9
theorem ran10 : cut10.ran pc10 TE = true := by kernel_rfl
def pc11 : Prims := pc10.cut cut10
theorem okc11 : Ok TE Tryz.prog pc11 := ok_cut okc10 ran10
theorem ran11 : (evY TE pc11 3000).call 4 [] st0 (fun v _ => isTrue v) (fun _ _ => false) = true := by kernel_rfl
theorem awakeRun : (sem Tryz.prog).call 4 [] st0 (fun v _ => isTrue v) (fun _ _ => false) = true := sem_max_call (evY_sound okc11 3000) ran11
end Go.AX
namespace Go.AX
open Go.Proofs Go.RowKit
set_option maxRecDepth 1000000
set_option linter.unusedSimpArgs false
def awakeP (args : List AV) (s : St) : Option (AV × St) := match args with
  | [] => some (boolA true, s)
  | _ => none
def pr3 : Prims := pr2.add 4 awakeP
theorem ok3 : Ok TE Tryz.prog pr3 := ⟨ok0.prog, prims_add (ok2 ok0).prims (fun {args s s' v w0 w E Args} h hv hs => by
  unfold awakeP at h
  split at h
  · simp only [Option.some.injEq, Prod.mk.injEq] at h
    obtain ⟨rfl, rfl⟩ := h
    exact lift_flat rfl rfl (fun kr kp hk => call_true awakeRun hk) hv hs
  · cases h)⟩
theorem pe3 {g : Nat} {args : List AV} {s : St} (h : g ≠ 268) : pr3.ext g args s = none := pe_ne h
theorem pf3 {g : Nat} {args : List AV} {s : St} (h1 : g ≠ 70) (h2 : g ≠ 138) (h3 : g ≠ 133) (h4 : g ≠ 137) (h5 : g ≠ 92) (h6 : g ≠ 91) (h7 : g ≠ 49) (h8 : g ≠ 90) (h9 : g ≠ 4) : pr3.fn g args s = none := by
  unfold pr3
  rw [add_ne h9]
  unfold pr2
  rw [add_ne h8, add_ne h7]
  exact pf1 h1 h2 h3 h4 h5 h6
end Go.AX
namespace Go.AX
open Go.Proofs Go.RowKit
set_option maxRecDepth 1000000
set_option linter.unusedSimpArgs false
def toU : AV → AV
  | .raw (.int _ z) => .raw (.int .u64 (IntKind.u64.wrap z))
  | v => v
theorem toU_int {k : IntKind} {z : Int} : toU (.raw (.int k z)) = .raw (.int .u64 (IntKind.u64.wrap z)) := (rfl)
theorem run_cv {z : Int} : pureRun TE.P (do pure (Next.value (← convert 3 45 (.int .i64 z)))) = some (.value (.int .u64 (IntKind.u64.wrap z))) := by kernel_rfl
theorem tx_cv {s : St} {z : Int} : textA TE s 3 45 (.raw (.int .i64 z)) = none := by kernel_rfl
theorem o_cvt {pr : Prims} {r : Tasks} {rd : Option Nat} {a : Ac} {s : St} {dst : Option Tmp} {x : Operand} {ty : TypeId} {pos : String} {after : Array Edge} {k : Ac → St → Bool} {kp : AV → St → Bool} (h : isI64 (a.eval x) = true) :
    evOp TE pr r rd ⟨dst, .convert 3 45 x, ty, pos, after, none⟩ a s k kp = putK a dst (toU (a.eval x)) s k := by
  obtain ⟨z, hz⟩ := isI64_of h
  have h1 : valAt a x = .int .i64 z := by simp [valAt, hz, toVal]
  have hall : (Op.operands (.convert 3 45 x)).toList.all (fun x => (toVal (a.eval x)).isSome) = true := by
    show (List.all [x] (fun x => (toVal (a.eval x)).isSome)) = true
    simp [hz, toVal]
  have hr : pureRun TE.P (execOp (valAt a) ⟨dst, .convert 3 45 x, ty, pos, after, none⟩) = some (.value (.int .u64 (IntKind.u64.wrap z))) := by
    have he : execOp (valAt a) ⟨dst, .convert 3 45 x, ty, pos, after, none⟩ = (do pure (Next.value (← convert 3 45 (.int .i64 z)))) := by
      simp only [execOp, h1]
    rw [he]
    exact run_cv
  have hp : stepPure TE a ⟨dst, .convert 3 45 x, ty, pos, after, none⟩ = some (.raw (.int .u64 (IntKind.u64.wrap z)), []) := by
    simp only [stepPure, hall, cond_true, hr]
    rfl
  have hs : stepP TE a s ⟨dst, .convert 3 45 x, ty, pos, after, none⟩ = some (.raw (.int .u64 (IntKind.u64.wrap z)), []) := by
    simp only [stepP, hz, tx_cv, hp]
  show plainOp TE ⟨dst, .convert 3 45 x, ty, pos, after, none⟩ a s k = _
  rw [plain_some hs, hz]
  rfl
def isU64 : AV → Bool
  | .raw (.int .u64 _) => true
  | _ => false
theorem u64_int {z : Int} : isU64 (.raw (.int .u64 z)) = true := (rfl)
theorem isU64_of {v : AV} (h : isU64 v = true) : ∃ z, v = .raw (.int .u64 z) := by
  unfold isU64 at h
  split at h
  · exact ⟨_, rfl⟩
  · cases h
def remA (m : Int) : AV → Option (AV × List Nat)
  | .raw (.int .u64 z) => some (.raw (.int .u64 (z.tmod m)), [])
  | _ => none
theorem remA_int {m z : Int} : remA m (.raw (.int .u64 z)) = some (.raw (.int .u64 (z.tmod m)), []) := (rfl)
theorem b_rem {v w : AV} : binFast .rem v w = none := by
  unfold binFast
  split
  · split <;> rfl
  · rfl
  · rfl
theorem eqS_rem {s : St} {t : TypeId} {x y : AV} {d : Option (AV × List Nat)} : eqS TE s .rem t x y d = d := (rfl)
theorem rm_eq {e : Env} {a : Ac} {dst : Option Tmp} {x : Operand} {t t' ty : TypeId} {pos : String} {after : Array Edge} {m : Int} (hm : m ≠ 0) (hx : isU64 (a.eval x) = true) :
    stepPure e a ⟨dst, .binOp .rem t x (.const (.int .u64 m)) t', ty, pos, after, none⟩ = remA m (a.eval x) := by
  obtain ⟨u, hx⟩ := isU64_of hx
  have h1 : valAt a x = .int .u64 u := by simp [valAt, hx, toVal]
  have h2 : valAt a (.const (.int .u64 m)) = .int .u64 m := rfl
  have hall : (Op.operands (.binOp .rem t x (.const (.int .u64 m)) t')).toList.all (fun x => (toVal (a.eval x)).isSome) = true := by
    show (List.all [x, .const (.int .u64 m)] (fun x => (toVal (a.eval x)).isSome)) = true
    simp only [List.all_cons, List.all_nil, hx]
    rfl
  have hr : pureRun e.P (execOp (valAt a) ⟨dst, .binOp .rem t x (.const (.int .u64 m)) t', ty, pos, after, none⟩) = some (.value (.int .u64 (u.tmod m))) := by
    have : execOp (valAt a) ⟨dst, .binOp .rem t x (.const (.int .u64 m)) t', ty, pos, after, none⟩ = .pure (.value (.int .u64 (u.tmod m))) := by
      have hd : Op.intDiv .rem .u64 u m = .pure (.int .u64 (u.tmod m)) := by
        simp only [Op.intDiv, if_neg hm]
        rfl
      simp only [execOp, h1, h2]
      show (do pure (Next.value (← Op.intDiv .rem .u64 u m))) = _
      rw [hd]
      rfl
    rw [this]; rfl
  simp only [stepPure, hall, cond_true, hr, hx]
  rfl
theorem rem_lt {z : Int} {m : Nat} (hm : 0 < m) : ∃ r : Nat, r < m ∧ (IntKind.u64.wrap z).tmod (m : Int) = (r : Int) := by
  have h0 : 0 ≤ IntKind.u64.wrap z := by
    show 0 ≤ z % 18446744073709551616
    omega
  obtain ⟨n, hn⟩ : ∃ n : Nat, IntKind.u64.wrap z = (n : Int) := ⟨_, (Int.toNat_of_nonneg h0).symm⟩
  refine ⟨n % m, Nat.mod_lt _ hm, ?_⟩
  rw [hn]
  exact (Int.ofNat_tmod n m).symm
end Go.AX
