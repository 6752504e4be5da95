-- printed by a program of this session (over the kit's print, with contracts of its own for the functions of package thread)
import Derived.Test.YtfjbodaakmapdaaPThreadCommonx0
import Derived.Test.YtfjbodaakmapdaaPThreadCommonx1
namespace Go.Proofs.Ytfjbodaakmapdaa.PThreadCommon
open Go.RowKit Go.Proofs.YtfjbodaakmapdaaW.PrintWords Go.Proofs.YtfjbodaakmapdaaW.PrintLast Go.Proofs.YtfjbodaakmapdaaW.PrintMore
attribute [local go_sem] max2_int min2_int max_two min_two max_three min_three max_four min_four   -- for this text's walks alone
set_option linter.unusedVariables false
set_option linter.unusedSimpArgs false

/-! ### tickinglaw03_ThreadCommon: function 9 -/
mutual
def tickinglaw03_ThreadCommon.j0 : Nat → ByteArray → ByteArray → ByteArray → ByteArray → Bool → Option (Bool)
  | 0, _, _, _, _, _ => none
  | k + 1, x0, x1, x2, x7, x87 => if x87 = true then (some false) else (tickinglaw03_ThreadCommon.l0 k x0 x1 x2 x7 (⟨#[]⟩ : ByteArray) 0)
def tickinglaw03_ThreadCommon.l0 : Nat → ByteArray → ByteArray → ByteArray → ByteArray → ByteArray → Int → Option (Bool)
  | 0, _, _, _, _, _, _ => none
  | k + 1, x0, x1, x2, x7, x17, x18 => if x18 < (x2.size : Int) then (if 0 ≤ x18 then (if x18 ≤ (wrap64 (x18 + 1)) then (if (wrap64 (x18 + 1)) ≤ (x2.size : Int) then (if x17.size + (x2.extract (x18 : Int).toNat ((wrap64 (x18 + 1)) : Int).toNat).size ≤ 9223372036854775807 then ((tickingref03_Within.f k (x17 ++ (x2.extract (x18 : Int).toNat ((wrap64 (x18 + 1)) : Int).toNat)) x0).bind fun bt152 => ((tickingref03_Within.f k (x17 ++ (x2.extract (x18 : Int).toNat ((wrap64 (x18 + 1)) : Int).toNat)) x1).bind fun bt156 => (if bt152.2 = true then (if bt156.2 = true then (tickinglaw03_ThreadCommon.l0 k x0 x1 x2 x7 (x17 ++ (x2.extract (x18 : Int).toNat ((wrap64 (x18 + 1)) : Int).toNat)) (wrap64 (x18 + 1))) else (tickinglaw03_ThreadCommon.l0 k x0 x1 x2 x7 x17 (wrap64 (x18 + 1)))) else (tickinglaw03_ThreadCommon.l0 k x0 x1 x2 x7 x17 (wrap64 (x18 + 1)))))) else (none)) else (none)) else (none)) else (none)) else (if (x17.size : Int) ≤ (x7.size : Int) then ((tickinglaw03_awake.f k).bind fun t151 => (some t151)) else (some false))
end
def tickinglaw03_ThreadCommon.f (k : Nat) (a0 : ByteArray) (a1 : ByteArray) (a2 : ByteArray) : Option (Bool) := (Given.tickinglaw03_tame.f a0 40 4).bind fun t134 => ((Given.tickinglaw03_tame.f a1 40 4).bind fun t135 => ((Given.tickinglaw03_tame.f a2 40 4).bind fun t136 => ((Given.thread_Longest.f t134 t135).bind fun bt137 => ((Given.thread_Longest.f t135 t134).bind fun bt139 => ((Given.thread_Longest.f t134 t134).bind fun bt141 => ((Given.thread_Within.f bt137.1 t134).bind fun bt143 => ((Given.thread_Within.f bt137.1 t135).bind fun bt147 => (if bt137.2 = 0 then (if bt139.2 = 0 then (if bt141.2 = 0 then (if bt143.2 = 0 then (if bt147.2 = 0 then (if bt137.1.toList = bt139.1.toList then (tickinglaw03_ThreadCommon.j0 k t134 t135 t136 bt137.1 (bt141.1.toList != t134.toList)) else (tickinglaw03_ThreadCommon.j0 k t134 t135 t136 bt137.1 true)) else (tickinglaw03_ThreadCommon.j0 k t134 t135 t136 bt137.1 true)) else (tickinglaw03_ThreadCommon.j0 k t134 t135 t136 bt137.1 true)) else (tickinglaw03_ThreadCommon.j0 k t134 t135 t136 bt137.1 true)) else (tickinglaw03_ThreadCommon.j0 k t134 t135 t136 bt137.1 true)) else (tickinglaw03_ThreadCommon.j0 k t134 t135 t136 bt137.1 true)))))))))
theorem tickinglaw03_ThreadCommon.mono_l : ∀ k, (∀ y0 y1 y2 y3 y4, LeO (tickinglaw03_ThreadCommon.j0 k y0 y1 y2 y3 y4) (tickinglaw03_ThreadCommon.j0 (k + 1) y0 y1 y2 y3 y4)) ∧ (∀ y0 y1 y2 y3 y4 y5, LeO (tickinglaw03_ThreadCommon.l0 k y0 y1 y2 y3 y4 y5) (tickinglaw03_ThreadCommon.l0 (k + 1) y0 y1 y2 y3 y4 y5))
  | 0 => ⟨fun _ _ _ _ _ r h => by simp [tickinglaw03_ThreadCommon.j0] at h, fun _ _ _ _ _ _ r h => by simp [tickinglaw03_ThreadCommon.l0] at h⟩
  | k + 1 => by
    obtain ⟨ih0, ih1⟩ := tickinglaw03_ThreadCommon.mono_l k
    refine ⟨?_, ?_⟩
    · intro y0 y1 y2 y3 y4
      unfold tickinglaw03_ThreadCommon.j0
      repeat' first
      | (with_reducible exact ih0 _ _ _ _ _)
      | (with_reducible exact ih1 _ _ _ _ _ _)
      | (with_reducible exact tickinglaw03_awake.mono _)
      | (with_reducible exact tickingref03_Within.mono _ _ _)
      | (with_reducible exact LeO.refl _)
      | (with_reducible exact LeO.none _)
      | (with_reducible refine LeO.ite ?_ ?_)
      | (with_reducible refine LeO.bind ?_ (fun _ => ?_))
      | exact ih0 _ _ _ _ _
      | exact ih1 _ _ _ _ _ _
      | exact tickinglaw03_awake.mono _
      | exact tickingref03_Within.mono _ _ _
      | exact LeO.none _
      | refine LeO.ite ?_ ?_
      | refine LeO.bind ?_ (fun _ => ?_)
    · intro y0 y1 y2 y3 y4 y5
      unfold tickinglaw03_ThreadCommon.l0
      repeat' first
      | (with_reducible exact ih0 _ _ _ _ _)
      | (with_reducible exact ih1 _ _ _ _ _ _)
      | (with_reducible exact tickinglaw03_awake.mono _)
      | (with_reducible exact tickingref03_Within.mono _ _ _)
      | (with_reducible exact LeO.refl _)
      | (with_reducible exact LeO.none _)
      | (with_reducible refine LeO.ite ?_ ?_)
      | (with_reducible refine LeO.bind ?_ (fun _ => ?_))
      | exact ih0 _ _ _ _ _
      | exact ih1 _ _ _ _ _ _
      | exact tickinglaw03_awake.mono _
      | exact tickingref03_Within.mono _ _ _
      | exact LeO.none _
      | refine LeO.ite ?_ ?_
      | refine LeO.bind ?_ (fun _ => ?_)
theorem tickinglaw03_ThreadCommon.mono : ∀ a0 a1 a2 k, LeO (tickinglaw03_ThreadCommon.f k a0 a1 a2) (tickinglaw03_ThreadCommon.f (k + 1) a0 a1 a2) := by
  intro a0 a1 a2 k
  obtain ⟨ih0, ih1⟩ := tickinglaw03_ThreadCommon.mono_l k
  unfold tickinglaw03_ThreadCommon.f
  repeat' first
      | (with_reducible exact ih0 _ _ _ _ _)
      | (with_reducible exact ih1 _ _ _ _ _ _)
      | (with_reducible exact tickinglaw03_awake.mono _)
      | (with_reducible exact tickingref03_Within.mono _ _ _)
      | (with_reducible exact LeO.refl _)
      | (with_reducible exact LeO.none _)
      | (with_reducible refine LeO.ite ?_ ?_)
      | (with_reducible refine LeO.bind ?_ (fun _ => ?_))
      | exact ih0 _ _ _ _ _
      | exact ih1 _ _ _ _ _ _
      | exact tickinglaw03_awake.mono _
      | exact tickingref03_Within.mono _ _ _
      | exact LeO.none _
      | refine LeO.ite ?_ ?_
      | refine LeO.bind ?_ (fun _ => ?_)
set_option maxHeartbeats 8000000 in
set_option maxRecDepth 100000 in
theorem tickinglaw03_ThreadCommon.calls (k : Nat) (a0 : ByteArray) (a1 : ByteArray) (a2 : ByteArray) (r : Bool) (w : World) (h : tickinglaw03_ThreadCommon.f k a0 a1 a2 = some r) :
    Calls Try.prog 9 #[.string a0, .string a1, .string a2] w fun e w' => e = .returned (.bool r) ∧ Below w.heap.size w w' := by
  have HB := Aside0.mk (Below.refl w.heap.size w)
  have H : ((Given.tickinglaw03_tame.f a0 40 4).bind fun t134 => ((Given.tickinglaw03_tame.f a1 40 4).bind fun t135 => ((Given.tickinglaw03_tame.f a2 40 4).bind fun t136 => ((Given.thread_Longest.f t134 t135).bind fun bt137 => ((Given.thread_Longest.f t135 t134).bind fun bt139 => ((Given.thread_Longest.f t134 t134).bind fun bt141 => ((Given.thread_Within.f bt137.1 t134).bind fun bt143 => ((Given.thread_Within.f bt137.1 t135).bind fun bt147 => (if bt137.2 = 0 then (if bt139.2 = 0 then (if bt141.2 = 0 then (if bt143.2 = 0 then (if bt147.2 = 0 then (if bt137.1.toList = bt139.1.toList then (tickinglaw03_ThreadCommon.j0 k t134 t135 t136 bt137.1 (bt141.1.toList != t134.toList)) else (tickinglaw03_ThreadCommon.j0 k t134 t135 t136 bt137.1 true)) else (tickinglaw03_ThreadCommon.j0 k t134 t135 t136 bt137.1 true)) else (tickinglaw03_ThreadCommon.j0 k t134 t135 t136 bt137.1 true)) else (tickinglaw03_ThreadCommon.j0 k t134 t135 t136 bt137.1 true)) else (tickinglaw03_ThreadCommon.j0 k t134 t135 t136 bt137.1 true)) else (tickinglaw03_ThreadCommon.j0 k t134 t135 t136 bt137.1 true)))))))))) = some r := h
  clear h
  replace H := Option.bind_eq_some_iff.mp H
  obtain ⟨t134, A40, H⟩ := H
  replace H : ((Given.tickinglaw03_tame.f a1 40 4).bind fun t135 => ((Given.tickinglaw03_tame.f a2 40 4).bind fun t136 => ((Given.thread_Longest.f t134 t135).bind fun bt137 => ((Given.thread_Longest.f t135 t134).bind fun bt139 => ((Given.thread_Longest.f t134 t134).bind fun bt141 => ((Given.thread_Within.f bt137.1 t134).bind fun bt143 => ((Given.thread_Within.f bt137.1 t135).bind fun bt147 => (if bt137.2 = 0 then (if bt139.2 = 0 then (if bt141.2 = 0 then (if bt143.2 = 0 then (if bt147.2 = 0 then (if bt137.1.toList = bt139.1.toList then (tickinglaw03_ThreadCommon.j0 k t134 t135 t136 bt137.1 (bt141.1.toList != t134.toList)) else (tickinglaw03_ThreadCommon.j0 k t134 t135 t136 bt137.1 true)) else (tickinglaw03_ThreadCommon.j0 k t134 t135 t136 bt137.1 true)) else (tickinglaw03_ThreadCommon.j0 k t134 t135 t136 bt137.1 true)) else (tickinglaw03_ThreadCommon.j0 k t134 t135 t136 bt137.1 true)) else (tickinglaw03_ThreadCommon.j0 k t134 t135 t136 bt137.1 true)) else (tickinglaw03_ThreadCommon.j0 k t134 t135 t136 bt137.1 true))))))))) = some r := H
  have A4 := Aside0.mk A40
  clear A40
  replace H := Option.bind_eq_some_iff.mp H
  obtain ⟨t135, A50, H⟩ := H
  replace H : ((Given.tickinglaw03_tame.f a2 40 4).bind fun t136 => ((Given.thread_Longest.f t134 t135).bind fun bt137 => ((Given.thread_Longest.f t135 t134).bind fun bt139 => ((Given.thread_Longest.f t134 t134).bind fun bt141 => ((Given.thread_Within.f bt137.1 t134).bind fun bt143 => ((Given.thread_Within.f bt137.1 t135).bind fun bt147 => (if bt137.2 = 0 then (if bt139.2 = 0 then (if bt141.2 = 0 then (if bt143.2 = 0 then (if bt147.2 = 0 then (if bt137.1.toList = bt139.1.toList then (tickinglaw03_ThreadCommon.j0 k t134 t135 t136 bt137.1 (bt141.1.toList != t134.toList)) else (tickinglaw03_ThreadCommon.j0 k t134 t135 t136 bt137.1 true)) else (tickinglaw03_ThreadCommon.j0 k t134 t135 t136 bt137.1 true)) else (tickinglaw03_ThreadCommon.j0 k t134 t135 t136 bt137.1 true)) else (tickinglaw03_ThreadCommon.j0 k t134 t135 t136 bt137.1 true)) else (tickinglaw03_ThreadCommon.j0 k t134 t135 t136 bt137.1 true)) else (tickinglaw03_ThreadCommon.j0 k t134 t135 t136 bt137.1 true)))))))) = some r := H
  have A5 := Aside0.mk A50
  clear A50
  replace H := Option.bind_eq_some_iff.mp H
  obtain ⟨t136, A60, H⟩ := H
  replace H : ((Given.thread_Longest.f t134 t135).bind fun bt137 => ((Given.thread_Longest.f t135 t134).bind fun bt139 => ((Given.thread_Longest.f t134 t134).bind fun bt141 => ((Given.thread_Within.f bt137.1 t134).bind fun bt143 => ((Given.thread_Within.f bt137.1 t135).bind fun bt147 => (if bt137.2 = 0 then (if bt139.2 = 0 then (if bt141.2 = 0 then (if bt143.2 = 0 then (if bt147.2 = 0 then (if bt137.1.toList = bt139.1.toList then (tickinglaw03_ThreadCommon.j0 k t134 t135 t136 bt137.1 (bt141.1.toList != t134.toList)) else (tickinglaw03_ThreadCommon.j0 k t134 t135 t136 bt137.1 true)) else (tickinglaw03_ThreadCommon.j0 k t134 t135 t136 bt137.1 true)) else (tickinglaw03_ThreadCommon.j0 k t134 t135 t136 bt137.1 true)) else (tickinglaw03_ThreadCommon.j0 k t134 t135 t136 bt137.1 true)) else (tickinglaw03_ThreadCommon.j0 k t134 t135 t136 bt137.1 true)) else (tickinglaw03_ThreadCommon.j0 k t134 t135 t136 bt137.1 true))))))) = some r := H
  have A6 := Aside0.mk A60
  clear A60
  replace H := Option.bind_eq_some_iff.mp H
  obtain ⟨⟨t137, t138⟩, A70, H⟩ := H
  replace H : ((Given.thread_Longest.f t135 t134).bind fun bt139 => ((Given.thread_Longest.f t134 t134).bind fun bt141 => ((Given.thread_Within.f t137 t134).bind fun bt143 => ((Given.thread_Within.f t137 t135).bind fun bt147 => (if t138 = 0 then (if bt139.2 = 0 then (if bt141.2 = 0 then (if bt143.2 = 0 then (if bt147.2 = 0 then (if t137.toList = bt139.1.toList then (tickinglaw03_ThreadCommon.j0 k t134 t135 t136 t137 (bt141.1.toList != t134.toList)) else (tickinglaw03_ThreadCommon.j0 k t134 t135 t136 t137 true)) else (tickinglaw03_ThreadCommon.j0 k t134 t135 t136 t137 true)) else (tickinglaw03_ThreadCommon.j0 k t134 t135 t136 t137 true)) else (tickinglaw03_ThreadCommon.j0 k t134 t135 t136 t137 true)) else (tickinglaw03_ThreadCommon.j0 k t134 t135 t136 t137 true)) else (tickinglaw03_ThreadCommon.j0 k t134 t135 t136 t137 true)))))) = some r := H
  have A7 := Aside0.mk A70
  clear A70
  replace H := Option.bind_eq_some_iff.mp H
  obtain ⟨⟨t139, t140⟩, A80, H⟩ := H
  replace H : ((Given.thread_Longest.f t134 t134).bind fun bt141 => ((Given.thread_Within.f t137 t134).bind fun bt143 => ((Given.thread_Within.f t137 t135).bind fun bt147 => (if t138 = 0 then (if t140 = 0 then (if bt141.2 = 0 then (if bt143.2 = 0 then (if bt147.2 = 0 then (if t137.toList = t139.toList then (tickinglaw03_ThreadCommon.j0 k t134 t135 t136 t137 (bt141.1.toList != t134.toList)) else (tickinglaw03_ThreadCommon.j0 k t134 t135 t136 t137 true)) else (tickinglaw03_ThreadCommon.j0 k t134 t135 t136 t137 true)) else (tickinglaw03_ThreadCommon.j0 k t134 t135 t136 t137 true)) else (tickinglaw03_ThreadCommon.j0 k t134 t135 t136 t137 true)) else (tickinglaw03_ThreadCommon.j0 k t134 t135 t136 t137 true)) else (tickinglaw03_ThreadCommon.j0 k t134 t135 t136 t137 true))))) = some r := H
  have A8 := Aside0.mk A80
  clear A80
  replace H := Option.bind_eq_some_iff.mp H
  obtain ⟨⟨t141, t142⟩, A90, H⟩ := H
  replace H : ((Given.thread_Within.f t137 t134).bind fun bt143 => ((Given.thread_Within.f t137 t135).bind fun bt147 => (if t138 = 0 then (if t140 = 0 then (if t142 = 0 then (if bt143.2 = 0 then (if bt147.2 = 0 then (if t137.toList = t139.toList then (tickinglaw03_ThreadCommon.j0 k t134 t135 t136 t137 (t141.toList != t134.toList)) else (tickinglaw03_ThreadCommon.j0 k t134 t135 t136 t137 true)) else (tickinglaw03_ThreadCommon.j0 k t134 t135 t136 t137 true)) else (tickinglaw03_ThreadCommon.j0 k t134 t135 t136 t137 true)) else (tickinglaw03_ThreadCommon.j0 k t134 t135 t136 t137 true)) else (tickinglaw03_ThreadCommon.j0 k t134 t135 t136 t137 true)) else (tickinglaw03_ThreadCommon.j0 k t134 t135 t136 t137 true)))) = some r := H
  have A9 := Aside0.mk A90
  clear A90
  replace H := Option.bind_eq_some_iff.mp H
  obtain ⟨⟨t143, t144⟩, A100, H⟩ := H
  replace H : ((Given.thread_Within.f t137 t135).bind fun bt147 => (if t138 = 0 then (if t140 = 0 then (if t142 = 0 then (if t144 = 0 then (if bt147.2 = 0 then (if t137.toList = t139.toList then (tickinglaw03_ThreadCommon.j0 k t134 t135 t136 t137 (t141.toList != t134.toList)) else (tickinglaw03_ThreadCommon.j0 k t134 t135 t136 t137 true)) else (tickinglaw03_ThreadCommon.j0 k t134 t135 t136 t137 true)) else (tickinglaw03_ThreadCommon.j0 k t134 t135 t136 t137 true)) else (tickinglaw03_ThreadCommon.j0 k t134 t135 t136 t137 true)) else (tickinglaw03_ThreadCommon.j0 k t134 t135 t136 t137 true)) else (tickinglaw03_ThreadCommon.j0 k t134 t135 t136 t137 true))) = some r := H
  have A10 := Aside0.mk A100
  clear A100
  replace H := Option.bind_eq_some_iff.mp H
  obtain ⟨⟨t147, t148⟩, A110, H⟩ := H
  replace H : (if t138 = 0 then (if t140 = 0 then (if t142 = 0 then (if t144 = 0 then (if t148 = 0 then (if t137.toList = t139.toList then (tickinglaw03_ThreadCommon.j0 k t134 t135 t136 t137 (t141.toList != t134.toList)) else (tickinglaw03_ThreadCommon.j0 k t134 t135 t136 t137 true)) else (tickinglaw03_ThreadCommon.j0 k t134 t135 t136 t137 true)) else (tickinglaw03_ThreadCommon.j0 k t134 t135 t136 t137 true)) else (tickinglaw03_ThreadCommon.j0 k t134 t135 t136 t137 true)) else (tickinglaw03_ThreadCommon.j0 k t134 t135 t136 t137 true)) else (tickinglaw03_ThreadCommon.j0 k t134 t135 t136 t137 true)) = some r := H
  have A11 := Aside0.mk A110
  clear A110
  have HC12 := Aside0.mk H
  clear H
  go_enter Try.func9, Try.ntmps9
  go_upto_region 7 with (first | ((with_reducible refine gate_callee (f := 15) rfl ?_); refine goesL_ (some 25) rfl rfl Try.func15 (by kernel_rfl) rfl #[.string a0, .int .i64 40, .int .i64 4] rfl (by (try simp only [List.map_toArray, List.map_cons, List.map_nil]); first | done | rfl | (simp only [List.length_drop, List.length_take]; rfl)) ?_; (with_reducible refine (Given.tickinglaw03_tame.calls a0 40 4 t134 _ A4.out).mono ?_); rintro e w13 ⟨rfl, hb⟩; refine ⟨_, rfl, ?_⟩; have n0_ := Aside0.mk (below_step (by repeat (first | (with_reducible first | exact HB.out | apply below_alloc | apply pw_below_drewN | apply below_drew1) | exact HB.out)) hb); clear HB; have HB := n0_; clear n0_; (try clear hb); (try clear hb2); (try clear hk); (try clear hi)) | ((with_reducible refine gate_callee (f := 15) rfl ?_); refine goesL_ (some 27) rfl rfl Try.func15 (by kernel_rfl) rfl #[.string a1, .int .i64 40, .int .i64 4] rfl (by (try simp only [List.map_toArray, List.map_cons, List.map_nil]); first | done | rfl | (simp only [List.length_drop, List.length_take]; rfl)) ?_; (with_reducible refine (Given.tickinglaw03_tame.calls a1 40 4 t135 _ A5.out).mono ?_); rintro e w14 ⟨rfl, hb⟩; refine ⟨_, rfl, ?_⟩; have n0_ := Aside0.mk (below_step (by repeat (first | (with_reducible first | exact HB.out | apply below_alloc | apply pw_below_drewN | apply below_drew1) | exact HB.out)) hb); clear HB; have HB := n0_; clear n0_; (try clear hb); (try clear hb2); (try clear hk); (try clear hi)) | ((with_reducible refine gate_callee (f := 15) rfl ?_); refine goesL_ (some 29) rfl rfl Try.func15 (by kernel_rfl) rfl #[.string a2, .int .i64 40, .int .i64 4] rfl (by (try simp only [List.map_toArray, List.map_cons, List.map_nil]); first | done | rfl | (simp only [List.length_drop, List.length_take]; rfl)) ?_; (with_reducible refine (Given.tickinglaw03_tame.calls a2 40 4 t136 _ A6.out).mono ?_); rintro e w15 ⟨rfl, hb⟩; refine ⟨_, rfl, ?_⟩; have n0_ := Aside0.mk (below_step (by repeat (first | (with_reducible first | exact HB.out | apply below_alloc | apply pw_below_drewN | apply below_drew1) | exact HB.out)) hb); clear HB; have HB := n0_; clear n0_; (try clear hb); (try clear hb2); (try clear hk); (try clear hi)) | ((with_reducible refine gate_callee (f := 31) rfl ?_); refine goesL_ (some 33) rfl rfl Try.func31 (by kernel_rfl) rfl #[.string t134, .string t135] rfl (by (try simp only [List.map_toArray, List.map_cons, List.map_nil]); first | done | rfl | (simp only [List.length_drop, List.length_take]; rfl)) ?_; (with_reducible refine (Given.thread_Longest.calls t134 t135 t137 t138 _ A7.out).mono ?_); rintro e w16 ⟨rfl, hb⟩; refine ⟨_, rfl, ?_⟩; have n0_ := Aside0.mk (below_step (by repeat (first | (with_reducible first | exact HB.out | apply below_alloc | apply pw_below_drewN | apply below_drew1) | exact HB.out)) hb); clear HB; have HB := n0_; clear n0_; (try clear hb); (try clear hb2); (try clear hk); (try clear hi)) | ((with_reducible refine gate_callee (f := 31) rfl ?_); refine goesL_ (some 39) rfl rfl Try.func31 (by kernel_rfl) rfl #[.string t135, .string t134] rfl (by (try simp only [List.map_toArray, List.map_cons, List.map_nil]); first | done | rfl | (simp only [List.length_drop, List.length_take]; rfl)) ?_; (with_reducible refine (Given.thread_Longest.calls t135 t134 t139 t140 _ A8.out).mono ?_); rintro e w17 ⟨rfl, hb⟩; refine ⟨_, rfl, ?_⟩; have n0_ := Aside0.mk (below_step (by repeat (first | (with_reducible first | exact HB.out | apply below_alloc | apply pw_below_drewN | apply below_drew1) | exact HB.out)) hb); clear HB; have HB := n0_; clear n0_; (try clear hb); (try clear hb2); (try clear hk); (try clear hi)) | ((with_reducible refine gate_callee (f := 31) rfl ?_); refine goesL_ (some 45) rfl rfl Try.func31 (by kernel_rfl) rfl #[.string t134, .string t134] rfl (by (try simp only [List.map_toArray, List.map_cons, List.map_nil]); first | done | rfl | (simp only [List.length_drop, List.length_take]; rfl)) ?_; (with_reducible refine (Given.thread_Longest.calls t134 t134 t141 t142 _ A9.out).mono ?_); rintro e w18 ⟨rfl, hb⟩; refine ⟨_, rfl, ?_⟩; have n0_ := Aside0.mk (below_step (by repeat (first | (with_reducible first | exact HB.out | apply below_alloc | apply pw_below_drewN | apply below_drew1) | exact HB.out)) hb); clear HB; have HB := n0_; clear n0_; (try clear hb); (try clear hb2); (try clear hk); (try clear hi)) | ((with_reducible refine gate_callee (f := 18) rfl ?_); refine goesL_ (some 51) rfl rfl Try.func18 (by kernel_rfl) rfl #[.string t137, .string t134] rfl (by (try simp only [List.map_toArray, List.map_cons, List.map_nil]); first | done | rfl | (simp only [List.length_drop, List.length_take]; rfl)) ?_; (with_reducible refine (Given.thread_Within.calls t137 t134 t143 t144 _ A10.out).mono ?_); rintro e w19 ⟨v145, rfl, ho0, hb⟩; refine ⟨_, rfl, ?_⟩; have n0_ := Aside0.mk (Kd.R_lower ho0 (below_size (by repeat (first | (with_reducible first | exact HB.out | apply below_alloc | apply pw_below_drewN | apply below_drew1) | exact HB.out)))); have n1_ := Aside0.mk (below_step (by repeat (first | (with_reducible first | exact HB.out | apply below_alloc | apply pw_below_drewN | apply below_drew1) | exact HB.out)) hb); clear HB; have HO146 := n0_; have HB := n1_; clear n0_ n1_; (try clear hb); (try clear hb2); (try clear hk); (try clear hi); (try clear ho0)) | ((with_reducible refine gate_callee (f := 18) rfl ?_); refine goesL_ (some 57) rfl rfl Try.func18 (by kernel_rfl) rfl #[.string t137, .string t135] rfl (by (try simp only [List.map_toArray, List.map_cons, List.map_nil]); first | done | rfl | (simp only [List.length_drop, List.length_take]; rfl)) ?_; (with_reducible refine (Given.thread_Within.calls t137 t135 t147 t148 _ A11.out).mono ?_); rintro e w20 ⟨v149, rfl, ho0, hb⟩; refine ⟨_, rfl, ?_⟩; have n0_ := Aside0.mk (Kd.R_elder' (by (with_reducible repeat (first | apply Kd.R_alloc | apply Kd.R_drewN | apply Kd.R_drew)); exact HO146.out) (Kd.R_base ho0) hb); have n1_ := Aside0.mk (Kd.R_lower (Kd.R_new' ho0 (Kd.R_lt (by (with_reducible repeat (first | apply Kd.R_alloc | apply Kd.R_drewN | apply Kd.R_drew)); exact HO146.out))) (below_size (by repeat (first | (with_reducible first | exact HB.out | apply below_alloc | apply pw_below_drewN | apply below_drew1) | exact HB.out)))); have n2_ := Aside0.mk (below_step (by repeat (first | (with_reducible first | exact HB.out | apply below_alloc | apply pw_below_drewN | apply below_drew1) | exact HB.out)) hb); clear HO146; clear HB; have HO146 := n0_; have HO150 := n1_; have HB := n2_; clear n0_ n1_ n2_; (try clear hb); (try clear hb2); (try clear hk); (try clear hi); (try clear ho0)))
  (try simp only [Act.put, List.setIfInBounds_toArray, List.set_cons_zero, List.set_cons_succ])
  go_cut [87] (fun v87 wc => ∃ (kq : Nat) (x87_11 : Bool), v87 = .bool x87_11 ∧ Aside0 (tickinglaw03_ThreadCommon.j0 kq t134 t135 t136 t137 x87_11 = some r) ∧ Aside0 (kq ≤ k) ∧ Aside0 (Below w.heap.size w wc))
  case first =>
    have H := HC12.out
    clear HC12
    by_cases c21 : t138 = 0
    · rw [if_pos c21] at H
      have c21b0 : (t138 == 0) = true := beq_iff_eq.mpr c21
      have c21b1 : (t138 != 0) = false := bne_eq_false_iff_eq.mpr c21
      clear c21
      (first | rw [c21b0] | (simp only [i64_w, i32_w]; rw [c21b0]) | skip)
      by_cases c22 : t140 = 0
      · rw [if_pos c22] at H
        have c22b0 : (t140 == 0) = true := beq_iff_eq.mpr c22
        have c22b1 : (t140 != 0) = false := bne_eq_false_iff_eq.mpr c22
        clear c22
        by_cases c23 : t142 = 0
        · rw [if_pos c23] at H
          have c23b0 : (t142 == 0) = true := beq_iff_eq.mpr c23
          have c23b1 : (t142 != 0) = false := bne_eq_false_iff_eq.mpr c23
          clear c23
          by_cases c24 : t144 = 0
          · rw [if_pos c24] at H
            have c24b0 : (t144 == 0) = true := beq_iff_eq.mpr c24
            have c24b1 : (t144 != 0) = false := bne_eq_false_iff_eq.mpr c24
            clear c24
            by_cases c25 : t148 = 0
            · rw [if_pos c25] at H
              have c25b0 : (t148 == 0) = true := beq_iff_eq.mpr c25
              have c25b1 : (t148 != 0) = false := bne_eq_false_iff_eq.mpr c25
              clear c25
              by_cases c26 : t137.toList = t139.toList
              · rw [if_pos c26] at H
                have c26b0 : (t137.toList == t139.toList) = true := beq_iff_eq.mpr c26
                have c26b1 : (t137.toList != t139.toList) = false := bne_eq_false_iff_eq.mpr c26
                clear c26
                have H' := Aside0.mk H
                clear H
                go_wp2
                go_meet
                case rel => exact ⟨_, ((t141.toList != t134.toList)), (by first | rfl | (simp; done) | (simp [*]; done)), H', ⟨by first | omega | exact Nat.le_refl _⟩, ⟨by repeat (first | (with_reducible first | exact HB.out | apply below_alloc | apply pw_below_drewN | apply below_drew1) | exact HB.out)⟩⟩
              · rw [if_neg c26] at H
                have c26b0 : (t137.toList == t139.toList) = false := beq_eq_false_iff_ne.mpr c26
                have c26b1 : (t137.toList != t139.toList) = true := bne_iff_ne.mpr c26
                have H' := Aside0.mk H
                clear H
                go_wp2
                go_meet
                case rel => exact ⟨_, (true), (by first | rfl | (simp; done) | (simp [*]; done)), H', ⟨by first | omega | exact Nat.le_refl _⟩, ⟨by repeat (first | (with_reducible first | exact HB.out | apply below_alloc | apply pw_below_drewN | apply below_drew1) | exact HB.out)⟩⟩
            · rw [if_neg c25] at H
              have c25b0 : (t148 == 0) = false := beq_eq_false_iff_ne.mpr c25
              have c25b1 : (t148 != 0) = true := bne_iff_ne.mpr c25
              have H' := Aside0.mk H
              clear H
              go_wp2
              go_meet
              case rel => exact ⟨_, (true), (by first | rfl | (simp; done) | (simp [*]; done)), H', ⟨by first | omega | exact Nat.le_refl _⟩, ⟨by repeat (first | (with_reducible first | exact HB.out | apply below_alloc | apply pw_below_drewN | apply below_drew1) | exact HB.out)⟩⟩
          · rw [if_neg c24] at H
            have c24b0 : (t144 == 0) = false := beq_eq_false_iff_ne.mpr c24
            have c24b1 : (t144 != 0) = true := bne_iff_ne.mpr c24
            have H' := Aside0.mk H
            clear H
            go_wp2
            go_meet
            case rel => exact ⟨_, (true), (by first | rfl | (simp; done) | (simp [*]; done)), H', ⟨by first | omega | exact Nat.le_refl _⟩, ⟨by repeat (first | (with_reducible first | exact HB.out | apply below_alloc | apply pw_below_drewN | apply below_drew1) | exact HB.out)⟩⟩
        · rw [if_neg c23] at H
          have c23b0 : (t142 == 0) = false := beq_eq_false_iff_ne.mpr c23
          have c23b1 : (t142 != 0) = true := bne_iff_ne.mpr c23
          have H' := Aside0.mk H
          clear H
          go_wp2
          go_meet
          case rel => exact ⟨_, (true), (by first | rfl | (simp; done) | (simp [*]; done)), H', ⟨by first | omega | exact Nat.le_refl _⟩, ⟨by repeat (first | (with_reducible first | exact HB.out | apply below_alloc | apply pw_below_drewN | apply below_drew1) | exact HB.out)⟩⟩
      · rw [if_neg c22] at H
        have c22b0 : (t140 == 0) = false := beq_eq_false_iff_ne.mpr c22
        have c22b1 : (t140 != 0) = true := bne_iff_ne.mpr c22
        have H' := Aside0.mk H
        clear H
        go_wp2
        go_meet
        case rel => exact ⟨_, (true), (by first | rfl | (simp; done) | (simp [*]; done)), H', ⟨by first | omega | exact Nat.le_refl _⟩, ⟨by repeat (first | (with_reducible first | exact HB.out | apply below_alloc | apply pw_below_drewN | apply below_drew1) | exact HB.out)⟩⟩
    · rw [if_neg c21] at H
      have c21b0 : (t138 == 0) = false := beq_eq_false_iff_ne.mpr c21
      have c21b1 : (t138 != 0) = true := bne_iff_ne.mpr c21
      (first | rw [c21b0] | (simp only [i64_w, i32_w]; rw [c21b0]) | skip)
      have H' := Aside0.mk H
      clear H
      go_wp2
      go_meet
      case rel => exact ⟨_, (true), (by first | rfl | (simp; done) | (simp [*]; done)), H', ⟨by first | omega | exact Nat.le_refl _⟩, ⟨by repeat (first | (with_reducible first | exact HB.out | apply below_alloc | apply pw_below_drewN | apply below_drew1) | exact HB.out)⟩⟩
  case rest =>
    clear HC12
    try clear c1
    try clear c2
    try clear p2
    try clear c3
    try clear c9
    try clear c15
    try clear c18
    try clear c21
    try clear c21b0
    try clear c21b1
    try clear c22
    try clear c22b0
    try clear c22b1
    try clear c23
    try clear c23b0
    try clear c23b1
    try clear c24
    try clear c24b0
    try clear c24b1
    try clear c25
    try clear c25b0
    try clear c25b1
    try clear c26
    try clear c26b0
    try clear c26b1
    obtain ⟨kq, x87_11, rfl, HA, HJ11, HB⟩ := hcut
    cases kq with
    | zero => exact absurd HA.out (by simp [tickinglaw03_ThreadCommon.j0])
    | succ kj11 =>
      have H := HA.out
      clear HA
      simp only [tickinglaw03_ThreadCommon.j0] at H
      by_cases c27 : x87_11 = true
      · subst c27
        have H1 : (some false) = some r := by rw [if_pos rfl] at H; exact H
        clear H
        have H := H1
        clear H1
        obtain rfl := Option.some.inj H
        go_wp2
        go_ret
        exact ⟨by first | rfl | (simp [errW_none, errW_some] <;> rfl) | (simp [*, errW_none, errW_some] <;> rfl), by repeat (first | (with_reducible first | exact HB.out | apply below_alloc | apply pw_below_drewN | apply below_drew1) | exact HB.out)⟩
      · replace c27 := Bool.eq_false_iff.mpr c27
        subst c27
        have H1 : (tickinglaw03_ThreadCommon.l0 kj11 t134 t135 t136 t137 (⟨#[]⟩ : ByteArray) 0) = some r := by rw [if_neg (show ¬ (false = true) by decide)] at H; exact H
        clear H
        have H := H1
        clear H1
        have H' := Aside0.mk H
        clear H
        go_wp2
        go_loopg [17, 18] kj11 (fun kq v17 v18 w' => ∃ (x17_2 : ByteArray) (x18_2 : Int), v17 = .string x17_2 ∧ v18 = .int .i64 x18_2 ∧ Aside0 (tickinglaw03_ThreadCommon.l0 kq t134 t135 t136 t137 x17_2 x18_2 = some r) ∧ Aside0 (kq ≤ kj11) ∧ Aside0 (Below w.heap.size w w'))
        case atStart => exact ⟨((⟨#[]⟩ : ByteArray)), (0), (by first | rfl | (simp; done) | (simp [*]; done)), (by first | rfl | (simp; done) | (simp [*]; done)), H', ⟨Nat.le_refl _⟩, ⟨by repeat (first | (with_reducible first | exact HB.out | apply below_alloc | apply pw_below_drewN | apply below_drew1) | exact HB.out)⟩⟩
        case round =>
          clear H'
          try clear c1
          try clear c2
          try clear p2
          try clear c3
          try clear c9
          try clear c15
          try clear c18
          try clear c21
          try clear c21b0
          try clear c21b1
          try clear c22
          try clear c22b0
          try clear c22b1
          try clear c23
          try clear c23b0
          try clear c23b1
          try clear c24
          try clear c24b0
          try clear c24b1
          try clear c25
          try clear c25b0
          try clear c25b1
          try clear c26
          try clear c26b0
          try clear c26b1
          try clear c27
          try clear p2
          obtain ⟨x17_2, x18_2, rfl, rfl, HA, HK2, HB⟩ := hrel
          cases gk with
          | zero => exact absurd HA.out (by simp [tickinglaw03_ThreadCommon.l0])
          | succ k2 =>
            have H := HA.out
            clear HA
            simp only [tickinglaw03_ThreadCommon.l0] at H
            by_cases c28 : x18_2 < (t136.size : Int)
            · rw [if_pos c28] at H
              have c28b0 : decide (x18_2 < (t136.size : Int)) = true := decide_eq_true c28
              clear c28
              by_cases c29 : 0 ≤ x18_2
              · rw [if_pos c29] at H
                have c29b0 := eq_true c29
                have c29b1 : decide (0 ≤ x18_2) = true := decide_eq_true c29
                clear c29
                by_cases c30 : x18_2 ≤ (wrap64 (x18_2 + 1))
                · rw [if_pos c30] at H
                  have c30b0 := eq_true c30
                  have c30b1 : decide (x18_2 ≤ (wrap64 (x18_2 + 1))) = true := decide_eq_true c30
                  by_cases c31 : (wrap64 (x18_2 + 1)) ≤ (t136.size : Int)
                  · rw [if_pos c31] at H
                    have c31b0 := eq_true c31
                    have c31b1 : decide ((wrap64 (x18_2 + 1)) ≤ (t136.size : Int)) = true := decide_eq_true c31
                    by_cases c32 : x17_2.size + (t136.extract (x18_2 : Int).toNat ((wrap64 (x18_2 + 1)) : Int).toNat).size ≤ 9223372036854775807
                    · rw [if_pos c32] at H
                      have c32b0 := eq_true c32
                      have c32b1 : decide (x17_2.size + (t136.extract (x18_2 : Int).toNat ((wrap64 (x18_2 + 1)) : Int).toNat).size ≤ 9223372036854775807) = true := decide_eq_true c32
                      try have c32b2 : (9223372036854775807 < x17_2.size + (t136.extract (x18_2 : Int).toNat ((wrap64 (x18_2 + 1)) : Int).toNat).size) = False := eq_false (Nat.not_lt.2 c32)
                      replace H := Option.bind_eq_some_iff.mp H
                      obtain ⟨⟨t152, t153⟩, A330, H⟩ := H
                      replace H : ((tickingref03_Within.f k2 (x17_2 ++ (t136.extract (x18_2 : Int).toNat ((wrap64 (x18_2 + 1)) : Int).toNat)) t135).bind fun bt156 => (if t153 = true then (if bt156.2 = true then (tickinglaw03_ThreadCommon.l0 k2 t134 t135 t136 t137 (x17_2 ++ (t136.extract (x18_2 : Int).toNat ((wrap64 (x18_2 + 1)) : Int).toNat)) (wrap64 (x18_2 + 1))) else (tickinglaw03_ThreadCommon.l0 k2 t134 t135 t136 t137 x17_2 (wrap64 (x18_2 + 1)))) else (tickinglaw03_ThreadCommon.l0 k2 t134 t135 t136 t137 x17_2 (wrap64 (x18_2 + 1))))) = some r := H
                      have A33 := Aside0.mk A330
                      clear A330
                      replace H := Option.bind_eq_some_iff.mp H
                      obtain ⟨⟨t156, t157⟩, A340, H⟩ := H
                      replace H : (if t153 = true then (if t157 = true then (tickinglaw03_ThreadCommon.l0 k2 t134 t135 t136 t137 (x17_2 ++ (t136.extract (x18_2 : Int).toNat ((wrap64 (x18_2 + 1)) : Int).toNat)) (wrap64 (x18_2 + 1))) else (tickinglaw03_ThreadCommon.l0 k2 t134 t135 t136 t137 x17_2 (wrap64 (x18_2 + 1)))) else (tickinglaw03_ThreadCommon.l0 k2 t134 t135 t136 t137 x17_2 (wrap64 (x18_2 + 1)))) = some r := H
                      have A34 := Aside0.mk A340
                      clear A340
                      by_cases c35 : t153 = true
                      · subst c35
                        have H1 : (if t157 = true then (tickinglaw03_ThreadCommon.l0 k2 t134 t135 t136 t137 (x17_2 ++ (t136.extract (x18_2 : Int).toNat ((wrap64 (x18_2 + 1)) : Int).toNat)) (wrap64 (x18_2 + 1))) else (tickinglaw03_ThreadCommon.l0 k2 t134 t135 t136 t137 x17_2 (wrap64 (x18_2 + 1)))) = some r := by rw [if_pos rfl] at H; exact H
                        clear H
                        have H := H1
                        clear H1
                        by_cases c36 : t157 = true
                        · subst c36
                          have H1 : (tickinglaw03_ThreadCommon.l0 k2 t134 t135 t136 t137 (x17_2 ++ (t136.extract (x18_2 : Int).toNat ((wrap64 (x18_2 + 1)) : Int).toNat)) (wrap64 (x18_2 + 1))) = some r := by rw [if_pos rfl] at H; exact H
                          clear H
                          have H := H1
                          clear H1
                          have H' := Aside0.mk H
                          clear H
                          go_wp2_with (first | ((with_reducible refine gate_callee (f := 23) rfl ?_); refine goesL_ (some 104) rfl rfl Try.func23 (by kernel_rfl) rfl #[.string (x17_2 ++ (t136.extract (x18_2 : Int).toNat ((wrap64 (x18_2 + 1)) : Int).toNat)), .string t134] rfl (by (try simp only [List.map_toArray, List.map_cons, List.map_nil]); first | done | rfl | (simp only [List.length_drop, List.length_take]; rfl)) ?_; (with_reducible refine (tickingref03_Within.calls k2 (x17_2 ++ (t136.extract (x18_2 : Int).toNat ((wrap64 (x18_2 + 1)) : Int).toNat)) t134 t152 true _ A33.out).mono ?_); rintro e w37 ⟨v154, rfl, ho0, hb⟩; refine ⟨_, rfl, ?_⟩; have n0_ := Aside0.mk (Kd.R_lower ho0 (below_size (by repeat (first | (with_reducible first | exact HB.out | apply below_alloc | apply pw_below_drewN | apply below_drew1) | exact HB.out)))); have n1_ := Aside0.mk (below_step (by repeat (first | (with_reducible first | exact HB.out | apply below_alloc | apply pw_below_drewN | apply below_drew1) | exact HB.out)) hb); clear HB; have HO155 := n0_; have HB := n1_; clear n0_ n1_; (try clear hb); (try clear hb2); (try clear hk); (try clear hi); (try clear ho0)) | ((with_reducible refine gate_callee (f := 23) rfl ?_); refine goesL_ (some 110) rfl rfl Try.func23 (by kernel_rfl) rfl #[.string (x17_2 ++ (t136.extract (x18_2 : Int).toNat ((wrap64 (x18_2 + 1)) : Int).toNat)), .string t135] rfl (by (try simp only [List.map_toArray, List.map_cons, List.map_nil]); first | done | rfl | (simp only [List.length_drop, List.length_take]; rfl)) ?_; (with_reducible refine (tickingref03_Within.calls k2 (x17_2 ++ (t136.extract (x18_2 : Int).toNat ((wrap64 (x18_2 + 1)) : Int).toNat)) t135 t156 true _ A34.out).mono ?_); rintro e w38 ⟨v158, rfl, ho0, hb⟩; refine ⟨_, rfl, ?_⟩; have n0_ := Aside0.mk (Kd.R_elder' (by (with_reducible repeat (first | apply Kd.R_alloc | apply Kd.R_drewN | apply Kd.R_drew)); exact HO155.out) (Kd.R_base ho0) hb); have n1_ := Aside0.mk (Kd.R_lower (Kd.R_new' ho0 (Kd.R_lt (by (with_reducible repeat (first | apply Kd.R_alloc | apply Kd.R_drewN | apply Kd.R_drew)); exact HO155.out))) (below_size (by repeat (first | (with_reducible first | exact HB.out | apply below_alloc | apply pw_below_drewN | apply below_drew1) | exact HB.out)))); have n2_ := Aside0.mk (below_step (by repeat (first | (with_reducible first | exact HB.out | apply below_alloc | apply pw_below_drewN | apply below_drew1) | exact HB.out)) hb); clear HO155; clear HB; have HO155 := n0_; have HO159 := n1_; have HB := n2_; clear n0_ n1_ n2_; (try clear hb); (try clear hb2); (try clear hk); (try clear hi); (try clear ho0)))
                          go_roundg k2
                          case measure => have := HJ11.out; have := HK2.out; omega
                          case rel => exact ⟨(x17_2 ++ (t136.extract (x18_2 : Int).toNat ((wrap64 (x18_2 + 1)) : Int).toNat)), (wrap64 (x18_2 + 1)), (by first | rfl | (simp; done) | (simp [*]; done)), (by first | rfl | (simp; done) | (simp [*]; done)), H', ⟨by have := HJ11.out; have := HK2.out; omega⟩, ⟨by repeat (first | (with_reducible first | exact HB.out | apply below_alloc | apply pw_below_drewN | apply below_drew1) | exact HB.out)⟩⟩
                        · replace c36 := Bool.eq_false_iff.mpr c36
                          subst c36
                          have H1 : (tickinglaw03_ThreadCommon.l0 k2 t134 t135 t136 t137 x17_2 (wrap64 (x18_2 + 1))) = some r := by rw [if_neg (show ¬ (false = true) by decide)] at H; exact H
                          clear H
                          have H := H1
                          clear H1
                          have H' := Aside0.mk H
                          clear H
                          go_wp2_with (first | ((with_reducible refine gate_callee (f := 23) rfl ?_); refine goesL_ (some 104) rfl rfl Try.func23 (by kernel_rfl) rfl #[.string (x17_2 ++ (t136.extract (x18_2 : Int).toNat ((wrap64 (x18_2 + 1)) : Int).toNat)), .string t134] rfl (by (try simp only [List.map_toArray, List.map_cons, List.map_nil]); first | done | rfl | (simp only [List.length_drop, List.length_take]; rfl)) ?_; (with_reducible refine (tickingref03_Within.calls k2 (x17_2 ++ (t136.extract (x18_2 : Int).toNat ((wrap64 (x18_2 + 1)) : Int).toNat)) t134 t152 true _ A33.out).mono ?_); rintro e w39 ⟨v154, rfl, ho0, hb⟩; refine ⟨_, rfl, ?_⟩; have n0_ := Aside0.mk (Kd.R_lower ho0 (below_size (by repeat (first | (with_reducible first | exact HB.out | apply below_alloc | apply pw_below_drewN | apply below_drew1) | exact HB.out)))); have n1_ := Aside0.mk (below_step (by repeat (first | (with_reducible first | exact HB.out | apply below_alloc | apply pw_below_drewN | apply below_drew1) | exact HB.out)) hb); clear HB; have HO155 := n0_; have HB := n1_; clear n0_ n1_; (try clear hb); (try clear hb2); (try clear hk); (try clear hi); (try clear ho0)) | ((with_reducible refine gate_callee (f := 23) rfl ?_); refine goesL_ (some 110) rfl rfl Try.func23 (by kernel_rfl) rfl #[.string (x17_2 ++ (t136.extract (x18_2 : Int).toNat ((wrap64 (x18_2 + 1)) : Int).toNat)), .string t135] rfl (by (try simp only [List.map_toArray, List.map_cons, List.map_nil]); first | done | rfl | (simp only [List.length_drop, List.length_take]; rfl)) ?_; (with_reducible refine (tickingref03_Within.calls k2 (x17_2 ++ (t136.extract (x18_2 : Int).toNat ((wrap64 (x18_2 + 1)) : Int).toNat)) t135 t156 false _ A34.out).mono ?_); rintro e w40 ⟨v158, rfl, ho0, hb⟩; refine ⟨_, rfl, ?_⟩; have n0_ := Aside0.mk (Kd.R_elder' (by (with_reducible repeat (first | apply Kd.R_alloc | apply Kd.R_drewN | apply Kd.R_drew)); exact HO155.out) (Kd.R_base ho0) hb); have n1_ := Aside0.mk (Kd.R_lower (Kd.R_new' ho0 (Kd.R_lt (by (with_reducible repeat (first | apply Kd.R_alloc | apply Kd.R_drewN | apply Kd.R_drew)); exact HO155.out))) (below_size (by repeat (first | (with_reducible first | exact HB.out | apply below_alloc | apply pw_below_drewN | apply below_drew1) | exact HB.out)))); have n2_ := Aside0.mk (below_step (by repeat (first | (with_reducible first | exact HB.out | apply below_alloc | apply pw_below_drewN | apply below_drew1) | exact HB.out)) hb); clear HO155; clear HB; have HO155 := n0_; have HO159 := n1_; have HB := n2_; clear n0_ n1_ n2_; (try clear hb); (try clear hb2); (try clear hk); (try clear hi); (try clear ho0)))
                          go_roundg k2
                          case measure => have := HJ11.out; have := HK2.out; omega
                          case rel => exact ⟨(x17_2), (wrap64 (x18_2 + 1)), (by first | rfl | (simp; done) | (simp [*]; done)), (by first | rfl | (simp; done) | (simp [*]; done)), H', ⟨by have := HJ11.out; have := HK2.out; omega⟩, ⟨by repeat (first | (with_reducible first | exact HB.out | apply below_alloc | apply pw_below_drewN | apply below_drew1) | exact HB.out)⟩⟩
                      · replace c35 := Bool.eq_false_iff.mpr c35
                        subst c35
                        have H1 : (tickinglaw03_ThreadCommon.l0 k2 t134 t135 t136 t137 x17_2 (wrap64 (x18_2 + 1))) = some r := by rw [if_neg (show ¬ (false = true) by decide)] at H; exact H
                        clear H
                        have H := H1
                        clear H1
                        have H' := Aside0.mk H
                        clear H
                        go_wp2_with (first | ((with_reducible refine gate_callee (f := 23) rfl ?_); refine goesL_ (some 104) rfl rfl Try.func23 (by kernel_rfl) rfl #[.string (x17_2 ++ (t136.extract (x18_2 : Int).toNat ((wrap64 (x18_2 + 1)) : Int).toNat)), .string t134] rfl (by (try simp only [List.map_toArray, List.map_cons, List.map_nil]); first | done | rfl | (simp only [List.length_drop, List.length_take]; rfl)) ?_; (with_reducible refine (tickingref03_Within.calls k2 (x17_2 ++ (t136.extract (x18_2 : Int).toNat ((wrap64 (x18_2 + 1)) : Int).toNat)) t134 t152 false _ A33.out).mono ?_); rintro e w41 ⟨v154, rfl, ho0, hb⟩; refine ⟨_, rfl, ?_⟩; have n0_ := Aside0.mk (Kd.R_lower ho0 (below_size (by repeat (first | (with_reducible first | exact HB.out | apply below_alloc | apply pw_below_drewN | apply below_drew1) | exact HB.out)))); have n1_ := Aside0.mk (below_step (by repeat (first | (with_reducible first | exact HB.out | apply below_alloc | apply pw_below_drewN | apply below_drew1) | exact HB.out)) hb); clear HB; have HO155 := n0_; have HB := n1_; clear n0_ n1_; (try clear hb); (try clear hb2); (try clear hk); (try clear hi); (try clear ho0)) | ((with_reducible refine gate_callee (f := 23) rfl ?_); refine goesL_ (some 110) rfl rfl Try.func23 (by kernel_rfl) rfl #[.string (x17_2 ++ (t136.extract (x18_2 : Int).toNat ((wrap64 (x18_2 + 1)) : Int).toNat)), .string t135] rfl (by (try simp only [List.map_toArray, List.map_cons, List.map_nil]); first | done | rfl | (simp only [List.length_drop, List.length_take]; rfl)) ?_; (with_reducible refine (tickingref03_Within.calls k2 (x17_2 ++ (t136.extract (x18_2 : Int).toNat ((wrap64 (x18_2 + 1)) : Int).toNat)) t135 t156 t157 _ A34.out).mono ?_); rintro e w42 ⟨v158, rfl, ho0, hb⟩; refine ⟨_, rfl, ?_⟩; have n0_ := Aside0.mk (Kd.R_elder' (by (with_reducible repeat (first | apply Kd.R_alloc | apply Kd.R_drewN | apply Kd.R_drew)); exact HO155.out) (Kd.R_base ho0) hb); have n1_ := Aside0.mk (Kd.R_lower (Kd.R_new' ho0 (Kd.R_lt (by (with_reducible repeat (first | apply Kd.R_alloc | apply Kd.R_drewN | apply Kd.R_drew)); exact HO155.out))) (below_size (by repeat (first | (with_reducible first | exact HB.out | apply below_alloc | apply pw_below_drewN | apply below_drew1) | exact HB.out)))); have n2_ := Aside0.mk (below_step (by repeat (first | (with_reducible first | exact HB.out | apply below_alloc | apply pw_below_drewN | apply below_drew1) | exact HB.out)) hb); clear HO155; clear HB; have HO155 := n0_; have HO159 := n1_; have HB := n2_; clear n0_ n1_ n2_; (try clear hb); (try clear hb2); (try clear hk); (try clear hi); (try clear ho0)))
                        go_roundg k2
                        case measure => have := HJ11.out; have := HK2.out; omega
                        case rel => exact ⟨(x17_2), (wrap64 (x18_2 + 1)), (by first | rfl | (simp; done) | (simp [*]; done)), (by first | rfl | (simp; done) | (simp [*]; done)), H', ⟨by have := HJ11.out; have := HK2.out; omega⟩, ⟨by repeat (first | (with_reducible first | exact HB.out | apply below_alloc | apply pw_below_drewN | apply below_drew1) | exact HB.out)⟩⟩
                    · rw [if_neg c32] at H
                      exact absurd H (by simp)
                  · rw [if_neg c31] at H
                    exact absurd H (by simp)
                · rw [if_neg c30] at H
                  exact absurd H (by simp)
              · rw [if_neg c29] at H
                exact absurd H (by simp)
            · rw [if_neg c28] at H
              have c28b0 : decide (x18_2 < (t136.size : Int)) = false := decide_eq_false c28
              clear c28
              by_cases c43 : (x17_2.size : Int) ≤ (t137.size : Int)
              · rw [if_pos c43] at H
                have c43b0 : decide ((x17_2.size : Int) ≤ (t137.size : Int)) = true := decide_eq_true c43
                have c43b1 : decide (x17_2.size ≤ t137.size) = true := decide_eq_true (Int.ofNat_le.mp c43)
                clear c43
                replace H := Option.bind_eq_some_iff.mp H
                obtain ⟨t151, A440, H⟩ := H
                replace H : (some t151) = some r := H
                have A44 := Aside0.mk A440
                clear A440
                obtain rfl := Option.some.inj H
                go_wp2_with (first | (go_at_call 19; (with_reducible refine (tickinglaw03_awake.calls k2  t151 _ A44.out).mono ?_); rintro e w45 ⟨rfl, hb⟩; have n0_ := Aside0.mk (below_step (by repeat (first | (with_reducible first | exact HB.out | apply below_alloc | apply pw_below_drewN | apply below_drew1) | exact HB.out)) hb); clear HB; have HB := n0_; clear n0_; (try clear hb); (try clear hb2); (try clear hk); (try clear hi)))
                go_ret
                exact ⟨by first | rfl | (simp [errW_none, errW_some] <;> rfl) | (simp [*, errW_none, errW_some] <;> rfl), by repeat (first | (with_reducible first | exact HB.out | apply below_alloc | apply pw_below_drewN | apply below_drew1) | exact HB.out)⟩
              · rw [if_neg c43] at H
                have c43b0 : decide ((x17_2.size : Int) ≤ (t137.size : Int)) = false := decide_eq_false c43
                have c43b1 : decide (x17_2.size ≤ t137.size) = false := decide_eq_false (fun h => c43 (Int.ofNat_le.mpr h))
                clear c43
                obtain rfl := Option.some.inj H
                go_wp2
                go_ret
                exact ⟨by first | rfl | (simp [errW_none, errW_some] <;> rfl) | (simp [*, errW_none, errW_some] <;> rfl), by repeat (first | (with_reducible first | exact HB.out | apply below_alloc | apply pw_below_drewN | apply below_drew1) | exact HB.out)⟩

/-- THE ONE PURE STATEMENT of tickinglaw03_ThreadCommon: yours. -/
def tickinglaw03_ThreadCommon.Pure : Prop := ∀ (a0 : ByteArray) (a1 : ByteArray) (a2 : ByteArray), a0.size ≤ 140737488351232 → a1.size ≤ 140737488351232 → a2.size ≤ 140737488351232 → ∃ k, tickinglaw03_ThreadCommon.f k a0 a1 a2 = some true
theorem tickinglaw03_ThreadCommon.walk (P : tickinglaw03_ThreadCommon.Pure) (a0 : ByteArray) (a1 : ByteArray) (a2 : ByteArray) (w : World) (w0 : a0.size ≤ 140737488351232) (w1 : a1.size ≤ 140737488351232) (w2 : a2.size ≤ 140737488351232) :
    Calls Try.prog 9 #[.string a0, .string a1, .string a2] w fun e w' => e = .returned (.bool true) ∧ Below w.heap.size w w' := by
  obtain ⟨k, h⟩ := P a0 a1 a2 w0 w1 w2
  refine (tickinglaw03_ThreadCommon.calls k a0 a1 a2 true w h).mono ?_
  rintro e w' ⟨rfl, hd⟩
  exact ⟨rfl, hd⟩

end Go.Proofs.Ytfjbodaakmapdaa.PThreadCommon
