-- printed by a program of this session (over the kit's print, with contracts of its own for the functions of package thread)
import Derived.Test.YtfjbodaakmapdaaPThreadRankedx0
import Derived.Test.YtfjbodaakmapdaaPThreadRankedx1
namespace Go.Proofs.Ytfjbodaakmapdaa.PThreadRanked
open Go.RowKit Go.Proofs.YtfjbodaakmapdaaW.PrintWords Go.Proofs.YtfjbodaakmapdaaW.PrintLast Go.Proofs.YtfjbodaakmapdaaW.PrintMore
attribute [local go_sem] max2_int min2_int max_two min_two max_three min_three max_four min_four   -- for this text's walks alone
set_option linter.unusedVariables false
set_option linter.unusedSimpArgs false

/-! ### tickinglaw03_ThreadRanked: function 10 -/
mutual
def tickinglaw03_ThreadRanked.j0 : Nat → ByteArray → Int → Int → Bool → Option (Bool)
  | 0, _, _, _, _ => none
  | k + 1, x0, x1, x5, x27 => if x27 = true then (some false) else ((tickinglaw03_mod.f x1 x5).bind fun t137 => ((Given.thread_Item.f x0 t137).bind fun bt138 => ((Given.thread_Index.f x0 bt138.1).bind fun bt140 => ((tickingref03_Within.f k bt138.1 x0).bind fun bt142 => (if bt138.2 = 0 then (if bt140.2 = 0 then (if bt140.1 = t137 then (tickinglaw03_ThreadRanked.j1 k x0 t137 x5 bt138.1 (!bt142.2)) else (tickinglaw03_ThreadRanked.j1 k x0 t137 x5 bt138.1 true)) else (tickinglaw03_ThreadRanked.j1 k x0 t137 x5 bt138.1 true)) else (tickinglaw03_ThreadRanked.j1 k x0 t137 x5 bt138.1 true))))))
def tickinglaw03_ThreadRanked.j1 : Nat → ByteArray → Int → Int → ByteArray → Bool → Option (Bool)
  | 0, _, _, _, _, _ => none
  | k + 1, x0, x1, x5, x7, x63 => if x63 = true then (some false) else (if (wrap64 (x1 + 1)) = x5 then ((tickinglaw03_awake.f k).bind fun t146 => (some t146)) else ((Given.thread_Item.f x0 (wrap64 (x1 + 1))).bind fun bt147 => (if bt147.2 = 0 then (if (Op.bytesLess x7.toList bt147.1.toList) = true then ((tickinglaw03_awake.f k).bind fun t149 => (some t149)) else (some false)) else (some false))))
end
def tickinglaw03_ThreadRanked.f (k : Nat) (a0 : ByteArray) (a1 : Int) : Option (Bool) := (Given.tickinglaw03_tame.f a0 60 4).bind fun t134 => ((Given.thread_Count.f t134).bind fun bt135 => (if bt135.2 = 0 then (tickinglaw03_ThreadRanked.j0 k t134 a1 bt135.1 (decide (bt135.1 < 1))) else (tickinglaw03_ThreadRanked.j0 k t134 a1 bt135.1 true)))
theorem tickinglaw03_ThreadRanked.mono_l : ∀ k, (∀ y0 y1 y2 y3, LeO (tickinglaw03_ThreadRanked.j0 k y0 y1 y2 y3) (tickinglaw03_ThreadRanked.j0 (k + 1) y0 y1 y2 y3)) ∧ (∀ y0 y1 y2 y3 y4, LeO (tickinglaw03_ThreadRanked.j1 k y0 y1 y2 y3 y4) (tickinglaw03_ThreadRanked.j1 (k + 1) y0 y1 y2 y3 y4))
  | 0 => ⟨fun _ _ _ _ r h => by simp [tickinglaw03_ThreadRanked.j0] at h, fun _ _ _ _ _ r h => by simp [tickinglaw03_ThreadRanked.j1] at h⟩
  | k + 1 => by
    obtain ⟨ih0, ih1⟩ := tickinglaw03_ThreadRanked.mono_l k
    refine ⟨?_, ?_⟩
    · intro y0 y1 y2 y3
      unfold tickinglaw03_ThreadRanked.j0
      repeat' first
      | (with_reducible exact ih0 _ _ _ _)
      | (with_reducible exact ih1 _ _ _ _ _)
      | (with_reducible exact tickinglaw03_awake.mono _)
      | (with_reducible exact tickingref03_Within.mono _ _ _)
      | (with_reducible exact LeO.refl _)
      | (with_reducible exact LeO.none _)
      | (with_reducible refine LeO.ite ?_ ?_)
      | (with_reducible refine LeO.bind ?_ (fun _ => ?_))
      | exact ih0 _ _ _ _
      | exact ih1 _ _ _ _ _
      | exact tickinglaw03_awake.mono _
      | exact tickingref03_Within.mono _ _ _
      | exact LeO.none _
      | refine LeO.ite ?_ ?_
      | refine LeO.bind ?_ (fun _ => ?_)
    · intro y0 y1 y2 y3 y4
      unfold tickinglaw03_ThreadRanked.j1
      repeat' first
      | (with_reducible exact ih0 _ _ _ _)
      | (with_reducible exact ih1 _ _ _ _ _)
      | (with_reducible exact tickinglaw03_awake.mono _)
      | (with_reducible exact tickingref03_Within.mono _ _ _)
      | (with_reducible exact LeO.refl _)
      | (with_reducible exact LeO.none _)
      | (with_reducible refine LeO.ite ?_ ?_)
      | (with_reducible refine LeO.bind ?_ (fun _ => ?_))
      | exact ih0 _ _ _ _
      | exact ih1 _ _ _ _ _
      | exact tickinglaw03_awake.mono _
      | exact tickingref03_Within.mono _ _ _
      | exact LeO.none _
      | refine LeO.ite ?_ ?_
      | refine LeO.bind ?_ (fun _ => ?_)
theorem tickinglaw03_ThreadRanked.mono : ∀ a0 a1 k, LeO (tickinglaw03_ThreadRanked.f k a0 a1) (tickinglaw03_ThreadRanked.f (k + 1) a0 a1) := by
  intro a0 a1 k
  obtain ⟨ih0, ih1⟩ := tickinglaw03_ThreadRanked.mono_l k
  unfold tickinglaw03_ThreadRanked.f
  repeat' first
      | (with_reducible exact ih0 _ _ _ _)
      | (with_reducible exact ih1 _ _ _ _ _)
      | (with_reducible exact tickinglaw03_awake.mono _)
      | (with_reducible exact tickingref03_Within.mono _ _ _)
      | (with_reducible exact LeO.refl _)
      | (with_reducible exact LeO.none _)
      | (with_reducible refine LeO.ite ?_ ?_)
      | (with_reducible refine LeO.bind ?_ (fun _ => ?_))
      | exact ih0 _ _ _ _
      | exact ih1 _ _ _ _ _
      | exact tickinglaw03_awake.mono _
      | exact tickingref03_Within.mono _ _ _
      | exact LeO.none _
      | refine LeO.ite ?_ ?_
      | refine LeO.bind ?_ (fun _ => ?_)
set_option maxHeartbeats 8000000 in
set_option maxRecDepth 100000 in
theorem tickinglaw03_ThreadRanked.calls (k : Nat) (a0 : ByteArray) (a1 : Int) (r : Bool) (w : World) (h : tickinglaw03_ThreadRanked.f k a0 a1 = some r) :
    Calls Try.prog 10 #[.string a0, .int .i64 a1] w fun e w' => e = .returned (.bool r) ∧ Below w.heap.size w w' := by
  have HB := Aside0.mk (Below.refl w.heap.size w)
  have H : ((Given.tickinglaw03_tame.f a0 60 4).bind fun t134 => ((Given.thread_Count.f t134).bind fun bt135 => (if bt135.2 = 0 then (tickinglaw03_ThreadRanked.j0 k t134 a1 bt135.1 (decide (bt135.1 < 1))) else (tickinglaw03_ThreadRanked.j0 k t134 a1 bt135.1 true)))) = some r := h
  clear h
  replace H := Option.bind_eq_some_iff.mp H
  obtain ⟨t134, A30, H⟩ := H
  replace H : ((Given.thread_Count.f t134).bind fun bt135 => (if bt135.2 = 0 then (tickinglaw03_ThreadRanked.j0 k t134 a1 bt135.1 (decide (bt135.1 < 1))) else (tickinglaw03_ThreadRanked.j0 k t134 a1 bt135.1 true))) = some r := H
  have A3 := Aside0.mk A30
  clear A30
  replace H := Option.bind_eq_some_iff.mp H
  obtain ⟨⟨t135, t136⟩, A40, H⟩ := H
  replace H : (if t136 = 0 then (tickinglaw03_ThreadRanked.j0 k t134 a1 t135 (decide (t135 < 1))) else (tickinglaw03_ThreadRanked.j0 k t134 a1 t135 true)) = some r := H
  have A4 := Aside0.mk A40
  clear A40
  have HC5 := Aside0.mk H
  clear H
  go_enter Try.func10, Try.ntmps10
  go_upto_region 3 with (first | ((with_reducible refine gate_callee (f := 15) rfl ?_); refine goesL_ (some 16) rfl rfl Try.func15 (by kernel_rfl) rfl #[.string a0, .int .i64 60, .int .i64 4] rfl (by (try simp only [List.map_toArray, List.map_cons, List.map_nil]); first | done | rfl | (simp only [List.length_drop, List.length_take]; rfl)) ?_; (with_reducible refine (Given.tickinglaw03_tame.calls a0 60 4 t134 _ A3.out).mono ?_); rintro e w6 ⟨rfl, hb⟩; refine ⟨_, rfl, ?_⟩; have n0_ := Aside0.mk (below_step (by repeat (first | (with_reducible first | exact HB.out | apply below_alloc | apply pw_below_drewN | apply below_drew1) | exact HB.out)) hb); clear HB; have HB := n0_; clear n0_; (try clear hb); (try clear hb2); (try clear hk); (try clear hi)) | ((with_reducible refine gate_callee (f := 25) rfl ?_); refine goesL_ (some 19) rfl rfl Try.func25 (by kernel_rfl) rfl #[.string t134] rfl (by (try simp only [List.map_toArray, List.map_cons, List.map_nil]); first | done | rfl | (simp only [List.length_drop, List.length_take]; rfl)) ?_; (with_reducible refine (Given.thread_Count.calls t134 t135 t136 _ A4.out).mono ?_); rintro e w7 ⟨rfl, hb⟩; refine ⟨_, rfl, ?_⟩; have n0_ := Aside0.mk (below_step (by repeat (first | (with_reducible first | exact HB.out | apply below_alloc | apply pw_below_drewN | apply below_drew1) | exact HB.out)) hb); clear HB; have HB := n0_; clear n0_; (try clear hb); (try clear hb2); (try clear hk); (try clear hi)))
  (try simp only [Act.put, List.setIfInBounds_toArray, List.set_cons_zero, List.set_cons_succ])
  go_cut [27] (fun v27 wc => ∃ (kq : Nat) (x27_4 : Bool), v27 = .bool x27_4 ∧ Aside0 (tickinglaw03_ThreadRanked.j0 kq t134 a1 t135 x27_4 = some r) ∧ Aside0 (kq ≤ k) ∧ Aside0 (Below w.heap.size w wc))
  case first =>
    have H := HC5.out
    clear HC5
    by_cases c8 : t136 = 0
    · rw [if_pos c8] at H
      have c8b0 : (t136 == 0) = true := beq_iff_eq.mpr c8
      have c8b1 : (t136 != 0) = false := bne_eq_false_iff_eq.mpr c8
      clear c8
      (first | rw [c8b0] | (simp only [i64_w, i32_w]; rw [c8b0]) | skip)
      have H' := Aside0.mk H
      clear H
      go_wp2
      go_meet
      case rel => exact ⟨_, (decide (t135 < 1)), (by first | rfl | (simp; done) | (simp [*]; done)), H', ⟨by first | omega | exact Nat.le_refl _⟩, ⟨by repeat (first | (with_reducible first | exact HB.out | apply below_alloc | apply pw_below_drewN | apply below_drew1) | exact HB.out)⟩⟩
    · rw [if_neg c8] at H
      have c8b0 : (t136 == 0) = false := beq_eq_false_iff_ne.mpr c8
      have c8b1 : (t136 != 0) = true := bne_iff_ne.mpr c8
      (first | rw [c8b0] | (simp only [i64_w, i32_w]; rw [c8b0]) | skip)
      have H' := Aside0.mk H
      clear H
      go_wp2
      go_meet
      case rel => exact ⟨_, (true), (by first | rfl | (simp; done) | (simp [*]; done)), H', ⟨by first | omega | exact Nat.le_refl _⟩, ⟨by repeat (first | (with_reducible first | exact HB.out | apply below_alloc | apply pw_below_drewN | apply below_drew1) | exact HB.out)⟩⟩
  case rest =>
    clear HC5
    try clear c1
    try clear c2
    try clear p2
    try clear c8
    try clear c8b0
    try clear c8b1
    obtain ⟨kq, x27_4, rfl, HA, HJ4, HB⟩ := hcut
    cases kq with
    | zero => exact absurd HA.out (by simp [tickinglaw03_ThreadRanked.j0])
    | succ kj4 =>
      have H := HA.out
      clear HA
      simp only [tickinglaw03_ThreadRanked.j0] at H
      by_cases c9 : x27_4 = true
      · subst c9
        have H1 : (some false) = some r := by rw [if_pos rfl] at H; exact H
        clear H
        have H := H1
        clear H1
        obtain rfl := Option.some.inj H
        go_wp2
        go_ret
        exact ⟨by first | rfl | (simp [errW_none, errW_some] <;> rfl) | (simp [*, errW_none, errW_some] <;> rfl), by repeat (first | (with_reducible first | exact HB.out | apply below_alloc | apply pw_below_drewN | apply below_drew1) | exact HB.out)⟩
      · replace c9 := Bool.eq_false_iff.mpr c9
        subst c9
        have H1 : ((tickinglaw03_mod.f a1 t135).bind fun t137 => ((Given.thread_Item.f t134 t137).bind fun bt138 => ((Given.thread_Index.f t134 bt138.1).bind fun bt140 => ((tickingref03_Within.f kj4 bt138.1 t134).bind fun bt142 => (if bt138.2 = 0 then (if bt140.2 = 0 then (if bt140.1 = t137 then (tickinglaw03_ThreadRanked.j1 kj4 t134 t137 t135 bt138.1 (!bt142.2)) else (tickinglaw03_ThreadRanked.j1 kj4 t134 t137 t135 bt138.1 true)) else (tickinglaw03_ThreadRanked.j1 kj4 t134 t137 t135 bt138.1 true)) else (tickinglaw03_ThreadRanked.j1 kj4 t134 t137 t135 bt138.1 true)))))) = some r := by rw [if_neg (show ¬ (false = true) by decide)] at H; exact H
        clear H
        have H := H1
        clear H1
        replace H := Option.bind_eq_some_iff.mp H
        obtain ⟨t137, A100, H⟩ := H
        replace H : ((Given.thread_Item.f t134 t137).bind fun bt138 => ((Given.thread_Index.f t134 bt138.1).bind fun bt140 => ((tickingref03_Within.f kj4 bt138.1 t134).bind fun bt142 => (if bt138.2 = 0 then (if bt140.2 = 0 then (if bt140.1 = t137 then (tickinglaw03_ThreadRanked.j1 kj4 t134 t137 t135 bt138.1 (!bt142.2)) else (tickinglaw03_ThreadRanked.j1 kj4 t134 t137 t135 bt138.1 true)) else (tickinglaw03_ThreadRanked.j1 kj4 t134 t137 t135 bt138.1 true)) else (tickinglaw03_ThreadRanked.j1 kj4 t134 t137 t135 bt138.1 true))))) = some r := H
        have A10 := Aside0.mk A100
        clear A100
        replace H := Option.bind_eq_some_iff.mp H
        obtain ⟨⟨t138, t139⟩, A110, H⟩ := H
        replace H : ((Given.thread_Index.f t134 t138).bind fun bt140 => ((tickingref03_Within.f kj4 t138 t134).bind fun bt142 => (if t139 = 0 then (if bt140.2 = 0 then (if bt140.1 = t137 then (tickinglaw03_ThreadRanked.j1 kj4 t134 t137 t135 t138 (!bt142.2)) else (tickinglaw03_ThreadRanked.j1 kj4 t134 t137 t135 t138 true)) else (tickinglaw03_ThreadRanked.j1 kj4 t134 t137 t135 t138 true)) else (tickinglaw03_ThreadRanked.j1 kj4 t134 t137 t135 t138 true)))) = some r := H
        have A11 := Aside0.mk A110
        clear A110
        replace H := Option.bind_eq_some_iff.mp H
        obtain ⟨⟨t140, t141⟩, A120, H⟩ := H
        replace H : ((tickingref03_Within.f kj4 t138 t134).bind fun bt142 => (if t139 = 0 then (if t141 = 0 then (if t140 = t137 then (tickinglaw03_ThreadRanked.j1 kj4 t134 t137 t135 t138 (!bt142.2)) else (tickinglaw03_ThreadRanked.j1 kj4 t134 t137 t135 t138 true)) else (tickinglaw03_ThreadRanked.j1 kj4 t134 t137 t135 t138 true)) else (tickinglaw03_ThreadRanked.j1 kj4 t134 t137 t135 t138 true))) = some r := H
        have A12 := Aside0.mk A120
        clear A120
        replace H := Option.bind_eq_some_iff.mp H
        obtain ⟨⟨t142, t143⟩, A130, H⟩ := H
        replace H : (if t139 = 0 then (if t141 = 0 then (if t140 = t137 then (tickinglaw03_ThreadRanked.j1 kj4 t134 t137 t135 t138 (!t143)) else (tickinglaw03_ThreadRanked.j1 kj4 t134 t137 t135 t138 true)) else (tickinglaw03_ThreadRanked.j1 kj4 t134 t137 t135 t138 true)) else (tickinglaw03_ThreadRanked.j1 kj4 t134 t137 t135 t138 true)) = some r := H
        have A13 := Aside0.mk A130
        clear A130
        have HC14 := Aside0.mk H
        clear H
        go_upto_region 9 with (first | ((with_reducible refine gate_callee (f := 14) rfl ?_); refine goesL_ (some 30) rfl rfl Try.func14 (by kernel_rfl) rfl #[.int .i64 a1, .int .i64 t135] rfl (by (try simp only [List.map_toArray, List.map_cons, List.map_nil]); first | done | rfl | (simp only [List.length_drop, List.length_take]; rfl)) ?_; (with_reducible refine (tickinglaw03_mod.calls a1 t135 t137 _ A10.out).mono ?_); rintro e w' ⟨rfl, ⟨nd, rfl⟩⟩; refine ⟨_, rfl, ?_⟩) | ((with_reducible refine gate_callee (f := 28) rfl ?_); refine goesL_ (some 34) rfl rfl Try.func28 (by kernel_rfl) rfl #[.string t134, .int .i64 t137] rfl (by (try simp only [List.map_toArray, List.map_cons, List.map_nil]); first | done | rfl | (simp only [List.length_drop, List.length_take]; rfl)) ?_; (with_reducible refine (Given.thread_Item.calls t134 t137 t138 t139 _ A11.out).mono ?_); rintro e w15 ⟨rfl, hb⟩; refine ⟨_, rfl, ?_⟩; have n0_ := Aside0.mk (below_step (by repeat (first | (with_reducible first | exact HB.out | apply below_alloc | apply pw_below_drewN | apply below_drew1) | exact HB.out)) hb); clear HB; have HB := n0_; clear n0_; (try clear hb); (try clear hb2); (try clear hk); (try clear hi)) | ((with_reducible refine gate_callee (f := 21) rfl ?_); refine goesL_ (some 40) rfl rfl Try.func21 (by kernel_rfl) rfl #[.string t134, .string t138] rfl (by (try simp only [List.map_toArray, List.map_cons, List.map_nil]); first | done | rfl | (simp only [List.length_drop, List.length_take]; rfl)) ?_; (with_reducible refine (Given.thread_Index.calls t134 t138 t140 t141 _ A12.out).mono ?_); rintro e w16 ⟨rfl, hb⟩; refine ⟨_, rfl, ?_⟩; have n0_ := Aside0.mk (below_step (by repeat (first | (with_reducible first | exact HB.out | apply below_alloc | apply pw_below_drewN | apply below_drew1) | exact HB.out)) hb); clear HB; have HB := n0_; clear n0_; (try clear hb); (try clear hb2); (try clear hk); (try clear hi)) | ((with_reducible refine gate_callee (f := 23) rfl ?_); refine goesL_ (some 46) rfl rfl Try.func23 (by kernel_rfl) rfl #[.string t138, .string t134] rfl (by (try simp only [List.map_toArray, List.map_cons, List.map_nil]); first | done | rfl | (simp only [List.length_drop, List.length_take]; rfl)) ?_; (with_reducible refine (tickingref03_Within.calls kj4 t138 t134 t142 t143 _ A13.out).mono ?_); rintro e w17 ⟨v144, rfl, ho0, hb⟩; refine ⟨_, rfl, ?_⟩; have n0_ := Aside0.mk (Kd.R_lower ho0 (below_size (by repeat (first | (with_reducible first | exact HB.out | apply below_alloc | apply pw_below_drewN | apply below_drew1) | exact HB.out)))); have n1_ := Aside0.mk (below_step (by repeat (first | (with_reducible first | exact HB.out | apply below_alloc | apply pw_below_drewN | apply below_drew1) | exact HB.out)) hb); clear HB; have HO145 := n0_; have HB := n1_; clear n0_ n1_; (try clear hb); (try clear hb2); (try clear hk); (try clear hi); (try clear ho0)))
        (try simp only [Act.put, List.setIfInBounds_toArray, List.set_cons_zero, List.set_cons_succ])
        go_cut [63] (fun v63 wc => ∃ (kq : Nat) (x63_13 : Bool), v63 = .bool x63_13 ∧ Aside0 (tickinglaw03_ThreadRanked.j1 kq t134 t137 t135 t138 x63_13 = some r) ∧ Aside0 (kq ≤ kj4) ∧ Aside0 (Below w.heap.size w wc))
        case first =>
          have H := HC14.out
          clear HC14
          by_cases c18 : t139 = 0
          · rw [if_pos c18] at H
            have c18b0 : (t139 == 0) = true := beq_iff_eq.mpr c18
            have c18b1 : (t139 != 0) = false := bne_eq_false_iff_eq.mpr c18
            clear c18
            (first | rw [c18b0] | (simp only [i64_w, i32_w]; rw [c18b0]) | skip)
            by_cases c19 : t141 = 0
            · rw [if_pos c19] at H
              have c19b0 : (t141 == 0) = true := beq_iff_eq.mpr c19
              have c19b1 : (t141 != 0) = false := bne_eq_false_iff_eq.mpr c19
              clear c19
              by_cases c20 : t140 = t137
              · rw [if_pos c20] at H
                have c20b0 : (t140 == t137) = true := beq_iff_eq.mpr c20
                have c20b1 : (t140 != t137) = false := bne_eq_false_iff_eq.mpr c20
                clear c20
                have H' := Aside0.mk H
                clear H
                go_wp2
                go_meet
                case rel => exact ⟨_, (!t143), (by first | rfl | (simp; done) | (simp [*]; done)), H', ⟨by have := HJ4.out; first | omega | exact Nat.le_refl _⟩, ⟨by repeat (first | (with_reducible first | exact HB.out | apply below_alloc | apply pw_below_drewN | apply below_drew1) | exact HB.out)⟩⟩
              · rw [if_neg c20] at H
                have c20b0 : (t140 == t137) = false := beq_eq_false_iff_ne.mpr c20
                have c20b1 : (t140 != t137) = true := bne_iff_ne.mpr c20
                have H' := Aside0.mk H
                clear H
                go_wp2
                go_meet
                case rel => exact ⟨_, (true), (by first | rfl | (simp; done) | (simp [*]; done)), H', ⟨by have := HJ4.out; first | omega | exact Nat.le_refl _⟩, ⟨by repeat (first | (with_reducible first | exact HB.out | apply below_alloc | apply pw_below_drewN | apply below_drew1) | exact HB.out)⟩⟩
            · rw [if_neg c19] at H
              have c19b0 : (t141 == 0) = false := beq_eq_false_iff_ne.mpr c19
              have c19b1 : (t141 != 0) = true := bne_iff_ne.mpr c19
              have H' := Aside0.mk H
              clear H
              go_wp2
              go_meet
              case rel => exact ⟨_, (true), (by first | rfl | (simp; done) | (simp [*]; done)), H', ⟨by have := HJ4.out; first | omega | exact Nat.le_refl _⟩, ⟨by repeat (first | (with_reducible first | exact HB.out | apply below_alloc | apply pw_below_drewN | apply below_drew1) | exact HB.out)⟩⟩
          · rw [if_neg c18] at H
            have c18b0 : (t139 == 0) = false := beq_eq_false_iff_ne.mpr c18
            have c18b1 : (t139 != 0) = true := bne_iff_ne.mpr c18
            (first | rw [c18b0] | (simp only [i64_w, i32_w]; rw [c18b0]) | skip)
            have H' := Aside0.mk H
            clear H
            go_wp2
            go_meet
            case rel => exact ⟨_, (true), (by first | rfl | (simp; done) | (simp [*]; done)), H', ⟨by have := HJ4.out; first | omega | exact Nat.le_refl _⟩, ⟨by repeat (first | (with_reducible first | exact HB.out | apply below_alloc | apply pw_below_drewN | apply below_drew1) | exact HB.out)⟩⟩
        case rest =>
          clear HC14
          try clear c1
          try clear c2
          try clear p2
          try clear c8
          try clear c8b0
          try clear c8b1
          try clear c9
          try clear c10
          try clear c14
          try clear c15
          try clear c18
          try clear c18b0
          try clear c18b1
          try clear c19
          try clear c19b0
          try clear c19b1
          try clear c20
          try clear c20b0
          try clear c20b1
          try clear p2
          obtain ⟨kq, x63_13, rfl, HA, HJ13, HB⟩ := hcut
          cases kq with
          | zero => exact absurd HA.out (by simp [tickinglaw03_ThreadRanked.j1])
          | succ kj13 =>
            have H := HA.out
            clear HA
            simp only [tickinglaw03_ThreadRanked.j1] at H
            by_cases c21 : x63_13 = true
            · subst c21
              have H1 : (some false) = some r := by rw [if_pos rfl] at H; exact H
              clear H
              have H := H1
              clear H1
              obtain rfl := Option.some.inj H
              go_wp2
              go_ret
              exact ⟨by first | rfl | (simp [errW_none, errW_some] <;> rfl) | (simp [*, errW_none, errW_some] <;> rfl), by repeat (first | (with_reducible first | exact HB.out | apply below_alloc | apply pw_below_drewN | apply below_drew1) | exact HB.out)⟩
            · replace c21 := Bool.eq_false_iff.mpr c21
              subst c21
              have H1 : (if (wrap64 (t137 + 1)) = t135 then ((tickinglaw03_awake.f kj13).bind fun t146 => (some t146)) else ((Given.thread_Item.f t134 (wrap64 (t137 + 1))).bind fun bt147 => (if bt147.2 = 0 then (if (Op.bytesLess t138.toList bt147.1.toList) = true then ((tickinglaw03_awake.f kj13).bind fun t149 => (some t149)) else (some false)) else (some false)))) = some r := by rw [if_neg (show ¬ (false = true) by decide)] at H; exact H
              clear H
              have H := H1
              clear H1
              by_cases c22 : (wrap64 (t137 + 1)) = t135
              · rw [if_pos c22] at H
                have c22b0 : ((wrap64 (t137 + 1)) == t135) = true := beq_iff_eq.mpr c22
                have c22b1 : ((wrap64 (t137 + 1)) != t135) = false := bne_eq_false_iff_eq.mpr c22
                clear c22
                replace H := Option.bind_eq_some_iff.mp H
                obtain ⟨t146, A230, H⟩ := H
                replace H : (some t146) = some r := H
                have A23 := Aside0.mk A230
                clear A230
                obtain rfl := Option.some.inj H
                go_wp2_with (first | ((with_reducible refine gate_callee (f := 19) rfl ?_); refine goesL_ (some 68) rfl rfl Try.func19 (by kernel_rfl) rfl #[] rfl (by (try simp only [List.map_toArray, List.map_cons, List.map_nil]); first | done | rfl | (simp only [List.length_drop, List.length_take]; rfl)) ?_; (with_reducible refine (tickinglaw03_awake.calls kj13  t146 _ A23.out).mono ?_); rintro e w24 ⟨rfl, hb⟩; refine ⟨_, rfl, ?_⟩; have n0_ := Aside0.mk (below_step (by repeat (first | (with_reducible first | exact HB.out | apply below_alloc | apply pw_below_drewN | apply below_drew1) | exact HB.out)) hb); clear HB; have HB := n0_; clear n0_; (try clear hb); (try clear hb2); (try clear hk); (try clear hi)))
                go_ret
                exact ⟨by first | rfl | (simp [errW_none, errW_some] <;> rfl) | (simp [*, errW_none, errW_some] <;> rfl), by repeat (first | (with_reducible first | exact HB.out | apply below_alloc | apply pw_below_drewN | apply below_drew1) | exact HB.out)⟩
              · rw [if_neg c22] at H
                have c22b0 : ((wrap64 (t137 + 1)) == t135) = false := beq_eq_false_iff_ne.mpr c22
                have c22b1 : ((wrap64 (t137 + 1)) != t135) = true := bne_iff_ne.mpr c22
                replace H := Option.bind_eq_some_iff.mp H
                obtain ⟨⟨t147, t148⟩, A250, H⟩ := H
                replace H : (if t148 = 0 then (if (Op.bytesLess t138.toList t147.toList) = true then ((tickinglaw03_awake.f kj13).bind fun t149 => (some t149)) else (some false)) else (some false)) = some r := H
                have A25 := Aside0.mk A250
                clear A250
                by_cases c26 : t148 = 0
                · rw [if_pos c26] at H
                  have c26b0 : (t148 == 0) = true := beq_iff_eq.mpr c26
                  have c26b1 : (t148 != 0) = false := bne_eq_false_iff_eq.mpr c26
                  clear c26
                  by_cases c27 : (Op.bytesLess t138.toList t147.toList) = true
                  · rw [if_pos c27] at H
                    have c27b0 : (Op.bytesLess t138.toList t147.toList) = true := c27
                    clear c27
                    replace H := Option.bind_eq_some_iff.mp H
                    obtain ⟨t149, A280, H⟩ := H
                    replace H : (some t149) = some r := H
                    have A28 := Aside0.mk A280
                    clear A280
                    obtain rfl := Option.some.inj H
                    go_wp2_with (first | ((with_reducible refine gate_callee (f := 28) rfl ?_); refine goesL_ (some 73) rfl rfl Try.func28 (by kernel_rfl) rfl #[.string t134, .int .i64 (wrap64 (t137 + 1))] rfl (by (try simp only [List.map_toArray, List.map_cons, List.map_nil]); first | done | rfl | (simp only [List.length_drop, List.length_take]; rfl)) ?_; (with_reducible refine (Given.thread_Item.calls t134 (wrap64 (t137 + 1)) t147 t148 _ A25.out).mono ?_); rintro e w29 ⟨rfl, hb⟩; refine ⟨_, rfl, ?_⟩; have n0_ := Aside0.mk (below_step (by repeat (first | (with_reducible first | exact HB.out | apply below_alloc | apply pw_below_drewN | apply below_drew1) | exact HB.out)) hb); clear HB; have HB := n0_; clear n0_; (try clear hb); (try clear hb2); (try clear hk); (try clear hi)) | (go_at_call 19; (with_reducible refine (tickinglaw03_awake.calls kj13  t149 _ A28.out).mono ?_); rintro e w30 ⟨rfl, hb⟩; have n0_ := Aside0.mk (below_step (by repeat (first | (with_reducible first | exact HB.out | apply below_alloc | apply pw_below_drewN | apply below_drew1) | exact HB.out)) hb); clear HB; have HB := n0_; clear n0_; (try clear hb); (try clear hb2); (try clear hk); (try clear hi)))
                    go_ret
                    exact ⟨by first | rfl | (simp [errW_none, errW_some] <;> rfl) | (simp [*, errW_none, errW_some] <;> rfl), by repeat (first | (with_reducible first | exact HB.out | apply below_alloc | apply pw_below_drewN | apply below_drew1) | exact HB.out)⟩
                  · rw [if_neg c27] at H
                    have c27b0 : (Op.bytesLess t138.toList t147.toList) = false := by simpa using c27
                    clear c27
                    obtain rfl := Option.some.inj H
                    go_wp2_with (first | ((with_reducible refine gate_callee (f := 28) rfl ?_); refine goesL_ (some 73) rfl rfl Try.func28 (by kernel_rfl) rfl #[.string t134, .int .i64 (wrap64 (t137 + 1))] rfl (by (try simp only [List.map_toArray, List.map_cons, List.map_nil]); first | done | rfl | (simp only [List.length_drop, List.length_take]; rfl)) ?_; (with_reducible refine (Given.thread_Item.calls t134 (wrap64 (t137 + 1)) t147 t148 _ A25.out).mono ?_); rintro e w31 ⟨rfl, hb⟩; refine ⟨_, rfl, ?_⟩; have n0_ := Aside0.mk (below_step (by repeat (first | (with_reducible first | exact HB.out | apply below_alloc | apply pw_below_drewN | apply below_drew1) | exact HB.out)) hb); clear HB; have HB := n0_; clear n0_; (try clear hb); (try clear hb2); (try clear hk); (try clear hi)))
                    go_ret
                    exact ⟨by first | rfl | (simp [errW_none, errW_some] <;> rfl) | (simp [*, errW_none, errW_some] <;> rfl), by repeat (first | (with_reducible first | exact HB.out | apply below_alloc | apply pw_below_drewN | apply below_drew1) | exact HB.out)⟩
                · rw [if_neg c26] at H
                  have c26b0 : (t148 == 0) = false := beq_eq_false_iff_ne.mpr c26
                  have c26b1 : (t148 != 0) = true := bne_iff_ne.mpr c26
                  obtain rfl := Option.some.inj H
                  go_wp2_with (first | ((with_reducible refine gate_callee (f := 28) rfl ?_); refine goesL_ (some 73) rfl rfl Try.func28 (by kernel_rfl) rfl #[.string t134, .int .i64 (wrap64 (t137 + 1))] rfl (by (try simp only [List.map_toArray, List.map_cons, List.map_nil]); first | done | rfl | (simp only [List.length_drop, List.length_take]; rfl)) ?_; (with_reducible refine (Given.thread_Item.calls t134 (wrap64 (t137 + 1)) t147 t148 _ A25.out).mono ?_); rintro e w32 ⟨rfl, hb⟩; refine ⟨_, rfl, ?_⟩; have n0_ := Aside0.mk (below_step (by repeat (first | (with_reducible first | exact HB.out | apply below_alloc | apply pw_below_drewN | apply below_drew1) | exact HB.out)) hb); clear HB; have HB := n0_; clear n0_; (try clear hb); (try clear hb2); (try clear hk); (try clear hi)))
                  go_ret
                  exact ⟨by first | rfl | (simp [errW_none, errW_some] <;> rfl) | (simp [*, errW_none, errW_some] <;> rfl), by repeat (first | (with_reducible first | exact HB.out | apply below_alloc | apply pw_below_drewN | apply below_drew1) | exact HB.out)⟩

/-- THE ONE PURE STATEMENT of tickinglaw03_ThreadRanked: yours. -/
def tickinglaw03_ThreadRanked.Pure : Prop := ∀ (a0 : ByteArray) (a1 : Int), a0.size ≤ 140737488351232 → (Lit.int .i64 a1).wf = true → ∃ k, tickinglaw03_ThreadRanked.f k a0 a1 = some true
theorem tickinglaw03_ThreadRanked.walk (P : tickinglaw03_ThreadRanked.Pure) (a0 : ByteArray) (a1 : Int) (w : World) (w0 : a0.size ≤ 140737488351232) (w1 : (Lit.int .i64 a1).wf = true) :
    Calls Try.prog 10 #[.string a0, .int .i64 a1] w fun e w' => e = .returned (.bool true) ∧ Below w.heap.size w w' := by
  obtain ⟨k, h⟩ := P a0 a1 w0 w1
  refine (tickinglaw03_ThreadRanked.calls k a0 a1 true w h).mono ?_
  rintro e w' ⟨rfl, hd⟩
  exact ⟨rfl, hd⟩

end Go.Proofs.Ytfjbodaakmapdaa.PThreadRanked
