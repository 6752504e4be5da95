/-
  The walk of the statement ThreadCongruent.
-/
import Derived.Test.YtfjbodaakmapdaaTb
import Derived.Test.YtfjbodaakmapdaaTc
import Derived.Test.YtfjbodaakmapdaaDwP
import Derived.Test.YtfjbodaakmapdaaPThreadCongruentx1
import Derived.Deep.RegionHeld3
namespace Go.Proofs.Ytfjbodaakmapdaa
open Go.RowKit Go.Shelf Th Kit Go.Proofs.YtfjbodaakmapdaaW.PrintWords Go.Proofs.YtfjbodaakmapdaaW.PrintLast Go.Proofs.YtfjbodaakmapdaaW.PrintMore PThreadCongruent
attribute [local go_sem] min2_int min_two

namespace CongP
theorem awake_true : tickinglaw03_awake.f 10 = some true := by kernel_rfl
theorem awake_k (k : Nat) (h : 10 ≤ k) : tickinglaw03_awake.f k = some true := by
  obtain ⟨d, rfl⟩ : ∃ d, k = 10 + d := ⟨k - 10, by omega⟩
  clear h
  induction d with
  | zero => exact awake_true
  | succ d ih => exact tickinglaw03_awake.mono (10 + d) true ih
theorem w64 (x : Int) (h1 : -9223372036854775808 ≤ x) (h2 : x ≤ 9223372036854775807) : wrap64 x = x := by
  unfold wrap64; omega
theorem mod_f (a : Int) (n : Nat) (h1 : 1 ≤ n) (h2 : n ≤ 1152921504606846976) : ∃ r : Nat, r < n ∧ tickinglaw03_mod.f a n = some (r : Int) := by
  unfold tickinglaw03_mod.f
  have hw : IntKind.u64.wrap (n : Int) = n := by
    simp [IntKind.wrap, IntKind.bits, IntKind.signed]; omega
  have ha : 0 ≤ IntKind.u64.wrap a := by
    simp [IntKind.wrap, IntKind.bits, IntKind.signed]; omega
  rw [hw, if_neg (by omega)]
  refine ⟨(Int.tmod (IntKind.u64.wrap a) n).toNat, ?_, ?_⟩
  · have h3 := Int.tmod_lt_of_pos (IntKind.u64.wrap a) (show (0 : Int) < n by omega)
    have h4 := Int.tmod_nonneg (n : Int) ha
    omega
  · have h3 := Int.tmod_lt_of_pos (IntKind.u64.wrap a) (show (0 : Int) < n by omega)
    have h4 := Int.tmod_nonneg (n : Int) ha
    rw [w64 _ (by omega) (by omega)]
    congr 1; omega
end CongP
open CongP

theorem bl_app (a b : ByteArray) : bl (a ++ b) = bl a ++ bl b := by
  unfold bl
  rw [ByteArray.data_append, Array.toList_append, List.map_append]
theorem within_in (s t : ByteArray) (hs : isW s = true) (ht : isW t = true) (h : (bl s).Sublist (bl t)) : ∃ ps, Given.thread_Within.f s t = some (ps, 0) := by
  have h1 := wn_sub (bl s) (bl t) 0 (lt_of_isW hs) (Nat.zero_le _)
  rw [List.drop_zero] at h1
  obtain ⟨ps, hps⟩ := Option.isSome_iff_exists.1 (h1.2 h)
  refine ⟨zs ps, ?_⟩
  unfold Given.thread_Within.f
  rw [if_pos hs, if_pos ht, hps]
theorem within_out (s t : ByteArray) (hs : isW s = true) (ht : isW t = true) (h : ¬ (bl s).Sublist (bl t)) : ∃ ps, Given.thread_Within.f s t = some (ps, 6) := by
  have h1 := wn_sub (bl s) (bl t) 0 (lt_of_isW hs) (Nat.zero_le _)
  rw [List.drop_zero] at h1
  refine ⟨[], ?_⟩
  unfold Given.thread_Within.f
  rw [if_pos hs, if_pos ht]
  cases hw : wn (bl s) (bl t) 0 with
  | none => rfl
  | some ps => rw [hw] at h1; exact absurd (h1.1 rfl) h
theorem cat_isW {a b : ByteArray} (ha : isW a = true) (hb : isW b = true) (h : a.size + b.size ≤ 60) : isW (a ++ b) = true := by
  have h1 : Lt 4 (bl (a ++ b)) := by rw [bl_app]; exact (lt_of_isW ha).append (lt_of_isW hb)
  have := isW_str h1 (by rw [bl_len, ByteArray.size_append]; exact h)
  rwa [str_bl] at this

def TruePost (w : World) (e : Ending) (w' : World) : Prop := e = .returned (.bool true) ∧ Below w.heap.size w w'

theorem tame203 (a : ByteArray) (w : World) : Calls Try.prog 15 #[.string a, .int .i64 20, .int .i64 3] w fun e w' => e = .returned (.string (str (tml a 20 3))) ∧ Below w.heap.size w w' :=
  Given.tickinglaw03_tame.calls a 20 3 _ w (tame_f a 20 3 (by omega) (by omega))

theorem keep4 {W wo wn : World} (h : Below W.heap.size W wo) (hb : Below wo.heap.size wo wn) : Below W.heap.size W wn := h.trans (hb.mono h.size)
theorem keepS {W w' : World} {b : Nat} {v0 v1 v2 v3 : Value} (hlt : b < W.heap.size) (k0 : W.cell? ⟨b, 0, none⟩ = some v0) (k1 : W.cell? ⟨b, 1, none⟩ = some v1) (k2 : W.cell? ⟨b, 2, none⟩ = some v2) (k3 : W.cell? ⟨b, 3, none⟩ = some v3) (h : Below W.heap.size W w') :
    w'.cell? ⟨b, 0, none⟩ = some v0 ∧ w'.cell? ⟨b, 1, none⟩ = some v1 ∧ w'.cell? ⟨b, 2, none⟩ = some v2 ∧ w'.cell? ⟨b, 3, none⟩ = some v3 ∧ Below W.heap.size W w' :=
  ⟨(h.cell (p := ⟨b, 0, none⟩) hlt).trans k0, (h.cell (p := ⟨b, 1, none⟩) hlt).trans k1, (h.cell (p := ⟨b, 2, none⟩) hlt).trans k2, (h.cell (p := ⟨b, 3, none⟩) hlt).trans k3, h⟩

set_option maxRecDepth 100000 in
set_option maxHeartbeats 4000000 in
theorem cong_walk (x0 x1 x2 x3 : ByteArray) (n : Int) (w : World) : Calls Try.prog 6 #[.agg #[.string x0, .string x1, .string x2, .string x3], .int .i64 n] w (TruePost w) := by
  go_enter Try.func6, Try.ntmps6
  go_wp2_with fail
  have hbx := Blk.new w #[.string x0, .string x1, .string x2, .string x3] 44
  have hB0 := below_new w (.cells #[.string x0, .string x1, .string x2, .string x3] 44)
  have k0 := hbx.cell 0
  have k1 := hbx.cell 1
  have k2 := hbx.cell 2
  have k3 := hbx.cell 3
  simp only [List.getElem?_toArray, List.getElem?_cons_zero, List.getElem?_cons_succ] at k0 k1 k2 k3
  generalize w.alloc (.cells #[.string x0, .string x1, .string x2, .string x3] 44) = W at *
  have hlt : w.heap.size < W.heap.size := hbx.lt
  have HB : Below W.heap.size W W := Below.refl _ _
  clear hbx
  go_region_held3 (fun w' => w'.cell? ⟨w.heap.size, 0, none⟩ = some (.string x0) ∧ w'.cell? ⟨w.heap.size, 1, none⟩ = some (.string x1) ∧ w'.cell? ⟨w.heap.size, 2, none⟩ = some (.string x2) ∧ w'.cell? ⟨w.heap.size, 3, none⟩ = some (.string x3) ∧ Below W.heap.size W w')
    (first
      | exact keepS hlt k0 k1 k2 k3 ((Below.refl _ _).drew)
      | exact keepS hlt k0 k1 k2 k3 (keep4 (by assumption) hb)
      | (go_split_ands; exact keepS hlt k0 k1 k2 k3 (keep4 (by assumption) hb))
      | go_keep)
    ((go_at_call 15; refine (tame203 _ _).mono ?_; rintro e w' ⟨rfl, hb⟩))
  have hB1 : Below w.heap.size w w' := by
    rename_i hh
    exact hB0.trans (hh.2.2.2.2.mono hB0.size)
  have w0 := isW_tml x0 20 3 (by omega) (by omega)
  have w1 := isW_tml x1 20 3 (by omega) (by omega)
  have w2 := isW_tml x2 20 3 (by omega) (by omega)
  have w3 := isW_tml x3 20 3 (by omega) (by omega)
  have z0 : (str (tml x0 20 3)).size ≤ 20 := by rw [str_size, tml_len]; omega
  have z1 : (str (tml x1 20 3)).size ≤ 20 := by rw [str_size, tml_len]; omega
  have z2 : (str (tml x2 20 3)).size ≤ 20 := by rw [str_size, tml_len]; omega
  have z3 : (str (tml x3 20 3)).size ≤ 20 := by rw [str_size, tml_len]; omega
  go_wp2_with fail
  generalize str (tml x0 20 3) = u at *
  generalize str (tml x1 20 3) = v at *
  generalize str (tml x2 20 3) = a at *
  generalize str (tml x3 20 3) = b at *
  obtain ⟨r, hr6, hm⟩ := mod_f n 6 (by omega) (by omega)
  refine (tickinglaw03_mod.calls n 6 r _ hm).mono ?_
  rintro e w4 ⟨rfl, hd⟩
  obtain ⟨q, rfl⟩ := hd
  have hB2 := below_drewN hB1 q
  generalize w'.drewN q = W4 at hB2 ⊢
  have hau : isW (a ++ u) = true := cat_isW w2 w0 (by omega)
  have hav : isW (a ++ v) = true := cat_isW w2 w1 (by omega)
  have haub : isW (a ++ u ++ b) = true := cat_isW hau w3 (by rw [ByteArray.size_append]; omega)
  have havb : isW (a ++ v ++ b) = true := cat_isW hav w3 (by rw [ByteArray.size_append]; omega)
  have c1 : a.size + u.size ≤ 9223372036854775807 := by omega
  have c2 : a.size + v.size ≤ 9223372036854775807 := by omega
  have c3 : (a ++ u).size + b.size ≤ 9223372036854775807 := by rw [ByteArray.size_append]; omega
  have c4 : (a ++ v).size + b.size ≤ 9223372036854775807 := by rw [ByteArray.size_append]; omega
  by_cases he : u = v
  · subst he
    have hS1 : Given.thread_Same.f u u r = some (true, 0) := by
      unfold Given.thread_Same.f
      rw [if_pos w0, if_pos w0, if_neg (by omega), if_pos rfl]
    have hS2 : Given.thread_Same.f (a ++ u ++ b) (a ++ u ++ b) r = some (true, 0) := by
      unfold Given.thread_Same.f
      rw [if_pos haub, if_pos haub, if_neg (by omega), if_pos rfl]
    have hD : Given.thread_Differ.f u u = some (⟨#[]⟩, 6) := by
      unfold Given.thread_Differ.f
      rw [if_pos w0, if_pos w0, if_pos rfl]
    have HS1 := Lib.hid hS1
    have HS2 := Lib.hid hS2
    have HD := Lib.hid hD
    clear hS1 hS2 hD hau hav haub havb hm w0 w1 w2 w3
    go_wp2_with fail
    refine (Given.thread_Same.calls u u r _ _ _ HS1.out).mono ?_
    rintro e w5 ⟨rfl, hb5⟩
    have hB3 := hB2.trans (hb5.mono hB2.size)
    clear hB2 hb5
    go_wp2_with fail
    refine (Given.thread_Same.calls _ _ r _ _ _ HS2.out).mono ?_
    rintro e w6 ⟨rfl, hb6⟩
    have hB4 := hB3.trans (hb6.mono hB3.size)
    clear hB3 hb6
    go_wp2_with fail
    refine (Given.thread_Differ.calls u u _ _ _ HD.out).mono ?_
    rintro e w7 ⟨rfl, hb7⟩
    have hB5 := hB4.trans (hb7.mono hB4.size)
    clear hB4 hb7
    go_wp2_with fail
    refine (tickinglaw03_awake.calls 10 true _ awake_true).mono ?_
    rintro e w8 ⟨rfl, hb8⟩
    have hB6 := hB5.trans (hb8.mono hB5.size)
    clear hB5 hb8
    go_wp2
    go_ret
    exact ⟨rfl, hB6⟩
  · have lu := lt_of_isW w0
    have lv := lt_of_isW w1
    have hne : bl u ≠ bl v := fun h => he (by rw [← str_bl u, ← str_bl v, h])
    obtain ⟨d1, d2, d3, d4, d5⟩ := dw_spec (bl u) (bl v) (by rw [bl_len]; omega) (by rw [bl_len]; omega) lu lv hne
    have hne2 : a ++ u ++ b ≠ a ++ v ++ b := fun h => by
      have := congrArg bl h
      rw [bl_app, bl_app, bl_app, bl_app, List.append_left_inj, List.append_right_inj] at this
      exact hne this
    have hne3 : bl (a ++ u ++ b) ≠ bl (a ++ v ++ b) := fun h => hne2 (by rw [← str_bl (a ++ u ++ b), ← str_bl (a ++ v ++ b), h])
    obtain ⟨g1, g2, g3, g4, g5⟩ := dw_spec (bl (a ++ u ++ b)) (bl (a ++ v ++ b)) (by have := (isW_iff _).1 haub; rw [bl_len]; exact this.1) (by have := (isW_iff _).1 havb; rw [bl_len]; exact this.1) (lt_of_isW haub) (lt_of_isW havb) hne3
    rw [bl_len] at d3 d4
    have hS : ∀ m : Nat, Given.thread_Same.f u v m = some (decide ((m : Int) < ((dw (bl u) (bl v)).length : Int)), 0) := fun m => by
      unfold Given.thread_Same.f
      rw [if_pos w0, if_pos w1, if_neg (by omega), if_neg he]
    have hS2 : Given.thread_Same.f (a ++ u ++ b) (a ++ v ++ b) r = some (decide ((r : Int) < ((dw (bl (a ++ u ++ b)) (bl (a ++ v ++ b))).length : Int)), 0) := by
      unfold Given.thread_Same.f
      rw [if_pos haub, if_pos havb, if_neg (by omega), if_neg hne2]
    have hD : Given.thread_Differ.f u v = some (str (dw (bl u) (bl v)), 0) := by
      unfold Given.thread_Differ.f
      rw [if_pos w0, if_pos w1, if_neg he]
    have hgo : r < (dw (bl u) (bl v)).length → r < (dw (bl (a ++ u ++ b)) (bl (a ++ v ++ b))).length := fun h => by
      by_cases hlt : r < (dw (bl (a ++ u ++ b)) (bl (a ++ v ++ b))).length
      · exact hlt
      · exfalso
        have hc : ∀ x, Lt 4 x → x.length ≤ r → (x.Sublist (bl u) ↔ x.Sublist (bl v)) := fun x hx hl => d5 x hx (by omega)
        apply g1
        rw [bl_app, bl_app, bl_app, bl_app] at *
        exact ⟨fun h => sub_congr (bl a) (bl u) (bl v) (bl b) r hc _ g2 (by omega) h, fun h => sub_congr (bl a) (bl v) (bl u) (bl b) r (fun x hx hl => (hc x hx hl).symm) _ g2 (by omega) h⟩
    have hsW : isW (str (dw (bl u) (bl v))) = true := isW_str d2 (by omega)
    have hsb : bl (str (dw (bl u) (bl v))) = dw (bl u) (bl v) := bl_strL d2 (by omega)
    have hsz : (str (dw (bl u) (bl v))).size = (dw (bl u) (bl v)).length := str_size _
    clear g1 g2 g3 g4 g5 hne3 hne2 hne d5 lu lv
    generalize (dw (bl (a ++ u ++ b)) (bl (a ++ v ++ b))).length = D2 at hS2 hgo
    rw [← hsb] at d1 d2
    generalize str (dw (bl u) (bl v)) = s at *
    generalize (dw (bl u) (bl v)).length = D at *
    subst hsz
    have hne := toList_ne he
    have hw : (∃ p1 p2, Given.thread_Within.f s u = some (p1, 0) ∧ Given.thread_Within.f s v = some (p2, 6)) ∨ (∃ p1 p2, Given.thread_Within.f s u = some (p1, 6) ∧ Given.thread_Within.f s v = some (p2, 0)) := by
      by_cases h1 : (bl s).Sublist (bl u)
      · have h2 : ¬ (bl s).Sublist (bl v) := fun h2 => d1 ⟨fun _ => h2, fun _ => h1⟩
        obtain ⟨p1, e1⟩ := within_in s u hsW w0 h1
        obtain ⟨p2, e2⟩ := within_out s v hsW w1 h2
        exact .inl ⟨p1, p2, e1, e2⟩
      · have h2 : (bl s).Sublist (bl v) := by
          by_cases h2 : (bl s).Sublist (bl v)
          · exact h2
          · exact absurd ⟨fun h => absurd h h1, fun h => absurd h h2⟩ d1
        obtain ⟨p1, e1⟩ := within_out s u hsW w0 h1
        obtain ⟨p2, e2⟩ := within_in s v hsW w1 h2
        exact .inr ⟨p1, p2, e1, e2⟩
    have hmin : (s.size : Int) ≤ 1 + (if (v.size : Int) < (u.size : Int) then (v.size : Int) else u.size) := by split <;> omega
    have HS := Lib.hid hS
    have HS2 := Lib.hid hS2
    have HD := Lib.hid hD
    have Hne := Lib.hid hne
    clear hS hS2 hD hau hav haub havb hm w0 w1 w2 w3 hsb hsW d1 d2 he hne
    have hcont : ∀ (b2 : Bool) (b1 : Bool), b1 = decide ((r : Int) < (s.size : Int)) → b2 = decide ((r : Int) < (D2 : Int)) → (b1 = true → b2 = true) := fun b2 b1 e1 e2 h => by
      rw [e1, decide_eq_true_iff] at h
      rw [e2, decide_eq_true_iff]
      have := hgo (by omega)
      omega
    have HS1 := Lib.hid (HS.out r)
    have Hcont := Lib.hid (hcont _ _ rfl rfl)
    clear hcont hgo
    generalize decide ((r : Int) < (s.size : Int)) = b1 at HS1 Hcont
    generalize decide ((r : Int) < (D2 : Int)) = b2 at HS2 Hcont
    have Hw := Lib.hid hw
    clear hw
    go_wp2_with fail
    refine (Given.thread_Same.calls u v r _ _ _ HS1.out).mono ?_
    rintro e w5 ⟨rfl, hb5⟩
    have hB3 := hB2.trans (hb5.mono hB2.size)
    clear hB2 hb5
    go_wp2_with fail
    refine (Given.thread_Same.calls _ _ r _ _ _ HS2.out).mono ?_
    rintro e w6 ⟨rfl, hb6⟩
    have hB4 := hB3.trans (hb6.mono hB3.size)
    clear hB3 hb6
    go_wp2_with fail
    refine (Given.thread_Differ.calls u v _ _ _ HD.out).mono ?_
    rintro e w7 ⟨rfl, hb7⟩
    have hB5 := hB4.trans (hb7.mono hB4.size)
    clear hB4 hb7
    have hb12 : b1 = false ∨ (b1 = true ∧ b2 = true) := by
      cases hb1 : b1 with
      | false => exact .inl rfl
      | true => exact .inr ⟨rfl, Hcont.out hb1⟩
    clear HS1 HS2 Hcont
    rcases hb12 with rfl | ⟨rfl, rfl⟩
    all_goals
      have hne := Hne.out
      go_wp2_with fail
      clear hne
      rcases Hw.out with ⟨p1, p2, e1, e2⟩ | ⟨p1, p2, e1, e2⟩
      all_goals
        have He1 := Lib.hid e1
        have He2 := Lib.hid e2
        clear e1 e2
        refine (Given.thread_Within.calls s u _ _ _ He1.out).mono ?_
        rintro e w8 ⟨v8, rfl, _, hb8⟩
        have hB6 := hB5.trans (hb8.mono hB5.size)
        clear hb8
        go_wp2_with fail
        refine (Given.thread_Within.calls s v _ _ _ He2.out).mono ?_
        rintro e w9 ⟨v9, rfl, _, hb9⟩
        have hB7 := hB6.trans (hb9.mono hB6.size)
        clear hb9 hB6
        go_wp2_with fail
        all_goals
          go_loopw [19] (fun vm wr => ∃ m : Nat, vm = .int .i64 m ∧ m ≤ s.size + 1 ∧ Aside0 (Below w.heap.size w wr)) (fun vm _ => s.size + 1 - (intOf vm).toNat)
          case atStart => exact ⟨0, rfl, Nat.zero_le _, ⟨hB7⟩⟩
          case round =>
            obtain ⟨m, rfl, hm, HB8⟩ := hrel
            by_cases hlt : m ≤ s.size
            · have HSm := Lib.hid (HS.out m)
              by_cases hms : m < s.size
              · have hd : decide ((m : Int) < (s.size : Int)) = true := decide_eq_true (by omega)
                go_wp2_with fail
                refine (Given.thread_Same.calls u v m _ _ _ HSm.out).mono ?_
                rw [hd]
                rintro e w10 ⟨rfl, hb10⟩
                have hB8 := HB8.out.trans (hb10.mono HB8.out.size)
                go_wp2
                go_roundw
                case rel => exact ⟨m + 1, by go_num, by omega, ⟨hB8⟩⟩
                case measure => simp [intOf]; omega
              · have hd : decide ((m : Int) < (s.size : Int)) = false := decide_eq_false (by omega)
                go_wp2_with fail
                refine (Given.thread_Same.calls u v m _ _ _ HSm.out).mono ?_
                rw [hd]
                rintro e w10 ⟨rfl, hb10⟩
                have hB8 := HB8.out.trans (hb10.mono HB8.out.size)
                go_wp2
                go_roundw
                case rel => exact ⟨m + 1, by go_num, by omega, ⟨hB8⟩⟩
                case measure => simp [intOf]; omega
            · go_wp2_with fail
              refine (tickinglaw03_awake.calls 10 true _ awake_true).mono ?_
              rintro e w11 ⟨rfl, hb11⟩
              have hB9 := HB8.out.trans (hb11.mono HB8.out.size)
              go_wp2
              go_ret
              exact ⟨rfl, hB9⟩
end Go.Proofs.Ytfjbodaakmapdaa
