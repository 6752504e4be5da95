/-
  The contract of thread.Within.
-/
import Derived.Test.YtfjbodaakmapdaaCount
import Derived.Test.YtfjbodaakmapdaaWMore
namespace Go.Proofs.Ytfjbodaakmapdaa
open Go.RowKit Th Kit Go.Proofs.YtfjbodaakmapdaaW.PrintWords Go.Proofs.YtfjbodaakmapdaaW.PrintLast Go.Proofs.YtfjbodaakmapdaaW.PrintMore

theorem info3 : (Try.prog.info? 3).map (fun i => (i.zero, i.size, i.bytes)) = some (some (.int .i64 0), 1, 8) := by kernel_rfl

namespace Given
def thread_Within.f (u w : ByteArray) : Option (List Int × Int) :=
  some (if isW u = true then (if isW w = true then (match wn (bl u) (bl w) 0 with | some l => (zs l, 0) | none => ([], 6)) else ([], 2)) else ([], 2))
end Given

def WithinPost (r1 : List Int) (r2 : Int) (w : World) (e : Ending) (w' : World) : Prop :=
  ∃ v0_ : Value, e = .returned (.tuple #[v0_, .int .i64 r2]) ∧ Kd.R (Kd.int .i64) 3 w' w.heap.size (fun _ => True) v0_ r1 ∧ Below w.heap.size w w'

set_option maxRecDepth 100000 in
set_option maxHeartbeats 2000000 in
theorem within_walk (u t : ByteArray) (w : World) (hu : isW u = true) (ht : isW t = true) (r1 : List Int) (r2 : Int)
    (hr : (match wn (bl u) (bl t) 0 with | some l => (zs l, (0 : Int)) | none => ([], 6)) = (r1, r2)) :
    Calls Try.prog 18 #[.string u, .string t] w (WithinPost r1 r2 w) := by
  have Hr := Lib.hid hr
  obtain ⟨hu60, hul⟩ := (isW_iff u).1 hu
  obtain ⟨ht60, htl⟩ := (isW_iff t).1 ht
  have Hul := Lib.hid hul
  have Htl := Lib.hid htl
  have Hu := Lib.hid hu
  have Ht := Lib.hid ht
  clear hr hu ht hul htl
  go_enter Try.func18, Try.ntmps18
  go_wp2_with fail
  refine (newWord_yes u _ Hu.out).mono ?_
  rintro e w1 ⟨rfl, hw1, hB1⟩
  go_wp2_with fail
  refine (newWord_yes t _ Ht.out).mono ?_
  rintro e w2 ⟨rfl, hw2, hB2⟩
  have hw1' := hw1.below hB2
  have htext := hw1'.text
  have hB := hB1.trans (hB2.mono hB1.size)
  clear hw1 hB1 hB2
  go_wp2_with (refine wpList_bytes rfl 9 66 5 (.tmp 35) rfl u rfl Try.underlying9 Try.underlying66 Try.underlying5 ?_; intro w3 cap hB3 hlt3 hbytes)
  have hw2' := hw2.below hB3
  have hB' := hB.trans (hB3.mono hB.size)
  clear hw2 htext hw1' hB hB3
  go_loopw [10, 11, 38] (fun vo va vk wr => ∃ (k i : Nat) (ps : List Nat), vk = .int .i64 k ∧ k ≤ u.size ∧ va = .int .i64 i ∧ i ≤ t.size ∧ ps.length = k ∧
      Aside0 (wn (bl u) (bl t) 0 = (wn ((bl u).drop k) (bl t) i).map (ps ++ ·)) ∧ Aside0 (Kd.R (Kd.int .i64) 3 wr w3.heap.size (fun _ => True) vo (zs ps)) ∧ Aside0 (Below w3.heap.size w3 wr)) (fun _ _ vk _ => u.size - (intOf vk).toNat)
  case atStart =>
    refine ⟨0, 0, [], rfl, Nat.zero_le _, rfl, Nat.zero_le _, rfl, ⟨?_⟩, ⟨Kd.R_nil _ _ _ _ _⟩, ⟨Below.refl _ _⟩⟩
    rw [List.drop_zero]; cases wn (bl u) (bl t) 0 <;> rfl
  case round =>
    obtain ⟨k, i, ps, rfl, hk, rfl, hi, hps, HW, HO, HB⟩ := hrel
    have Hps := Lib.hid hps
    clear hps
    have Hb := Lib.hid hbytes
    clear hbytes
    by_cases hlt : k < u.size
    · obtain ⟨h97, h100⟩ := Hul.out k hlt
      have hd : (bl u).drop k = u[k].toNat :: (bl u).drop (k + 1) := by
        rw [drop_at (by rw [bl_len]; exact hlt), bl_get u k hlt]
      have Hd := Lib.hid hd
      clear hd
      have hc : wr.cell? ⟨w2.heap.size, k, none⟩ = some (.int .u8 (u[k].toNat : Int)) := (HB.out.cell (p := ⟨w2.heap.size, k, none⟩) hlt3).trans (Hb.out k hlt)
      have hwr := hw2'.below HB.out
      by_cases hn : nx (bl t) (u[k].toNat - 97) i < t.size
      · go_wp2_with (first | (go_at_call 47; refine (after_any _ t _ _ i (u[k].toNat - 97) true _ hwr ht60 rfl (by omega) hi (by omega) (by simpa using hn)).mono ?_; rintro e w' ⟨rfl, nq, rfl⟩; have HO2 := Aside0.mk (Kd.R_drewN HO.out nq); have HB2 := Aside0.mk (below_drewN HB.out nq)) | ((with_reducible refine gate_builtin (b := .append) (xs := #[.tmp 53, .tmp 56]) rfl ?_); at_builtin; refine Kd.R_append (Kd.int .i64) (w0 := w3) w3.heap.size rfl (.tmp 53) (.tmp 56) 24 3 (.int .i64 0) 8 rfl Try.underlying24 info3 rfl (by decide) (by omega) u10 (zs ps) (nx (bl t) (u[k].toNat - 97) i) [.int .i64 (nx (bl t) (u[k].toNat - 97) i)] (fun _ => True) (fun _ => False) rfl rfl rfl (fun _ hk => hk.elim) (fun _ _ => trivial) HO2.out HB2.out HB2.out.size (by rw [zs_len, Hps.out]; omega) ?_; intro v4 w4 ho hb hg hat))
        go_roundw
        case rel =>
          have hlen := bl_len t
          refine ⟨k + 1, nx (bl t) (u[k].toNat - 97) i + 1, ps ++ [nx (bl t) (u[k].toNat - 97) i], by go_num, by omega, by go_num, by omega, by simp [Hps.out], ⟨?_⟩, ⟨?_⟩, ⟨hb⟩⟩
          · rw [HW.out, Hd.out, wn, if_pos (by omega)]
            cases wn (List.drop (k + 1) (bl u)) (bl t) (nx (bl t) (u[k].toNat - 97) i + 1) <;> simp
          · rw [zs_snoc]; exact ho
        case measure => simp [intOf]; omega
      · go_wp2_with (go_at_call 47; refine (after_any _ t _ _ i (u[k].toNat - 97) false _ hwr ht60 rfl (by omega) hi (by omega) (by simpa using hn)).mono ?_; rintro e w' ⟨rfl, nq, rfl⟩)
        go_ret2
        have h := Hr.out
        rw [HW.out, Hd.out, wn, if_neg (by rw [bl_len]; exact hn)] at h
        obtain ⟨rfl, rfl⟩ : ([] : List Int) = r1 ∧ (6 : Int) = r2 := by simpa using h
        exact ⟨_, rfl, Kd.R_nil _ _ _ _ _, below_drewN (hB'.trans (HB.out.mono hB'.size)) nq⟩
    · obtain rfl : k = u.size := by omega
      go_wp2
      go_ret2
      have h := Hr.out
      rw [HW.out, List.drop_eq_nil_of_le (by rw [bl_len]; omega), wn] at h
      obtain ⟨rfl, rfl⟩ : zs ps = r1 ∧ (0 : Int) = r2 := by simpa using h
      exact ⟨_, rfl, Kd.R_lower HO.out hB'.size, hB'.trans (HB.out.mono hB'.size)⟩

theorem within_no1 (u t : ByteArray) (w : World) (hu : isW u = false) : Calls Try.prog 18 #[.string u, .string t] w (WithinPost [] 2 w) := by
  have Hu := Lib.hid hu
  clear hu
  go_enter Try.func18, Try.ntmps18
  go_wp2_with fail
  refine (newWord_no u _ Hu.out).mono ?_
  rintro e w1 ⟨rfl, hB1⟩
  go_wp2_with fail
  refine (newWord_any t _).mono ?_
  rintro e w2 ⟨hB2, ⟨_, rfl, _⟩ | ⟨_, rfl⟩⟩
  · go_wp2
    go_ret2
    exact ⟨_, rfl, Kd.R_nil _ _ _ _ _, hB1.trans (hB2.mono hB1.size)⟩
  · go_wp2
    go_ret2
    exact ⟨_, rfl, Kd.R_nil _ _ _ _ _, hB1.trans (hB2.mono hB1.size)⟩

theorem within_no2 (u t : ByteArray) (w : World) (hu : isW u = true) (ht : isW t = false) : Calls Try.prog 18 #[.string u, .string t] w (WithinPost [] 2 w) := by
  have Hu := Lib.hid hu
  have Ht := Lib.hid ht
  clear hu ht
  go_enter Try.func18, Try.ntmps18
  go_wp2_with fail
  refine (newWord_yes u _ Hu.out).mono ?_
  rintro e w1 ⟨rfl, _, hB1⟩
  go_wp2_with fail
  refine (newWord_no t _ Ht.out).mono ?_
  rintro e w2 ⟨rfl, hB2⟩
  go_wp2
  go_ret2
  exact ⟨_, rfl, Kd.R_nil _ _ _ _ _, hB1.trans (hB2.mono hB1.size)⟩

theorem Given.thread_Within.calls (a0 a1 : ByteArray) (r1 : List Int) (r2 : Int) (w : World) (h : Given.thread_Within.f a0 a1 = some (r1, r2)) :
    Calls Try.prog 18 #[.string a0, .string a1] w fun e w' => ∃ v0_ : Value, e = .returned (.tuple #[v0_, .int .i64 r2]) ∧ Kd.R (Kd.int .i64) 3 w' w.heap.size (fun _ => True) v0_ r1 ∧ Below w.heap.size w w' := by
  show Calls Try.prog 18 #[.string a0, .string a1] w (WithinPost r1 r2 w)
  unfold Given.thread_Within.f at h
  cases hu : isW a0 with
  | false =>
    rw [hu] at h
    obtain ⟨rfl, rfl⟩ : ([] : List Int) = r1 ∧ (2 : Int) = r2 := by simpa using h
    exact within_no1 a0 a1 w hu
  | true =>
    cases ht : isW a1 with
    | false =>
      rw [hu, ht] at h
      obtain ⟨rfl, rfl⟩ : ([] : List Int) = r1 ∧ (2 : Int) = r2 := by simpa using h
      exact within_no2 a0 a1 w hu ht
    | true =>
      rw [hu, ht, if_pos rfl, if_pos rfl] at h
      exact within_walk a0 a1 w hu ht r1 r2 (Option.some.inj h)
end Go.Proofs.Ytfjbodaakmapdaa
