/-
  The walks of thread.Count and thread.Index.
-/
import Derived.Test.YtfjbodaakmapdaaWithin
namespace Go.Proofs.Ytfjbodaakmapdaa
open Go.RowKit Th Kit Go.Proofs.YtfjbodaakmapdaaW.PrintWords Go.Proofs.YtfjbodaakmapdaaW.PrintLast Go.Proofs.YtfjbodaakmapdaaW.PrintMore

namespace Given
def thread_Count.f (a0 : ByteArray) : Option (Int × Int) := some (if isW a0 = true then ((cn (bl a0) : Nat), 0) else (0, 2))
def thread_Index.f (w u : ByteArray) : Option (Int × Int) :=
  some (if isW w = true then (if isW u = true then (match ix (bl u) (bl w) 0 0 with | some n => ((n : Int), 0) | none => (0, 6)) else (0, 2)) else (0, 2))
end Given

theorem run_index_82 (w : World) (cs : Array Value) (i : Nat) (v : Value) (hi : i < 61) (hv : cs[i]? = some v) : (Instr.index 82 (.agg cs) (.int .i64 i)).run Try.prog w = .ok v w := by
  simp [Instr.index, run_underlying Try.underlying82, asIntOf, go_sem, hi, hv]

theorem Given.thread_Count.calls (a0 : ByteArray) (r1 : Int) (r2 : Int) (w : World) (h : Given.thread_Count.f a0 = some (r1, r2)) :
    Calls Try.prog 25 #[.string a0] w fun e w' => e = .returned (.tuple #[.int .i64 r1, .int .i64 r2]) ∧ Below w.heap.size w w' := by
  unfold Given.thread_Count.f at h
  cases hu : isW a0 with
  | false =>
    rw [hu] at h
    obtain ⟨rfl, rfl⟩ : (0 : Int) = r1 ∧ (2 : Int) = r2 := by simpa using h
    have Hu := Lib.hid hu
    clear hu h
    go_enter Try.func25, Try.ntmps25
    go_wp2_with fail
    refine (newWord_no a0 _ Hu.out).mono ?_
    rintro e w1 ⟨rfl, hB1⟩
    go_wp2
    go_ret2
    exact ⟨rfl, hB1⟩
  | true =>
    rw [hu] at h
    obtain ⟨rfl, rfl⟩ : ((cn (bl a0) : Nat) : Int) = r1 ∧ (0 : Int) = r2 := by simpa using h
    have h60 := ((isW_iff a0).1 hu).1
    have Hu := Lib.hid hu
    clear hu h
    go_enter Try.func25, Try.ntmps25
    go_wp2_with fail
    refine (newWord_yes a0 _ Hu.out).mono ?_
    rintro e w1 ⟨rfl, hw1, hB1⟩
    go_wp2_with fail
    refine (counts_any _ a0 _ hw1 h60).mono ?_
    rintro e w2 ⟨hB2, cs, hcs, rfl⟩
    have hg : (Instr.index 82 (.agg cs) (.int .i64 0)).run Try.prog w2 = .ok (.int .i64 (cn (bl a0))) w2 := run_index_82 w2 cs 0 _ (by omega) (hcs.row 0 (by omega) (by omega))
    clear hcs
    go_wp2
    go_ret2
    exact ⟨rfl, hB1.trans (hB2.mono hB1.size)⟩

theorem int_eq {a b : Int} (h : a = b) : Value.int .i64 a = .int .i64 b := by rw [h]

def IndexPost (r1 r2 : Int) (w : World) (e : Ending) (w' : World) : Prop := e = .returned (.tuple #[.int .i64 r1, .int .i64 r2]) ∧ Below w.heap.size w w'

set_option maxRecDepth 100000 in
set_option maxHeartbeats 4000000 in
theorem index_walk (t u : ByteArray) (w : World) (ht : isW t = true) (hu : isW u = true) (r1 r2 : Int)
    (hr : (match ix (bl u) (bl t) 0 0 with | some n => ((n : Int), (0 : Int)) | none => (0, 6)) = (r1, r2)) :
    Calls Try.prog 21 #[.string t, .string u] w (IndexPost r1 r2 w) := by
  have Hr := Lib.hid hr
  obtain ⟨hu60, hul⟩ := (isW_iff u).1 hu
  obtain ⟨ht60, htl⟩ := (isW_iff t).1 ht
  have Hul := Lib.hid hul
  have Hu := Lib.hid hu
  have Ht := Lib.hid ht
  clear hr hu ht hul htl
  go_enter Try.func21, Try.ntmps21
  go_wp2_with fail
  refine (newWord_yes t _ Ht.out).mono ?_
  rintro e w1 ⟨rfl, hw1, hB1⟩
  go_wp2_with fail
  refine (newWord_yes u _ Hu.out).mono ?_
  rintro e w2 ⟨rfl, hw2, hB2⟩
  have hw1' := hw1.below hB2
  have hB := hB1.trans (hB2.mono hB1.size)
  clear hw1 hB1 hB2
  go_wp2_with fail
  refine (counts_any _ t _ hw1' ht60).mono ?_
  rintro e w3 ⟨hB3, cs, hcs, rfl⟩
  have hw1 := hw1'.below hB3
  have hw2' := hw2.below hB3
  have hB4 := hB.trans (hB3.mono hB.size)
  clear hw1' hw2 hB hB3
  go_wp2_with (first | (refine wpList_store_new rfl 82 (.tmp 10) (.tmp 38) rfl w3 _ 82 cs rfl rfl rfl (by rw [hcs.size]; rfl) (by rw [hcs.size]; kernel_rfl) hcs.one ?_; intro w4 hB5 hlt4 hblk; have htext := (hw2'.below hB5).text) | (refine wpList_bytes rfl 9 66 5 (.tmp 42) rfl u rfl Try.underlying9 Try.underlying66 Try.underlying5 ?_; intro w5 cap hB6 hlt5 hbytes))
  have hw := (hw1.below hB5).below hB6
  have hn := hblk.below' hB6
  have hB := hB4.trans ((hB5.mono hB4.size).trans (hB6.mono (Nat.le_trans hB4.size hB5.size)))
  have Hb := Lib.hid hbytes
  clear hw1 hw2' hB4 hB5 hB6 htext hbytes hlt4 hblk
  go_loopw [11, 12, 45] (fun vo vi vk wr => ∃ (k i acc : Nat), vk = .int .i64 k ∧ k ≤ u.size ∧ vi = .int .i64 i ∧ i ≤ t.size ∧ vo = .int .i64 acc ∧ Aside0 (acc + cn ((bl t).drop i) ≤ cn (bl t)) ∧
      Aside0 (ix (bl u) (bl t) 0 0 = ix ((bl u).drop k) (bl t) i acc) ∧ Aside0 (Below w5.heap.size w5 wr)) (fun _ _ vk _ => u.size - (intOf vk).toNat)
  case atStart =>
    exact ⟨0, 0, 0, rfl, Nat.zero_le _, rfl, Nat.zero_le _, rfl, ⟨by simp⟩, ⟨rfl⟩, ⟨Below.refl _ _⟩⟩
  case round =>
    obtain ⟨k, i, acc, rfl, hk, rfl, hi, rfl, HA, HX, HB⟩ := hrel
    have hcn := cn_60 (bl t) (by rw [bl_len]; exact ht60)
    have hacc : acc ≤ 1152921504606846976 := by have := HA.out; omega
    by_cases hlt : k < u.size
    · obtain ⟨h97, h100⟩ := Hul.out k hlt
      have hd : (bl u).drop k = u[k].toNat :: (bl u).drop (k + 1) := by
        rw [drop_at (by rw [bl_len]; exact hlt), bl_get u k hlt]
      have Hd := Lib.hid hd
      clear hd
      have hc : wr.cell? ⟨w4.heap.size, k, none⟩ = some (.int .u8 (u[k].toNat : Int)) := (HB.out.cell (p := ⟨w4.heap.size, k, none⟩) hlt5).trans (Hb.out k hlt)
      go_wp2
      go_loopw [11, 55] (fun vo vl wr => ∃ (l : Nat), vl = .int .i64 l ∧ l ≤ u[k].toNat - 97 ∧ vo = .int .i64 ((acc + pc ((bl t).drop i) l : Nat)) ∧ Aside0 (Below w5.heap.size w5 wr)) (fun _ vl _ => 4 - (intOf vl).toNat)
      case atStart =>
        exact ⟨0, rfl, Nat.zero_le _, by simp [pc], HB⟩
      case round =>
        clear hc HB
        obtain ⟨l, rfl, hl, rfl, HB⟩ := hrel
        have hwr := hw.below HB.out
        have hpl : acc + pc ((bl t).drop i) (l + 1) ≤ 1152921504606846976 := by
          have := pc_le ((bl t).drop i) (l + 1) (by omega)
          have := HA.out
          omega
        have hpl0 : acc + pc ((bl t).drop i) l ≤ 1152921504606846976 := by
          have := pc_mono ((bl t).drop i) l
          omega
        by_cases hlc : l < u[k].toNat - 97
        · by_cases hx : nx (bl t) l i < t.size
          · have hst := pc_step (bl t) l i (by rw [bl_len]; exact hx)
            have hcell : wr.cell? ⟨w3.heap.size, nx (bl t) l i + 1, none⟩ = some (.int .i64 (cn ((bl t).drop (nx (bl t) l i + 1)))) := by
              rw [(hn.below' HB.out).cell]; exact hcs.row _ (by omega) (by omega)
            generalize hq : cn ((bl t).drop (nx (bl t) l i + 1)) = q at hst hcell
            have Hst := Lib.hid hst
            have hlim : acc + pc ((bl t).drop i) l + q ≤ 1152921504606846976 := by omega
            clear hst hq
            go_wp2_with (go_at_call 47; refine (after_any _ t _ _ i l true _ hwr ht60 rfl rfl hi (by omega) (by simpa using hx)).mono ?_; rintro e w' ⟨rfl, nq, rfl⟩; have hcell2 : (wr.drewN nq).cell? ⟨w3.heap.size, nx (bl t) l i + 1, none⟩ = some (.int .i64 q) := hcell)
            go_roundw
            case rel =>
              exact ⟨l + 1, by go_num, by omega, int_eq (by have := Hst.out; omega), ⟨below_drewN HB.out nq⟩⟩
            case measure => simp [intOf]; omega
          · have hst := pc_stay (bl t) l i (by rw [bl_len]; exact hx)
            have Hst := Lib.hid hst
            clear hst
            go_wp2_with (go_at_call 47; refine (after_any _ t _ _ i l false _ hwr ht60 rfl rfl hi (by omega) (by simpa using hx)).mono ?_; rintro e w' ⟨rfl, nq, rfl⟩)
            go_roundw
            case rel =>
              exact ⟨l + 1, by go_num, by omega, int_eq (by have := Hst.out; omega), ⟨below_drewN HB.out nq⟩⟩
            case measure => simp [intOf]; omega
        · have hlq : l = u[k].toNat - 97 := by omega
          by_cases hx : nx (bl t) (u[k].toNat - 97) i < t.size
          · go_wp2_with (go_at_call 47; refine (after_any _ t _ _ i (u[k].toNat - 97) true _ hwr ht60 rfl (by omega) hi (by omega) (by simpa using hx)).mono ?_; rintro e w' ⟨rfl, nq, rfl⟩)
            go_roundw
            case rel =>
              have hl := bl_len t
              have hst := pc_step (bl t) (u[k].toNat - 97) i (by omega)
              have hple := pc_le ((bl t).drop i) (u[k].toNat - 97 + 1) (by omega)
              have := HA.out
              refine ⟨k + 1, nx (bl t) (u[k].toNat - 97) i + 1, acc + pc ((bl t).drop i) (u[k].toNat - 97), by go_num, by omega, by go_num, by omega, int_eq (by omega), ⟨by omega⟩, ⟨?_⟩, ⟨below_drewN HB.out nq⟩⟩
              rw [HX.out, Hd.out, ix, if_pos (by omega)]
            case measure => simp [intOf]; omega
          · go_wp2_with (go_at_call 47; refine (after_any _ t _ _ i (u[k].toNat - 97) false _ hwr ht60 rfl (by omega) hi (by omega) (by simpa using hx)).mono ?_; rintro e w' ⟨rfl, nq, rfl⟩)
            go_ret2
            have h := Hr.out
            rw [HX.out, Hd.out, ix, if_neg (by rw [bl_len]; exact hx)] at h
            obtain ⟨rfl, rfl⟩ : (0 : Int) = r1 ∧ (6 : Int) = r2 := by simpa using h
            exact ⟨rfl, below_drewN (hB.trans (HB.out.mono hB.size)) nq⟩
    · obtain rfl : k = u.size := by omega
      go_wp2
      go_ret2
      have h := Hr.out
      rw [HX.out, List.drop_eq_nil_of_le (by rw [bl_len]; omega), ix] at h
      obtain ⟨rfl, rfl⟩ : (acc : Int) = r1 ∧ (0 : Int) = r2 := by simpa using h
      exact ⟨rfl, hB.trans (HB.out.mono hB.size)⟩

theorem index_no1 (u t : ByteArray) (w : World) (hu : isW u = false) : Calls Try.prog 21 #[.string u, .string t] w (IndexPost 0 2 w) := by
  have Hu := Lib.hid hu
  clear hu
  go_enter Try.func21, Try.ntmps21
  go_wp2_with fail
  refine (newWord_no u _ Hu.out).mono ?_
  rintro e w1 ⟨rfl, hB1⟩
  go_wp2_with fail
  refine (newWord_any t _).mono ?_
  rintro e w2 ⟨hB2, ⟨_, rfl, _⟩ | ⟨_, rfl⟩⟩
  · go_wp2
    go_ret2
    exact ⟨rfl, hB1.trans (hB2.mono hB1.size)⟩
  · go_wp2
    go_ret2
    exact ⟨rfl, hB1.trans (hB2.mono hB1.size)⟩

theorem index_no2 (u t : ByteArray) (w : World) (hu : isW u = true) (ht : isW t = false) : Calls Try.prog 21 #[.string u, .string t] w (IndexPost 0 2 w) := by
  have Hu := Lib.hid hu
  have Ht := Lib.hid ht
  clear hu ht
  go_enter Try.func21, Try.ntmps21
  go_wp2_with fail
  refine (newWord_yes u _ Hu.out).mono ?_
  rintro e w1 ⟨rfl, _, hB1⟩
  go_wp2_with fail
  refine (newWord_no t _ Ht.out).mono ?_
  rintro e w2 ⟨rfl, hB2⟩
  go_wp2
  go_ret2
  exact ⟨rfl, hB1.trans (hB2.mono hB1.size)⟩

theorem Given.thread_Index.calls (a0 a1 : ByteArray) (r1 r2 : Int) (w : World) (h : Given.thread_Index.f a0 a1 = some (r1, r2)) :
    Calls Try.prog 21 #[.string a0, .string a1] w fun e w' => e = .returned (.tuple #[.int .i64 r1, .int .i64 r2]) ∧ Below w.heap.size w w' := by
  show Calls Try.prog 21 #[.string a0, .string a1] w (IndexPost r1 r2 w)
  unfold Given.thread_Index.f at h
  cases hu : isW a0 with
  | false =>
    rw [hu] at h
    obtain ⟨rfl, rfl⟩ : (0 : Int) = r1 ∧ (2 : Int) = r2 := by simpa using h
    exact index_no1 a0 a1 w hu
  | true =>
    cases ht : isW a1 with
    | false =>
      rw [hu, ht] at h
      obtain ⟨rfl, rfl⟩ : (0 : Int) = r1 ∧ (2 : Int) = r2 := by simpa using h
      exact index_no2 a0 a1 w hu ht
    | true =>
      rw [hu, ht, if_pos rfl, if_pos rfl] at h
      exact index_walk a0 a1 w hu ht r1 r2 (Option.some.inj h)
end Go.Proofs.Ytfjbodaakmapdaa
