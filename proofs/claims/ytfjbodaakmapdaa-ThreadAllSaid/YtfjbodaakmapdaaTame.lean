/-
  The contract of the statements' own helper tame.
-/
import Derived.Test.YtfjbodaakmapdaaWithin
import Derived.Test.YtfjbodaakmapdaaAlpha
namespace Go.Proofs.Ytfjbodaakmapdaa
open Go.RowKit Th Kit Go.Proofs.YtfjbodaakmapdaaW.PrintWords Go.Proofs.YtfjbodaakmapdaaW.PrintLast Go.Proofs.YtfjbodaakmapdaaW.PrintMore

/-- A string's first bytes as letters. -/
def tml (s : ByteArray) (most k : Nat) : List Nat := ((bl s).take most).map fun x => 97 + x % k
theorem tml_len (s : ByteArray) (most k : Nat) : (tml s most k).length = min most s.size := by
  unfold tml; rw [List.length_map, List.length_take, bl_len]

def Given.tickinglaw03_tame.f (s : ByteArray) (most k : Int) : Option ByteArray :=
  if 0 ≤ most ∧ most ≤ 1000 ∧ 1 ≤ k ∧ k ≤ 4 then some (str (tml s most.toNat k.toNat)) else none

theorem info5 : (Try.prog.info? 5).map (fun i => (i.zero, i.size, i.bytes)) = some (some (.int .u8 0), 1, 1) := by kernel_rfl
theorem strOf_zs (l : List Nat) : strOfNums (zs l) = str l := by
  unfold strOfNums str zs
  rw [List.map_map]; rfl
theorem tml_snoc (s : ByteArray) (j k : Nat) (h : j < s.size) : tml s (j + 1) k = tml s j k ++ [97 + s[j].toNat % k] := by
  unfold tml
  rw [List.take_succ_eq_append_getElem (by rw [bl_len]; exact h), List.map_append, bl_get s j h]; rfl
theorem tml_all (s : ByteArray) (j k : Nat) (h : s.size ≤ j) : tml s j k = tml s s.size k := by
  unfold tml
  rw [List.take_of_length_le (by rw [bl_len]; exact h), List.take_of_length_le (by rw [bl_len]; exact Nat.le_refl _)]

set_option maxRecDepth 100000 in
set_option maxHeartbeats 4000000 in
theorem Given.tickinglaw03_tame.calls (a0 : ByteArray) (a1 a2 : Int) (r1 : ByteArray) (w : World) (h : Given.tickinglaw03_tame.f a0 a1 a2 = some r1) :
    Calls Try.prog 15 #[.string a0, .int .i64 a1, .int .i64 a2] w fun e w' => e = .returned (.string r1) ∧ Below w.heap.size w w' := by
  unfold Given.tickinglaw03_tame.f at h
  split at h
  · rename_i hb
    obtain ⟨h1, h2, h3, h4⟩ := hb
    obtain ⟨most, rfl⟩ : ∃ n : Nat, a1 = n := ⟨a1.toNat, by omega⟩
    obtain ⟨k, rfl⟩ : ∃ n : Nat, a2 = n := ⟨a2.toNat, by omega⟩
    rw [Int.toNat_natCast, Int.toNat_natCast] at h
    have Hr := Lib.hid (Option.some.inj h)
    clear h
    have hk0 : ((k : Int) == 0) = false := by simp; omega
    have hk1 : ((k : Int) != 0) = true := by simp; omega
    go_enter Try.func15, Try.ntmps15
    go_wp2
    go_loopw [7, 8] (fun v7 v8 wr => ∃ (j : Nat), v8 = .int .i64 j ∧ j ≤ a0.size ∧ j ≤ most ∧ Aside0 (Kd.R (Kd.int .u8) 5 wr w.heap.size (fun _ => True) v7 (zs (tml a0 j k))) ∧ Aside0 (Below w.heap.size w wr)) (fun _ v8 _ => a0.size - (intOf v8).toNat)
    case atStart => exact ⟨0, rfl, Nat.zero_le _, Nat.zero_le _, ⟨Kd.R_nil _ _ _ _ _⟩, ⟨Below.refl _ _⟩⟩
    case round =>
      obtain ⟨j, rfl, hj, hjm, HO, HB⟩ := hrel
      by_cases hlt : j < a0.size
      · by_cases hlm : j < most
        · have hsn := tml_snoc a0 j k hlt
          have Hsn := Lib.hid hsn
          clear hsn
          have hmod : a0[j].toNat % k < 4 := by have := Nat.mod_lt a0[j].toNat (show k > 0 by omega); omega
          have hX : (97 + (wrap64 (a0[j].toNat : Int)).tmod (k : Int)) % 256 = ((97 + a0[j].toNat % k : Nat) : Int) := by
            have h0 := a0[j].toNat_lt
            have e : wrap64 (a0[j].toNat : Int) = ((a0[j].toNat : Nat) : Int) := by unfold wrap64; omega
            rw [e, ← Int.ofNat_tmod]
            omega
          have HX := Lib.hid hX
          clear hX
          go_wp2_with ((with_reducible refine gate_builtin (b := .append) (xs := #[.tmp 20, .tmp 29]) rfl ?_); at_builtin; refine Kd.R_append (Kd.int .u8) (w0 := w) w.heap.size rfl (.tmp 20) (.tmp 29) 66 5 (.int .u8 0) 1 rfl Try.underlying66 info5 rfl (by decide) (by omega) u7 (zs (tml a0 j k)) ((97 + (wrap64 (a0[j].toNat : Int)).tmod (k : Int)) % 256) [.int .u8 ((97 + (wrap64 (a0[j].toNat : Int)).tmod (k : Int)) % 256)] (fun _ => True) (fun _ => False) rfl rfl rfl (fun _ hk => hk.elim) (fun _ _ => trivial) HO.out HB.out HB.out.size (by rw [zs_len, tml_len]; omega) ?_; intro v4 w4 ho hb hg hat)
          go_roundw
          case rel =>
            refine ⟨j + 1, by go_num, by omega, by omega, ⟨?_⟩, ⟨hb⟩⟩
            rw [Hsn.out, zs_snoc, ← HX.out]; exact ho
          case measure => simp [intOf]; omega
        · have hcv := own_string (P := Try.prog) Try.underlying66 Try.underlying5 Try.underlying9 (Kd.own_of_R HO.out)
          go_wp2
          go_ret
          obtain rfl : j = most := by omega
          rw [strOf_zs, Hr.out]
          exact ⟨rfl, HB.out⟩
      · have hcv := own_string (P := Try.prog) Try.underlying66 Try.underlying5 Try.underlying9 (Kd.own_of_R HO.out)
        go_wp2
        go_ret
        obtain rfl : j = a0.size := by omega
        rw [strOf_zs, ← tml_all a0 most k (by omega), Hr.out]
        exact ⟨rfl, HB.out⟩
  · cases h
end Go.Proofs.Ytfjbodaakmapdaa
