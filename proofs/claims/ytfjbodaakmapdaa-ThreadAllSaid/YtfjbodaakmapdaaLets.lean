/-
  Plain laws: strings of letters, and what tame returns.
-/
import Derived.Test.YtfjbodaakmapdaaSub
import Derived.Test.YtfjbodaakmapdaaTame
namespace Go.Proofs.Ytfjbodaakmapdaa
open Go.RowKit Th

theorem bl_strL {k : Nat} {l : List Nat} (h : Lt k l) (hk : k ≤ 4) : bl (str l) = l := bl_str l fun x hx => by have := h x hx; omega
theorem isW_str {l : List Nat} (h : Lt 4 l) (hl : l.length ≤ 60) : isW (str l) = true := by
  unfold isW
  rw [str_size, bl_strL h (Nat.le_refl _), decide_eq_true hl, Bool.true_and, List.all_eq_true]
  intro x hx
  have := h x hx
  exact decide_eq_true (by omega)
theorem lt_of_isW {s : ByteArray} (h : isW s = true) : Lt 4 (bl s) := by
  unfold isW at h
  rw [Bool.and_eq_true, List.all_eq_true] at h
  intro x hx
  have := of_decide_eq_true (h.2 x hx)
  omega
theorem tml_lt (s : ByteArray) (m k : Nat) (hk : 1 ≤ k) : Lt k (tml s m k) := by
  intro x hx
  unfold tml at hx
  obtain ⟨y, _, rfl⟩ := List.mem_map.1 hx
  have := Nat.mod_lt y (show k > 0 by omega)
  omega
theorem tame_f (s : ByteArray) (m k : Nat) (hm : m ≤ 1000) (hk : 1 ≤ k ∧ k ≤ 4) : Given.tickinglaw03_tame.f s m k = some (str (tml s m k)) := by
  unfold Given.tickinglaw03_tame.f
  rw [if_pos (by omega), Int.toNat_natCast, Int.toNat_natCast]
theorem bl_tml (s : ByteArray) (m k : Nat) (hk : 1 ≤ k ∧ k ≤ 4) : bl (str (tml s m k)) = tml s m k := bl_strL (tml_lt s m k hk.1) hk.2
theorem isW_tml (s : ByteArray) (m k : Nat) (hk : 1 ≤ k ∧ k ≤ 4) (hm : m ≤ 60) : isW (str (tml s m k)) = true :=
  isW_str ((tml_lt s m k hk.1).mono hk.2) (by rw [tml_len]; omega)
end Go.Proofs.Ytfjbodaakmapdaa
