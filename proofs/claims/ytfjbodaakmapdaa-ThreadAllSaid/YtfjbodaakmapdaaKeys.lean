/-
  The keys of the program's maps: pairs and marks, by plain data.
-/
import Derived.Test.YtfjbodaakmapdaaMap
import Derived.Test.YtfjbodaakmapdaaAbs
namespace Go.Proofs.Ytfjbodaakmapdaa
open Go.RowKit Go.Shelf Th Kit
theorem types_102 : decide (102 < Try.prog.types.size) = true := by kernel_rfl
theorem keyed102 : Go.Maps.Keyed Try.prog 102 := Go.Maps.Keyed.of_law (deep_law_laid (by kernel_rfl) (m := 5) (by omega) (of_decide_eq_true types_102) (by kernel_rfl) (by kernel_rfl))
theorem types_92 : decide (92 < Try.prog.types.size) = true := by kernel_rfl
theorem keyed92 : Go.Maps.Keyed Try.prog 92 := Go.Maps.Keyed.of_law (deep_law_laid (by kernel_rfl) (m := 5) (by omega) (of_decide_eq_true types_92) (by kernel_rfl) (by kernel_rfl))
theorem kt102 : Try.prog.keyType 102 = true := by kernel_rfl
theorem kt92 : Try.prog.keyType 92 = true := by kernel_rfl
theorem types_sz : Try.prog.types.size = (Try.prog.types.size - 2) + 2 := by kernel_rfl
theorem cellsOf102 : Try.prog.cellsOf 102 = 2 := by kernel_rfl
theorem cellsOf92 : Try.prog.cellsOf 92 = 4 := by kernel_rfl
theorem cellsOf3 : Try.prog.cellsOf 3 = 1 := by kernel_rfl
theorem keyLits3 (d : Nat) (i : Int) (h : (Lit.int .i64 i).wf = true) : Try.prog.keyLits (d + 1) 3 [.int .i64 i] = some [.int .i64 i] := by
  simp [Program.keyLits, Try.underlying3, h]
theorem wf_small (i : Nat) (h : i < 100) : (Lit.int .i64 (i : Int)).wf = true := by
  exact WalkArith.wf_i64 (by omega)
theorem types_sz1 : ∃ m, Try.prog.types.size = m + 1 := ⟨Try.prog.types.size - 1, by kernel_rfl⟩
theorem key102 (i j : Nat) (hi : i < 100) (hj : j < 100) : ∃ l, keyOf Try.prog 102 (.agg #[.int .i64 i, .int .i64 j]) = some l := by
  obtain ⟨m, hm⟩ := types_sz1
  have h1 : Value.formed Try.prog 102 (.agg #[.int .i64 i, .int .i64 j]) = true := by
    simp [Value.formed, Try.underlying102, cellsOf102]
  unfold keyOf
  simp only [Try.underlying102]
  rw [if_pos (by rw [kt102, h1]; rfl), hm]
  unfold Program.keyLits
  simp only [Try.underlying102, Value.cells]
  rw [if_pos ⟨by rw [cellsOf102]; rfl, by kernel_rfl⟩]
  simp only [List.mapM_cons, List.mapM_nil, cellsOf3, List.drop_zero, List.drop_succ_cons, List.take_succ_cons, List.take_zero, keyLits3 m _ (wf_small i hi), keyLits3 m _ (wf_small j hj)]
  exact ⟨_, rfl⟩
theorem key92 (a b c d : Nat) (ha : a < 100) (hb : b < 100) (hc : c < 100) (hd : d < 100) : ∃ l, keyOf Try.prog 92 (.agg #[.int .i64 a, .int .i64 b, .int .i64 c, .int .i64 d]) = some l := by
  obtain ⟨m, hm⟩ := types_sz1
  have h1 : Value.formed Try.prog 92 (.agg #[.int .i64 a, .int .i64 b, .int .i64 c, .int .i64 d]) = true := by
    simp [Value.formed, Try.underlying92, cellsOf92]
  unfold keyOf
  simp only [Try.underlying92]
  rw [if_pos (by rw [kt92, h1]; rfl), hm]
  unfold Program.keyLits
  simp only [Try.underlying92, Value.cells]
  rw [if_pos (by rw [cellsOf92]; rfl), show List.range 4 = [0, 1, 2, 3] from rfl]
  simp only [List.mapM_cons, List.mapM_nil, cellsOf3, Nat.reduceMul, List.drop_zero, List.drop_succ_cons, List.take_succ_cons, List.take_zero, keyLits3 m _ (wf_small a ha), keyLits3 m _ (wf_small b hb), keyLits3 m _ (wf_small c hc), keyLits3 m _ (wf_small d hd)]
  exact ⟨_, rfl⟩

abbrev Pr := Nat × Nat
def pairV (p : Pr) : Value := .agg #[.int .i64 p.1, .int .i64 p.2]
def okP (p : Pr) : Prop := p.1 < 100 ∧ p.2 < 100
theorem kfPair : KF Try.prog 102 pairV okP where
  law := keyed102
  key p h := key102 p.1 p.2 h.1 h.2
  inj p q h := by
    obtain ⟨a, b⟩ := p
    obtain ⟨c, d⟩ := q
    simp only [pairV, Value.agg.injEq, Array.mk.injEq, List.cons.injEq, Value.int.injEq, true_and, and_true] at h
    exact Prod.ext (by simp only; omega) (by simp only; omega)

structure Mk where
  a : Nat
  b : Nat
  c : Nat
  d : Nat
deriving DecidableEq
def markV (m : Mk) : Value := .agg #[.int .i64 m.a, .int .i64 m.b, .int .i64 m.c, .int .i64 m.d]
def okM (m : Mk) : Prop := m.a < 100 ∧ m.b < 100 ∧ m.c < 100 ∧ m.d < 100
theorem kfMark : KF Try.prog 92 markV okM where
  law := keyed92
  key m h := key92 m.a m.b m.c m.d h.1 h.2.1 h.2.2.1 h.2.2.2
  inj p q h := by
    obtain ⟨a, b, c, d⟩ := p
    obtain ⟨a', b', c', d'⟩ := q
    simp only [markV, Value.agg.injEq, Array.mk.injEq, List.cons.injEq, Value.int.injEq, true_and, and_true] at h
    obtain ⟨h1, h2, h3, h4⟩ := h
    simp only [Mk.mk.injEq]
    omega
end Go.Proofs.Ytfjbodaakmapdaa
