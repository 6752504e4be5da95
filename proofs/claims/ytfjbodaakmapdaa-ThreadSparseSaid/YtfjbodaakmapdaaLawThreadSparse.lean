/-
  ThreadSparse holds of every input: the words without any word of a family are those without any of its minimal words, and their numbers grow at most as the letters allow.
-/
import Derived.Test.YtfjbodaakmapdaaRows
import Derived.Test.YtfjbodaakmapdaaPThreadSparsex2
import Derived.Test.YtfjbodaakmapdaaPureThreadSparse
import Derived.WalkKit
import Derived.ProofKit
import Derived.OpenShut
import Derived.ShutString
import Derived.ChangeOld
import Derived.Below
import Derived.SliceStrings
import Derived.WideKeyPair
import Derived.SizedLaws
namespace Go.Proofs.Ytfjbodaakmapdaa.threadSparse
open Go.ChangeShapes Go.WideShapes Go.ChangeAt Go.RowKit
open Go.ChangeMaps (open_string shut_string)
open Go.Proofs.YtfjbodaakmapdaaW.PrintWords (Kd)
set_option linter.unusedVariables false
theorem own : ownKnob Try.prog.godebug = none := by kernel_rfl
theorem laidOut : laidOutB Try.prog = true := by kernel_rfl
theorem arr54 : Go.WideMaps.ArrKey Try.prog 54 3 2 := ⟨Try.underlying54, by kernel_rfl, by kernel_rfl, by kernel_rfl⟩
theorem cells9 : Try.prog.cellsOf 9 = 1 := by kernel_rfl
/-- A row of strings as the contracts read it. -/
theorem row_of (W : World) (a : Addr) (l : List ByteArray) (hm : l.length ≤ 9223372036854775807) (h : ∀ i, i < l.length → W.cell? (a.add i) = some (.string (l.getD i ByteArray.empty))) : Kd.C Kd.string W (some a) l.length l := by
  refine ⟨rfl, hm, fun _ => ⟨a, rfl, fun j p hj => ⟨[.string p], rfl, rfl, fun i u hu => ?_⟩⟩⟩
  have hlt := (List.getElem?_eq_some_iff.1 hj).1
  have hc := h j hlt
  have e : l.getD j ByteArray.empty = p := by rw [List.getD, hj]; rfl
  rw [e] at hc
  match i, hu with
  | 0, hu =>
    cases hu
    show W.cell? (a.add (j * 1 + 0)) = _
    rw [Nat.mul_one, Nat.add_zero]
    exact hc

set_option maxRecDepth 100000 in
theorem lifted (os : Os) (started : os.Started) (H : Type) (enc : TypeId × Value → H) :
    ReturnsInHanded {} Try.checked os 12 .any (Rows.threadSparseSpec.pre6 enc Try.prog Try.f12 Rows.threadSparseRow.domain false) (Rows.threadSparseSpec.post enc Try.prog Try.f12 false true false false) := by
  refine returnsInHanded_of_change_sized (C := Try.checked) own started (by kernel_rfl) Try.func12
    (ChangeSpec.witness6 (enc := enc) (C := Try.checked) false ⟨#[], #[.slice none 0 0, .agg #[.int .i64 0, .int .i64 0]], []⟩ 8 (by kernel_rfl) (by kernel_rfl) (by kernel_rfl) (by kernel_rfl)) ?_
  intro W base args ds gs before hval0 hW hcnd hsz0 _
  have hval : ∀ (j : Nat) t v, Try.f12.params[j]? = some t → args[j]? = some v → Value.okWide Try.prog W .any base t v := hval0
  have hW' := hW
  obtain ⟨p, q, hA0, hV, rfl, hfz, hnd⟩ := hW
  have hA : DataW.TrodAll enc Try.prog W 0 (fun _ => true) true Try.f12.params.toList args.toList ds p := hA0
  rw [Try.params12] at hA hval
  obtain ⟨v0, vs0, d0, ds0, p0, q0, hargs, rfl, rfl, h0, r0⟩ := trodAll_cons hA
  obtain ⟨v1, vs1, d1, ds1, p1, q1, rfl, rfl, rfl, h1, r1⟩ := trodAll_cons r0
  obtain ⟨rfl, rfl, rfl⟩ := trodAll_nil r1
  obtain rfl : args = #[v0, v1] := by cases args; simp_all
  obtain ⟨rfl, rfl⟩ := trodVars_none hV
  obtain ⟨a0, len, cap, rfl⟩ := okWide_slice Try.underlying41 (hval 0 41 v0 rfl rfl)
  obtain ⟨x, y, rfl, rfl, rfl, wx, wy⟩ := Go.WideMaps.open_pair arr54 Try.underlying3 (hval 1 54 v1 rfl rfl) h1
  have h0k := h0
  obtain ⟨fuel, hf⟩ := h0
  clear hA0 hval0 hsz0
  simp only [List.append_nil] at hW'
  have hlt : ∀ x ∈ p0, x.block < W.heap.size := fun x hx => by simpa using hW'.lt x hx
  have hrest : ∀ (W' : World), Below W.heap.size W W' → DataW.Trod enc Try.prog W' 0 (fun b => decide (b < W.heap.size)) true 41 (.slice a0 len cap) d0 p0 :=
    fun W' hn => Below.trod laidOut (by kernel_rfl) (of_decide_eq_true (by kernel_rfl)) h0k hn hlt
  have main : ∃ ls : List ByteArray, ls.length = len ∧ len ≤ cap ∧ Kd.C Kd.string W a0 ls.length ls := by
    rcases open_strings Try.underlying41 Try.underlying9 cells9 hf with ⟨hcs, hx⟩ | ⟨a, len', cap', ss, hcs, _, hl, hm, hz, hx, hcell, hwz⟩
    · simp [Value.cells] at hcs
      obtain ⟨rfl, rfl, rfl⟩ := hcs
      exact ⟨[], rfl, Nat.le_refl _, rfl, by decide, fun h => absurd h (Nat.lt_irrefl _)⟩
    · simp [Value.cells] at hcs
      obtain ⟨rfl, rfl, rfl⟩ := hcs
      simp only [if_true] at hz
      have hlen : (ss.take len).length = len := by simp; omega
      refine ⟨ss.take len, hlen, hl, row_of W a _ ?_ (fun i hi => ?_)⟩
      · unfold maxLen at hm; omega
      · rw [hcell i (by omega)]
        simp [List.getD, show i < len by omega]
  obtain ⟨ls, hlen, hcap, hrow⟩ := main
  obtain ⟨k, hk⟩ := Pure.sparse_pure ls x y
  have hcall := PThreadSparse.tickinglaw03_ThreadSparse.calls k a0 cap ls x y true W hrow (by omega) hk
  rw [hlen] at hcall
  refine hcall.mono fun e W' ⟨he, bel⟩ => ?_
  subst he
  exact ⟨_, rfl, _, _, _, [], _, [], hW', trodAll_mk1 (shut_bool Try.underlying4 _), (trodAll_cons_mk (hrest _ bel) (trodAll_mk1 (Go.WideMaps.shut_pair arr54 Try.underlying3 wx wy))), rfl, bel.frame _, fun h => by cases h⟩
theorem over : Rows.threadSparseRow.holds Try.pinned (OpenSpec.ofChange Rows.threadSparseSpec) :=
  OpenClaim.holds_of_wide 12 Try.f12 rfl rfl rfl rfl rfl rfl rfl ⟨rfl, rfl, rfl, rfl, rfl⟩ rfl rfl rfl rfl rfl (by kernel_rfl) Try.func12 (by kernel_rfl)
    (of_decide_eq_true (by kernel_rfl)) (by unfold Func.isWrapper; first | (rw [if_pos (by decide +kernel)]; kernel_rfl) | (rw [if_neg (by decide +kernel)]; exact ⟨rfl, rfl⟩))
    (fun os started H enc _ => lifted os started H enc)
theorem proved : Rows.ThreadSparseSaid := over
#print axioms proved
end Go.Proofs.Ytfjbodaakmapdaa.threadSparse
namespace Go.Proofs.Ytfjbodaakmapdaa
/-- The row, under a short name, for the claim. -/
theorem threadSparse_holds : Rows.ThreadSparseSaid := threadSparse.proved
end Go.Proofs.Ytfjbodaakmapdaa
