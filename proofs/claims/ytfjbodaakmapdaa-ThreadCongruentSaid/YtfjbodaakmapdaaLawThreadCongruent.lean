/-
  ThreadCongruent holds of every input: words with the same short subsequences have them with any words before and after them, and the word that distinguishes two words is a shortest one.
-/
import Derived.Test.YtfjbodaakmapdaaRows
import Derived.Test.YtfjbodaakmapdaaCong
import Derived.WalkKit
import Derived.ProofKit
import Derived.OpenShut
import Derived.ShutString
import Derived.ChangeOld
import Derived.Below
import Derived.SizedLaws
namespace Go.Proofs.Ytfjbodaakmapdaa.threadCongruent
open Go.ChangeShapes Go.WideShapes Go.ChangeAt Go.RowKit
open Go.ChangeMaps (open_string shut_string)
set_option linter.unusedVariables false
theorem own : ownKnob Try.prog.godebug = none := by kernel_rfl

section
variable {H : Type} {enc : TypeId × Value → H} {P : Program} {k e : TypeId} {W : World} {base : Nat} {sp : Nat → Bool} {held : Bool}
theorem open_four (hu : P.underlying k = some (.array 4 e)) (hk : P.cellsOf k = 4) (h1 : P.cellsOf e = 1) (he : P.underlying e = some .string) {r : Reach} {b0 : Nat} {v : Value} {d : DataW H} {ps : List MemPlace} (hval : Value.okWide P W r b0 k v) (hd : DataW.Trod enc P W base sp held k v d ps) :
    ∃ a b c f : ByteArray, v = .agg #[.string a, .string b, .string c, .string f] ∧ d = .agg [.lit (.string a.data.toList), .lit (.string b.data.toList), .lit (.string c.data.toList), .lit (.string f.data.toList)] ∧ ps = [] ∧ a.size ≤ maxLen ∧ b.size ≤ maxLen ∧ c.size ≤ maxLen ∧ f.size ≤ maxLen := by
  have hv : ∃ c0 c1 c2 c3, v = .agg #[c0, c1, c2, c3] := by
    simp only [Value.okWide, hu] at hval
    obtain ⟨cs, h1, h2, _⟩ := hval
    rw [hk] at h2
    obtain ⟨l⟩ := cs
    match l, h2 with
    | [c0, c1, c2, c3], _ => exact ⟨c0, c1, c2, c3, h1⟩
  obtain ⟨c0, c1, c2, c3, rfl⟩ := hv
  obtain ⟨fuel, hf⟩ := hd
  cases fuel with
  | zero => simp [DataW.trod] at hf
  | succ n =>
    rw [DataW.trod_step] at hf
    unfold DataW.trodStep at hf
    simp only [hu, Value.cells] at hf
    rw [if_pos (by rw [hk]; rfl)] at hf
    simp only [Option.map_eq_some_iff] at hf
    obtain ⟨xs, hx, e1⟩ := hf
    rw [show List.range 4 = [0, 1, 2, 3] from rfl, List.mapM_cons, List.mapM_cons, List.mapM_cons, List.mapM_cons, List.mapM_nil] at hx
    simp only [bind, Option.bind_eq_some_iff, pure, Option.some.injEq, h1] at hx
    obtain ⟨y0, h0, _, ⟨y1, h1', _, ⟨y2, h2, _, ⟨y3, h3, _, rfl, rfl⟩, rfl⟩, rfl⟩, rfl⟩ := hx
    obtain ⟨a, ea, rfl, wa⟩ := DataW.trod_string he h0
    obtain ⟨b, eb, rfl, wb⟩ := DataW.trod_string he h1'
    obtain ⟨c, ec, rfl, wc⟩ := DataW.trod_string he h2
    obtain ⟨f, ef, rfl, wf⟩ := DataW.trod_string he h3
    simp at ea eb ec ef
    subst ea; subst eb; subst ec; subst ef
    simp only [Prod.mk.injEq] at e1
    exact ⟨a, b, c, f, rfl, by rw [← e1.1]; rfl, by rw [← e1.2]; rfl, wa, wb, wc, wf⟩
theorem shut_four (hu : P.underlying k = some (.array 4 e)) (hk : P.cellsOf k = 4) (h1 : P.cellsOf e = 1) (he : P.underlying e = some .string) {a b c f : ByteArray} (wa : a.size ≤ maxLen) (wb : b.size ≤ maxLen) (wc : c.size ≤ maxLen) (wf : f.size ≤ maxLen) :
    DataW.Trod enc P W base sp held k (.agg #[.string a, .string b, .string c, .string f]) (.agg [.lit (.string a.data.toList), .lit (.string b.data.toList), .lit (.string c.data.toList), .lit (.string f.data.toList)]) [] :=
  ⟨2, by
    show DataW.trod enc P W base sp held (1 + 1) k [.string a, .string b, .string c, .string f] = _
    rw [DataW.trod_step]
    unfold DataW.trodStep
    simp only [hu]
    rw [if_pos (by rw [hk]; rfl), show List.range 4 = [0, 1, 2, 3] from rfl, List.mapM_cons, List.mapM_cons, List.mapM_cons, List.mapM_cons, List.mapM_nil]
    simp [h1, DataW.trod, he, wa, wb, wc, wf]⟩
end

set_option maxRecDepth 100000 in
theorem lifted (os : Os) (started : os.Started) (H : Type) (enc : TypeId × Value → H) :
    ReturnsInHanded {} Try.checked os 6 .any (Rows.threadCongruentSpec.pre6 enc Try.prog Try.f6 Rows.threadCongruentRow.domain false) (Rows.threadCongruentSpec.post enc Try.prog Try.f6 false true false false) := by
  refine returnsInHanded_of_change_sized (C := Try.checked) own started (by kernel_rfl) Try.func6
    (ChangeSpec.witness6 (enc := enc) (C := Try.checked) false ⟨#[], #[.agg #[.string ByteArray.empty, .string ByteArray.empty, .string ByteArray.empty, .string ByteArray.empty], .int .i64 0], []⟩ 8 (by kernel_rfl) (by kernel_rfl) (by kernel_rfl) (by kernel_rfl)) ?_
  intro W base args ds gs before hval0 hW hcnd hsz0 _
  have hval : ∀ (j : Nat) t v, Try.f6.params[j]? = some t → args[j]? = some v → Value.okWide Try.prog W .any base t v := hval0
  have hW' := hW
  obtain ⟨p, q, hA0, hV, rfl, hfz, hnd⟩ := hW
  have hA : DataW.TrodAll enc Try.prog W 0 (fun _ => true) true Try.f6.params.toList args.toList ds p := hA0
  rw [Try.params6] at hA hval
  obtain ⟨v0, vs0, d0, ds0, p0, q0, hargs, rfl, rfl, h0, r0⟩ := trodAll_cons hA
  obtain ⟨v1, vs1, d1, ds1, p1, q1, rfl, rfl, rfl, h1, r1⟩ := trodAll_cons r0
  obtain ⟨rfl, rfl, rfl⟩ := trodAll_nil r1
  obtain rfl : args = #[v0, v1] := by cases args; simp_all
  obtain ⟨rfl, rfl⟩ := trodVars_none hV
  have hk44 : Try.prog.cellsOf 44 = 4 := by kernel_rfl
  have hk9 : Try.prog.cellsOf 9 = 1 := by kernel_rfl
  obtain ⟨a, b, c, f, rfl, rfl, rfl, ya, yb, yc, yf⟩ := open_four Try.underlying44 hk44 hk9 Try.underlying9 (hval 0 44 v0 rfl rfl) h0
  obtain ⟨n, rfl, rfl, rfl, y1⟩ := open_int Try.underlying3 (hval 1 3 v1 rfl rfl) h1
  clear hA0 hval0 hsz0
  refine (cong_walk a b c f n W).mono fun e W' ⟨he, bel⟩ => ?_
  subst he
  exact ⟨_, rfl, _, _, _, [], _, [], hW', trodAll_mk1 (shut_bool Try.underlying4 _), (trodAll_cons_mk (shut_four Try.underlying44 hk44 hk9 Try.underlying9 ya yb yc yf) (trodAll_cons_mk (shut_int Try.underlying3 y1) trodAll_mk0)), rfl, bel.frame _, fun h => by cases h⟩
theorem over : Rows.threadCongruentRow.holds Try.pinned (OpenSpec.ofChange Rows.threadCongruentSpec) :=
  OpenClaim.holds_of_wide 6 Try.f6 rfl rfl rfl rfl rfl rfl rfl ⟨rfl, rfl, rfl, rfl, rfl⟩ rfl rfl rfl rfl rfl (by kernel_rfl) Try.func6 (by kernel_rfl)
    (of_decide_eq_true (by kernel_rfl)) (by unfold Func.isWrapper; first | (rw [if_pos (by decide +kernel)]; kernel_rfl) | (rw [if_neg (by decide +kernel)]; exact ⟨rfl, rfl⟩))
    (fun os started H enc _ => lifted os started H enc)
theorem proved : Rows.ThreadCongruentSaid := over
#print axioms proved
end Go.Proofs.Ytfjbodaakmapdaa.threadCongruent
namespace Go.Proofs.Ytfjbodaakmapdaa
/-- The row, under a short name, for the claim. -/
theorem threadCongruent_holds : Rows.ThreadCongruentSaid := threadCongruent.proved
end Go.Proofs.Ytfjbodaakmapdaa
