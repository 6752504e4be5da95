/-
  What thread.differ computes, in plain Lean: a search by breadth over pairs of positions. No program in sight.
-/
import Derived.Test.YtfjbodaakmapdaaKeys
namespace Go.Proofs.Ytfjbodaakmapdaa
open Go.RowKit Th Kit

/-- What a step of the search gives: the word found, or the queue. -/
inductive Rs where
  | fin (w : List Nat)
  | go (Q : List (Pr × List Nat))

def dstep (x y : List Nat) (p : Pr) (wd : List Nat) (Q : List (Pr × List Nat)) (c : Nat) : Rs :=
  if decide (nx x c p.1 < x.length) ≠ decide (nx y c p.2 < y.length) then .fin (wd ++ [97 + c])
  else if nx x c p.1 < x.length ∧ (nx x c p.1 + 1, nx y c p.2 + 1) ∉ Q.map (·.1) then .go (Q ++ [((nx x c p.1 + 1, nx y c p.2 + 1), wd ++ [97 + c])]) else .go Q
def drun (x y : List Nat) (p : Pr) (wd : List Nat) : List Nat → List (Pr × List Nat) → Rs
  | [], Q => .go Q
  | c :: cs, Q => match dstep x y p wd Q c with
    | .fin w => .fin w
    | .go Q' => drun x y p wd cs Q'
def dbfs (x y : List Nat) : Nat → Nat → List (Pr × List Nat) → List Nat
  | 0, _, _ => []
  | f + 1, at', Q => match Q[at']? with
    | none => []
    | some (p, wd) => match drun x y p wd [0, 1, 2, 3] Q with
      | .fin w => w
      | .go Q' => dbfs x y f (at' + 1) Q'

theorem drun_append (x y : List Nat) (p : Pr) (wd : List Nat) : ∀ (a b : List Nat) (Q : List (Pr × List Nat)), drun x y p wd (a ++ b) Q = match drun x y p wd a Q with | .fin w => .fin w | .go Q' => drun x y p wd b Q'
  | [], _, _ => rfl
  | c :: a, b, Q => by
    rw [List.cons_append, drun, drun]
    cases dstep x y p wd Q c with
    | fin w => rfl
    | go Q' => exact drun_append x y p wd a b Q'

/-- The queue: distinct pairs; each but the first was reached from an earlier one by a letter. -/
structure DQ (x y : List Nat) (Q : List (Pr × List Nat)) : Prop where
  head : Q[0]? = some ((0, 0), [])
  apart : (Q.map (·.1)).Nodup
  inX : ∀ e ∈ Q, e.1.1 ≤ x.length ∧ e.1.2 ≤ y.length
  len : ∀ e ∈ Q, e.2.length ≤ e.1.1 ∧ e.2.length ≤ e.1.2
  pos : ∀ i p wd, Q[i + 1]? = some (p, wd) → 1 ≤ p.1 ∧ 1 ≤ p.2

/-- Where each pair of the queue but the first came from. -/
structure DF (Q : List (Pr × List Nat)) (F : List (Pr × (Pr × ByteArray))) : Prop where
  len : F.length + 1 = Q.length
  from_ : ∀ i p wd, Q[i + 1]? = some (p, wd) → ∃ (pp : Pr) (j : Nat) (wd' : List Nat) (c : Fin 4), F[i]? = some (p, (pp, str [97 + c.val])) ∧ j ≤ i ∧ Q[j]? = some (pp, wd') ∧ wd = wd' ++ [97 + c.val]

theorem DQ.first (x y : List Nat) : DQ x y [((0, 0), [])] :=
  ⟨rfl, by simp, by simp, by simp, fun i p wd h => by simp at h⟩
theorem DF.first : DF [((0, 0), [])] [] := ⟨rfl, fun i p wd h => by simp at h⟩

theorem DQ.ne {x y : List Nat} {Q : List (Pr × List Nat)} (h : DQ x y Q) : 0 < Q.length := (List.getElem?_eq_some_iff.1 h.head).1

theorem DQ.push {x y : List Nat} {Q : List (Pr × List Nat)} (h : DQ x y Q) {i : Nat} {p : Pr} {wd : List Nat} {c : Nat} (hi : Q[i]? = some (p, wd)) (h1 : nx x c p.1 < x.length) (h2 : nx y c p.2 < y.length)
    (hn : (nx x c p.1 + 1, nx y c p.2 + 1) ∉ Q.map (·.1)) : DQ x y (Q ++ [((nx x c p.1 + 1, nx y c p.2 + 1), wd ++ [97 + c])]) := by
  have hp := List.mem_of_getElem? hi
  have hg1 := nx_ge x c p.1
  have hg2 := nx_ge y c p.2
  have hl := h.len _ hp
  simp only at hl
  refine ⟨?_, ?_, ?_, ?_, ?_⟩
  · rw [List.getElem?_append_left h.ne]; exact h.head
  · rw [List.map_append, List.nodup_append]
    refine ⟨h.apart, by simp, ?_⟩
    intro a ha b hb
    simp only [List.map_cons, List.map_nil, List.mem_singleton] at hb
    subst hb
    exact fun e => hn (e ▸ ha)
  · intro e he
    rcases List.mem_append.1 he with he | he
    · exact h.inX e he
    · obtain rfl := List.mem_singleton.1 he
      simp only; omega
  · intro e he
    rcases List.mem_append.1 he with he | he
    · exact h.len e he
    · obtain rfl := List.mem_singleton.1 he
      simp only [List.length_append, List.length_cons, List.length_nil]; omega
  · intro j q w hj
    by_cases hlt : j + 1 < Q.length
    · rw [List.getElem?_append_left hlt] at hj; exact h.pos j q w hj
    · rw [List.getElem?_append_right (by omega)] at hj
      obtain ⟨_, hm⟩ := List.mem_of_getElem? hj |> List.mem_singleton.1 |> Prod.mk.inj |> fun e => (⟨e.2, e.1⟩ : _ ∧ _)
      subst hm
      simp only; omega

theorem DF.push {Q : List (Pr × List Nat)} {F : List (Pr × (Pr × ByteArray))} (h : DF Q F) {i : Nat} {p q : Pr} {wd : List Nat} {c : Fin 4} (hi : Q[i]? = some (p, wd)) :
    DF (Q ++ [(q, wd ++ [97 + c.val])]) (F ++ [(q, (p, str [97 + c.val]))]) := by
  have hl := h.len
  have hil := (List.getElem?_eq_some_iff.1 hi).1
  refine ⟨by simp; omega, fun k q' w hk => ?_⟩
  by_cases hlt : k + 1 < Q.length
  · rw [List.getElem?_append_left hlt] at hk
    obtain ⟨pp, j, wd', c', h1, h2, h3, h4⟩ := h.from_ k q' w hk
    exact ⟨pp, j, wd', c', by rw [List.getElem?_append_left (by omega)]; exact h1, h2, by rw [List.getElem?_append_left (by omega)]; exact h3, h4⟩
  · rw [List.getElem?_append_right (by omega)] at hk
    have hk2 : k + 1 - Q.length = 0 := by
      have := (List.getElem?_eq_some_iff.1 hk).1
      simp at this; omega
    rw [hk2] at hk
    simp only [List.getElem?_cons_zero, Option.some.injEq, Prod.mk.injEq] at hk
    obtain ⟨rfl, rfl⟩ := hk
    exact ⟨p, i, wd, c, by rw [List.getElem?_append_right (by omega), show k - F.length = 0 by omega]; rfl, by omega, by rw [List.getElem?_append_left hil]; exact hi, rfl⟩

/-- What is known is what stands in the queue behind its head. -/
theorem DF.keys {Q : List (Pr × List Nat)} {F : List (Pr × (Pr × ByteArray))} (h : DF Q F) (i : Nat) : (F.map (·.1))[i]? = (Q.map (·.1))[i + 1]? := by
  rw [List.getElem?_map, List.getElem?_map]
  by_cases hlt : i < F.length
  · obtain ⟨q, hq⟩ : ∃ q, Q[i + 1]? = some q := ⟨_, List.getElem?_eq_getElem (by have := h.len; omega)⟩
    obtain ⟨p, wd⟩ := q
    obtain ⟨pp, j, wd', c, h1, _⟩ := h.from_ i p wd hq
    rw [h1, hq]; rfl
  · rw [List.getElem?_eq_none (by omega), List.getElem?_eq_none (by have := h.len; omega)]; rfl
theorem DF.tail {Q : List (Pr × List Nat)} {F : List (Pr × (Pr × ByteArray))} (h : DF Q F) : F.map (·.1) = (Q.map (·.1)).tail := by
  apply List.ext_getElem?
  intro i
  rw [h.keys, List.getElem?_tail]

theorem DF.known {x y : List Nat} {Q : List (Pr × List Nat)} {F : List (Pr × (Pr × ByteArray))} (h : DF Q F) (hq : DQ x y Q) (p : Pr) (hp : 1 ≤ p.1) : (getL F p).isSome = decide (p ∈ Q.map (·.1)) := by
  have h0 : Q.map (·.1) = (0, 0) :: F.map (·.1) := by
    rw [h.tail]
    have := hq.head
    cases hQ : Q with
    | nil => rw [hQ] at this; cases this
    | cons a Q' =>
      rw [hQ] at this
      simp only [List.getElem?_cons_zero, Option.some.injEq] at this
      subst this; rfl
  rw [h0]
  cases hg : getL F p with
  | none =>
    have := getL_none.1 hg
    simp only [Option.isSome_none]
    symm
    rw [decide_eq_false_iff_not]
    intro hm
    rcases List.mem_cons.1 hm with rfl | hm
    · simp at hp
    · obtain ⟨e, he, h1⟩ := List.mem_map.1 hm
      exact this e he h1
  | some v =>
    simp only [Option.isSome_some]
    symm
    rw [decide_eq_true_iff]
    unfold getL at hg
    obtain ⟨e, he, _⟩ := Option.map_eq_some_iff.1 hg
    have h1 := List.mem_of_find?_eq_some he
    have h2 := List.find?_some he
    simp only [decide_eq_true_eq] at h2
    exact List.mem_cons_of_mem _ (List.mem_map.2 ⟨e, h1, h2⟩)

theorem nodup_lt : ∀ (N : Nat) (l : List Nat), l.Nodup → (∀ a ∈ l, a < N) → l.length ≤ N
  | 0, l, _, h => by
    cases l with
    | nil => simp
    | cons a l => have := h a (by simp); omega
  | N + 1, l, hn, h => by
    by_cases hm : N ∈ l
    · have h1 := nodup_lt N (l.erase N) (hn.erase N) (fun a ha => by
        have h2 := (List.Nodup.mem_erase_iff hn).1 ha
        have h3 := h a h2.2
        have h4 := h2.1
        omega)
      rw [List.length_erase_of_mem hm] at h1
      omega
    · have := nodup_lt N l hn (fun a ha => by
        have h3 := h a ha
        have : a ≠ N := fun e => hm (e ▸ ha)
        omega)
      omega
/-- How many pairs there may be. -/
theorem pairs_le (n m : Nat) (l : List Pr) (hn : l.Nodup) (hb : ∀ p ∈ l, p.1 ≤ n ∧ p.2 ≤ m) : l.length ≤ (n + 1) * (m + 1) := by
  have h1 : (l.map fun p => p.1 * (m + 1) + p.2).Nodup := by
    unfold List.Nodup
    rw [List.pairwise_map]
    refine hn.imp_of_mem fun {a b} ha hb' hab e => hab ?_
    obtain ⟨a1, a2⟩ := a
    obtain ⟨b1, b2⟩ := b
    have h2 := (hb _ ha).2
    have h3 := (hb _ hb').2
    simp only at h2 h3 e
    have h4 : a1 = b1 := by
      have e1 : (a1 * (m + 1) + a2) / (m + 1) = a1 := by
        rw [Nat.mul_comm, Nat.mul_add_div (by omega), Nat.div_eq_of_lt (by omega), Nat.add_zero]
      have e2 : (b1 * (m + 1) + b2) / (m + 1) = b1 := by
        rw [Nat.mul_comm, Nat.mul_add_div (by omega), Nat.div_eq_of_lt (by omega), Nat.add_zero]
      rw [← e1, ← e2, e]
    subst h4
    simp only [Prod.mk.injEq, true_and]; omega
  have h2 := nodup_lt ((n + 1) * (m + 1)) _ h1 (fun a ha => by
    obtain ⟨p, hp, rfl⟩ := List.mem_map.1 ha
    obtain ⟨h3, h4⟩ := hb p hp
    have : p.1 * (m + 1) ≤ n * (m + 1) := Nat.mul_le_mul_right _ h3
    rw [Nat.succ_mul]; omega)
  rwa [List.length_map] at h2
theorem DQ.size {x y : List Nat} {Q : List (Pr × List Nat)} (h : DQ x y Q) (hx : x.length ≤ 60) (hy : y.length ≤ 60) : Q.length ≤ 3721 := by
  have := pairs_le 60 60 (Q.map (·.1)) h.apart (fun p hp => by
    obtain ⟨e, he, rfl⟩ := List.mem_map.1 hp
    have := h.inX e he
    omega)
  simpa using this
end Go.Proofs.Ytfjbodaakmapdaa
