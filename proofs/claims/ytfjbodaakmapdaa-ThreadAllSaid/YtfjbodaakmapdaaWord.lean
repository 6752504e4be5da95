/-
  The walks of thread.within and thread.newWord: a word's block holds the positions of the next letters.
-/
import Derived.WalkKit
import Derived.WalkSpells
import Derived.WalkLawsBesides
import Derived.Outline
import Derived.Deep.DeepFit
import Derived.Lib.Hide
import Derived.BigQuiet
import Derived.Deep.QuietTactic
import Derived.StillTailTactics
import Derived.Test.YtfjbodaakmapdaaProg
import Derived.Test.YtfjbodaakmapdaaTh
import Derived.Test.YtfjbodaakmapdaaKit
namespace Go.Proofs.Ytfjbodaakmapdaa
open Go.RowKit Th Kit

/-- The block of a word from row m on. -/
structure WB (wr : World) (b : Nat) (s : ByteArray) (m : Nat) (cs : Array Value) : Prop where
  blk : Blk wr b cs 75
  size : cs.size = 245
  str : cs[0]? = some (.string s)
  row : ∀ r c, m ≤ r → r ≤ s.size → c < 4 → cs[1 + r * 4 + c]? = some (.int .i64 (nx (bl s) c r))

def NewPost (s : ByteArray) (w : World) (e : Ending) (w' : World) : Prop :=
  Below w.heap.size w w' ∧ ((isW s = true ∧ e = .returned (.tuple #[.pointer (some ⟨w.heap.size, 0, none⟩), .bool true]) ∧ ∃ cs, WB w' w.heap.size s 0 cs) ∨
   (isW s = false ∧ e = .returned (.tuple #[.pointer none, .bool false])))

theorem within_any (n lo hi : Int) (r : Bool) (w : World) (hr : (decide (lo ≤ n) && decide (n ≤ hi)) = r) : Calls Try.prog 43 #[.int .i64 n, .int .i64 lo, .int .i64 hi] w fun e w' => e = .returned (.bool r) ∧ w = w' := by
  subst hr
  by_cases h : lo ≤ n
  · have h1 : decide (lo ≤ n) = true := decide_eq_true h
    go_enter Try.func43, Try.ntmps43
    go_wp2
    go_ret
    exact ⟨by simp [h], rfl⟩
  · have h1 : decide (lo ≤ n) = false := decide_eq_false h
    go_enter Try.func43, Try.ntmps43
    go_wp2
    go_ret
    exact ⟨by simp, rfl⟩

theorem row_step {s : ByteArray} {j : Nat} {cs : Array Value} (hj : j < s.size) (h60 : s.size ≤ 60) (h1 : 97 ≤ s[j].toNat) (h2 : s[j].toNat ≤ 100) (hsz : cs.size = 245)
    (hrow : ∀ r c, j + 1 ≤ r → r ≤ s.size → c < 4 → cs[1 + r * 4 + c]? = some (.int .i64 (nx (bl s) c r))) :
    ∀ r c, j ≤ r → r ≤ s.size → c < 4 → ((Kit.put cs (1 + j * 4) [.int .i64 (nx (bl s) 0 (j+1)), .int .i64 (nx (bl s) 1 (j+1)), .int .i64 (nx (bl s) 2 (j+1)), .int .i64 (nx (bl s) 3 (j+1))]).setIfInBounds (1 + j * 4 + (s[j].toNat - 97)) (.int .i64 j))[1 + r * 4 + c]? = some (.int .i64 (nx (bl s) c r)) := by
  intro r c hr hr2 hc
  have hlen := bl_len s
  have hg := bl_get s j hj
  by_cases hrj : r = j
  · subst hrj
    have hst := nx_step (bl s) c r (by omega)
    rw [hg] at hst
    by_cases hx : s[r].toNat = 97 + c
    · rw [if_pos hx] at hst
      rw [show 1 + r * 4 + (s[r].toNat - 97) = 1 + r * 4 + c by omega, Array.getElem?_setIfInBounds_self, if_pos (by rw [put_size]; omega), hst]
    · rw [if_neg hx] at hst
      rw [Array.getElem?_setIfInBounds_ne (by omega), put_in _ _ _ _ (by simp; omega) (by simp; omega), hst]
      rcases (show c = 0 ∨ c = 1 ∨ c = 2 ∨ c = 3 by omega) with rfl | rfl | rfl | rfl <;> rfl
  · rw [Array.getElem?_setIfInBounds_ne (by omega), put_out _ _ _ _ (by simp; omega)]
    exact hrow r c (by omega) hr2 hc

theorem zero75_size : Try.zeroCells75.size = 245 := by kernel_rfl

set_option maxRecDepth 100000 in
set_option maxHeartbeats 2000000 in
theorem newWord_short (s : ByteArray) (hs : s.size ≤ 60) (w : World) :
   Calls Try.prog 42 #[.string s] w (NewPost s w) := by
  have hzs := zero75_size
  have hbl := bl_len s
  have Hzs := Lib.hid hzs
  have Hbl := Lib.hid hbl
  clear hzs hbl
  go_enter Try.func42, Try.ntmps42
  go_wp2
  go_loopw [14] (fun v wr => ∃ k : Nat, v = .int .i64 k ∧ k ≤ 4 ∧ Below w.heap.size w wr ∧ ∃ cs, WB wr w.heap.size s (s.size + 1) cs ∧ ∀ c, c < k → cs[1 + s.size * 4 + c]? = some (.int .i64 s.size)) (fun v _ => 4 - (intOf v).toNat)
  case atStart =>
    refine ⟨0, rfl, by omega, (Below.refl _ _).alloc (Nat.le_refl _) _, _, ⟨Blk.new _ _ _, ?_, ?_, fun r c h1 h2 => by omega⟩, fun c hc => by omega⟩
    · rw [Array.size_setIfInBounds]; exact Hzs.out
    · rw [Array.getElem?_setIfInBounds_self, if_pos (by rw [Hzs.out]; omega)]
  case round =>
    obtain ⟨k, rfl, hk, hB, cs, hcs, hrow⟩ := hrel
    have hsz := hcs.size
    by_cases hlt : k < 4
    · obtain ⟨x, hx⟩ : ∃ x, wr.cell? ⟨w.heap.size, 1 + s.size * 4 + k, none⟩ = some x := by
        rw [hcs.blk.cell]
        exact ⟨cs[1 + s.size * 4 + k]'(by omega), Array.getElem?_eq_getElem (by omega)⟩
      have hf : wr.frozen? ⟨w.heap.size, 1 + s.size * 4 + k, none⟩ = false := hcs.blk.frozen _
      have Hrow := Lib.hid hrow
      have Hsz := Lib.hid hsz
      clear hrow hsz
      go_wp2
      go_roundw
      case rel =>
        have hrow := Hrow.out
        have hsz := Hsz.out
        refine ⟨k + 1, by go_num, by omega, hB.setCell (p := ⟨w.heap.size, _, none⟩) (Nat.le_refl _) _, _, ⟨hcs.blk.set _ _, by rw [Array.size_setIfInBounds]; exact hsz, ?_, fun r c h1 h2 => by omega⟩, fun c hc => ?_⟩
        · rw [Array.getElem?_setIfInBounds_ne (by omega)]; exact hcs.str
        · by_cases h : c = k
          · subst h; rw [Array.getElem?_setIfInBounds_self, if_pos (by omega)]
          · rw [Array.getElem?_setIfInBounds_ne (by omega)]; exact hrow c (by omega)
      case measure => simp [intOf]; omega
    · obtain rfl : k = 4 := by omega
      have Hrow := Lib.hid hrow
      have Hsz := Lib.hid hsz
      clear hrow hsz
      rw [show ((4 : Nat) : Int) = 4 from rfl]
      go_wp2
      go_loopw [6] (fun v wr => ∃ (q : Int) (m : Nat), v = .int .i64 q ∧ q = m - 1 ∧ m ≤ s.size ∧ Below w.heap.size w wr ∧ (∃ cs, WB wr w.heap.size s m cs) ∧ ∀ i (h : i < s.size), m ≤ i → 97 ≤ s[i].toNat ∧ s[i].toNat ≤ 100) (fun v _ => (intOf v + 1).toNat)
      case atStart =>
        refine ⟨_, s.size, rfl, rfl, Nat.le_refl _, hB, ⟨cs, hcs.blk, hcs.size, hcs.str, fun r c h1 h2 hc => ?_⟩, fun i h h' => by omega⟩
        obtain rfl : r = s.size := by omega
        rw [Hrow.out c hc, ← Hbl.out, nx_end]
      case round =>
        clear hB hcs Hrow Hsz
        obtain ⟨q, m, rfl, hq, hm, hB, ⟨cs, hcs⟩, hlet⟩ := hrel
        cases m with
        | zero =>
          obtain rfl : q = -1 := by omega
          clear hq
          have Hlet := Lib.hid hlet
          clear hlet
          go_wp2
          go_ret2
          refine ⟨hB, .inl ⟨?_, rfl, cs, hcs⟩⟩
          rw [isW_iff]
          exact ⟨hs, fun i h => Hlet.out i h (Nat.zero_le _)⟩
        | succ j =>
          obtain rfl : q = (j : Int) := by omega
          clear hq
          have hlet' := Lib.hid hlet
          clear hlet
          have hby : s[j].toNat < 256 := s[j].toNat_lt
          by_cases hv : 97 ≤ s[j].toNat ∧ s[j].toNat ≤ 100
          · obtain ⟨hv1, hv2⟩ := hv
            go_wp2_with (go_at_call 43; refine (within_any _ _ _ true _ (by simp; omega)).mono ?_; rintro e w' ⟨rfl, rfl⟩)
            have hsz := hcs.size
            have hrow := hcs.row (j + 1)
            have c0 : wr.cell? ⟨w.heap.size, 1 + (j + 1) * 4, none⟩ = some (.int .i64 (nx (bl s) 0 (j+1))) := by
              rw [hcs.blk.cell]; exact hrow 0 (by omega) (by omega) (by omega)
            have c1 : wr.cell? ⟨w.heap.size, 1 + (j + 1) * 4 + 1, none⟩ = some (.int .i64 (nx (bl s) 1 (j+1))) := by
              rw [hcs.blk.cell]; exact hrow 1 (by omega) (by omega) (by omega)
            have c2 : wr.cell? ⟨w.heap.size, 1 + (j + 1) * 4 + 2, none⟩ = some (.int .i64 (nx (bl s) 2 (j+1))) := by
              rw [hcs.blk.cell]; exact hrow 2 (by omega) (by omega) (by omega)
            have c3 : wr.cell? ⟨w.heap.size, 1 + (j + 1) * 4 + 3, none⟩ = some (.int .i64 (nx (bl s) 3 (j+1))) := by
              rw [hcs.blk.cell]; exact hrow 3 (by omega) (by omega) (by omega)
            clear hrow
            have j1 : (0 : Int) ≤ (j : Int) + 1 := by omega
            have j2 : (j : Int) + 1 < 61 := by omega
            have j3 : (j : Int) < 61 := by omega
            have e1 : IntKind.i64.wrap ((j : Int) + 1) = (j : Int) + 1 := IntWalk.i64_in _ (by omega)
            have e2 : ((j : Int) + 1).toNat = j + 1 := by omega
            go_still_tail 12, (by kernel_rfl)
            change wpList _ _ _ _ _ wr.drew
            clear e1 e2 j1 j2
            refine wpList_store_mid rfl 72 _ _ rfl w.heap.size (1 + j * 4) #[.int .i64 (nx (bl s) 0 (j+1)), .int .i64 (nx (bl s) 1 (j+1)), .int .i64 (nx (bl s) 2 (j+1)), .int .i64 (nx (bl s) 3 (j+1))] rfl rfl (hcs.blk.drew.there (by simp; omega)) (by kernel_rfl) (by simp [Value.oneCell']) ?_
            have hb2 := hcs.blk.drew.puts [.int .i64 (nx (bl s) 0 (j+1)), .int .i64 (nx (bl s) 1 (j+1)), .int .i64 (nx (bl s) 2 (j+1)), .int .i64 (nx (bl s) 3 (j+1))] (1 + j * 4)
            have hB2 := below_setCells [.int .i64 (nx (bl s) 0 (j+1)), .int .i64 (nx (bl s) 1 (j+1)), .int .i64 (nx (bl s) 2 (j+1)), .int .i64 (nx (bl s) 3 (j+1))] (1 + j * 4) (Nat.le_refl w.heap.size) hB.drew
            obtain ⟨cs2, hcs2⟩ : ∃ cs2, cs2 = Kit.put cs (1 + j * 4) [.int .i64 (nx (bl s) 0 (j+1)), .int .i64 (nx (bl s) 1 (j+1)), .int .i64 (nx (bl s) 2 (j+1)), .int .i64 (nx (bl s) 3 (j+1))] := ⟨_, rfl⟩
            rw [← hcs2] at hb2
            have hsz2 : cs2.size = 245 := by rw [hcs2, put_size]; exact hsz
            have hst2 : cs2[0]? = some (.string s) := by rw [hcs2, put_out _ _ _ _ (by omega)]; exact hcs.str
            have hrow2 := row_step (by omega) hs hv1 hv2 hsz hcs.row
            rw [← hcs2] at hrow2
            have Hrow2 := Lib.hid hrow2
            clear hcs2 hrow2
            generalize wr.drew.setCells w.heap.size (1 + j * 4) _ = w2 at hb2 hB2 ⊢
            clear c0 c1 c2 c3
            obtain ⟨x, hx⟩ : ∃ x, w2.cell? ⟨w.heap.size, 1 + j * 4 + (s[j].toNat - 97), none⟩ = some x := by
              rw [hb2.cell]
              exact ⟨_, Array.getElem?_eq_getElem (by omega)⟩
            have hf : w2.frozen? ⟨w.heap.size, 1 + j * 4 + (s[j].toNat - 97), none⟩ = false := hb2.frozen _
            have Hsz2 := Lib.hid hsz2
            have Hst2 := Lib.hid hst2
            clear hsz2 hst2 hsz
            go_wp2
            go_roundw
            case rel =>
              refine ⟨_, j, rfl, by omega, by omega, hB2.setCell (p := ⟨w.heap.size, _, none⟩) (Nat.le_refl _) _, ⟨_, hb2.set _ _, by rw [Array.size_setIfInBounds]; exact Hsz2.out, ?_, Hrow2.out⟩, fun i h hji => ?_⟩
              · rw [Array.getElem?_setIfInBounds_ne (by omega)]; exact Hst2.out
              · by_cases hij : i = j
                · subst hij; exact ⟨hv1, hv2⟩
                · exact hlet'.out i h (by omega)
            case measure => simp [intOf]
          · go_wp2_with (go_at_call 43; refine (within_any _ _ _ false _ (by simp; omega)).mono ?_; rintro e w' ⟨rfl, rfl⟩)
            go_ret2
            refine ⟨hB, .inr ⟨?_, rfl⟩⟩
            rw [Bool.eq_false_iff, ne_eq, isW_iff]
            rintro ⟨_, h⟩
            exact hv (h j (by omega))

theorem newWord_long (s : ByteArray) (hs : ¬ s.size ≤ 60) (w : World) :
   Calls Try.prog 42 #[.string s] w (NewPost s w) := by
  go_enter Try.func42, Try.ntmps42
  go_wp2
  go_ret2
  refine ⟨Below.refl _ _, .inr ⟨?_, rfl⟩⟩
  rw [Bool.eq_false_iff, ne_eq, isW_iff]
  exact fun h => hs h.1

theorem newWord_any (s : ByteArray) (w : World) : Calls Try.prog 42 #[.string s] w (NewPost s w) := by
  by_cases h : s.size ≤ 60
  · exact newWord_short s h w
  · exact newWord_long s h w

/-- What a word's block says of memory. -/
structure IsWord (w : World) (b : Nat) (s : ByteArray) : Prop where
  out : ∃ cs, WB w b s 0 cs

theorem IsWord.below {w w' : World} {b : Nat} {s : ByteArray} (h : IsWord w b s) (hb : Below w.heap.size w w') : IsWord w' b s := by
  obtain ⟨cs, hcs⟩ := h.out
  exact ⟨cs, hcs.blk.below' hb, hcs.size, hcs.str, hcs.row⟩
theorem IsWord.lt {w : World} {b : Nat} {s : ByteArray} (h : IsWord w b s) : b < w.heap.size := by
  obtain ⟨cs, hcs⟩ := h.out
  exact hcs.blk.lt
theorem IsWord.text {w : World} {b : Nat} {s : ByteArray} (h : IsWord w b s) : w.cell? ⟨b, 0, none⟩ = some (.string s) := by
  obtain ⟨cs, hcs⟩ := h.out
  rw [hcs.blk.cell]; exact hcs.str
theorem IsWord.next {w : World} {b : Nat} {s : ByteArray} (h : IsWord w b s) (r c : Nat) (hr : r ≤ s.size) (hc : c < 4) : w.cell? ⟨b, 1 + r * 4 + c, none⟩ = some (.int .i64 (nx (bl s) c r)) := by
  obtain ⟨cs, hcs⟩ := h.out
  rw [hcs.blk.cell]; exact hcs.row r c (Nat.zero_le _) hr hc
theorem IsWord.grown {w w' : World} {b : Nat} {s : ByteArray} {row : Option Nat} (h : IsWord w b s) (hg : w.grownBy w' row) (hr : some b ≠ row) : IsWord w' b s := by
  obtain ⟨cs, hcs⟩ := h.out
  exact ⟨cs, hcs.blk.grown hg hr, hcs.size, hcs.str, hcs.row⟩
theorem IsWord.other {w : World} {b : Nat} {s : ByteArray} (h : IsWord w b s) (p : Addr) (hp : b ≠ p.block) (v : Value) : IsWord (w.setCell p v) b s := by
  obtain ⟨cs, hcs⟩ := h.out
  exact ⟨cs, hcs.blk.other p hp v, hcs.size, hcs.str, hcs.row⟩

theorem newWord_yes (s : ByteArray) (w : World) (h : isW s = true) : Calls Try.prog 42 #[.string s] w fun e w' =>
    e = .returned (.tuple #[.pointer (some ⟨w.heap.size, 0, none⟩), .bool true]) ∧ IsWord w' w.heap.size s ∧ Below w.heap.size w w' :=
  (newWord_any s w).mono fun e w' ⟨hb, ho⟩ => by
    rcases ho with ⟨_, he, hw⟩ | ⟨hn, _⟩
    · exact ⟨he, ⟨hw⟩, hb⟩
    · rw [h] at hn; cases hn
theorem newWord_no (s : ByteArray) (w : World) (h : isW s = false) : Calls Try.prog 42 #[.string s] w fun e w' =>
    e = .returned (.tuple #[.pointer none, .bool false]) ∧ Below w.heap.size w w' :=
  (newWord_any s w).mono fun e w' ⟨hb, ho⟩ => by
    rcases ho with ⟨hn, _⟩ | ⟨_, he⟩
    · rw [h] at hn; cases hn
    · exact ⟨he, hb⟩
end Go.Proofs.Ytfjbodaakmapdaa
