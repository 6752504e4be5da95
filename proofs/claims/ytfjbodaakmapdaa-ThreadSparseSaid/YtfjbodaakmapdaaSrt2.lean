/-
  The contracts of slices.SortFunc, slices.Clone and slices.Compact at strings, as thread.Minimal calls them.
-/
import Derived.Test.YtfjbodaakmapdaaSrt
import Derived.Test.YtfjbodaakmapdaaShelf
namespace Go.Proofs.Ytfjbodaakmapdaa
open Go.RowKit Go.Shelf Go.Lib Go.Sort Th Kit

theorem below_putRow {B : Nat} {w : World} (enc : ByteArray → Value) (b off : Nat) (d : Array ByteArray) (hb : B ≤ b) : Below B w (putRow enc w b off d) := by
  refine ⟨rfl, rfl, rfl, by rw [Sort.size_putRow]; exact Nat.le_refl _, fun k hk => ?_⟩
  show (w.heap.modify b _)[k]? = _
  rw [Array.getElem?_modify, if_neg (by omega)]
theorem below_grow {B : Nat} {w w1 : World} (h : Below B w w1) (hB : B ≤ w1.heap.size) (os : Array Obj) : Below B w (grow w1 os) := by
  refine h.trans ⟨rfl, rfl, rfl, by show w1.heap.size ≤ (w1.heap ++ os).size; rw [Array.size_append]; omega, fun k hk => ?_⟩
  show (w1.heap ++ os)[k]? = _
  rw [Array.getElem?_append_left (by omega)]
theorem below_SW {B : Nat} {w W : World} {b off : Nat} {d : Array ByteArray} (h : SW Value.string w b off d W) (hb : B ≤ b) (hB : B ≤ w.heap.size) : Below B w W := by
  obtain ⟨n, os, rfl⟩ := h
  unfold sortWorld
  refine below_grow ?_ (by rw [Sort.size_putRow]; exact hB) os
  exact below_putRow (w := Sort.ahead w n) Value.string b off d hb |> fun h => ⟨h.os, h.tape, h.output, h.size, h.block⟩

theorem cmpLays (b size : Nat) (w : World) : CmpLays1 Try.prog 55 #[] Value.string blC b 0 size w :=
  fun _ _ _ _ x y => (byLength_any x y _).mono fun _ _ ⟨he, o, hw⟩ => ⟨he, 0, #[o], by rw [hw, alloc_eq_grow]; rfl⟩

theorem ins_any (b cap : Nat) (d : Array ByteArray) (w : World) (hH : Holds Value.string w b 0 d) (hb : b < w.heap.size) (hsz : d.size ≤ 12) :
    Calls Try.prog 74 #[.slice (some ⟨b, 0, none⟩) d.size cap, .int .i64 0, .int .i64 d.size, .func (.func 55) #[] #[]] w fun e w' => e = .returned (.tuple #[]) ∧ SW Value.string w b 0 (Sort.insertionSort (ltOf blC) d 0 d.size) w' :=
  Any.insertionSortCmpFunc_s Try.srtIns Value.string blC 55 #[] b 0 cap 0 d.size d d w w (enters_of Try.func55 (by kernel_rfl) rfl) (cmpLays b d.size w) ⟨fun _ => rfl, hH, hb⟩ rfl (SW.start hH) (Nat.zero_le _) (Nat.le_refl _) (by omega)

set_option maxRecDepth 100000 in
set_option maxHeartbeats 2000000 in
theorem pdq_any (b cap : Nat) (d : Array ByteArray) (lim : Int) (w : World) (hH : Holds Value.string w b 0 d) (hb : b < w.heap.size) (hsz : d.size ≤ 12) :
    Calls Try.prog 66 #[.slice (some ⟨b, 0, none⟩) d.size cap, .int .i64 0, .int .i64 d.size, .int .i64 lim, .func (.func 55) #[] #[]] w fun e w' => e = .returned (.tuple #[]) ∧ SW Value.string w b 0 (Sort.insertionSort (ltOf blC) d 0 d.size) w' := by
  have hi := ins_any b cap d w hH hb hsz
  generalize Sort.insertionSort (ltOf blC) d 0 d.size = d2 at hi ⊢
  clear hH
  go_enter Try.func66, Try.ntmps66
  go_wp2
  refine wp_loop_rounds 1 ?_
  rw [rounds_succ]
  go_wp2_with (go_at_call 74; refine hi.mono ?_; rintro e w' ⟨rfl, hS⟩)
  (try simp only [Exit.inBlock, Exit.then])
  refine bodyPost_ret (results_none rfl _ _ _) rfl ?_
  exact ⟨rfl, hS⟩

set_option maxHeartbeats 2000000 in
theorem sort_any (b cap : Nat) (d : Array ByteArray) (w : World) (hH : Holds Value.string w b 0 d) (hb : b < w.heap.size) (hsz : d.size ≤ 12) :
    Calls Try.prog 54 #[.slice (some ⟨b, 0, none⟩) d.size cap, .func (.func 55) #[] #[]] w fun e w' => e = .returned (.tuple #[]) ∧ SW Value.string w b 0 (Sort.insertionSort (ltOf blC) d 0 d.size) w' := by
  have hp := fun lim => pdq_any b cap d lim w hH hb hsz
  have hl : Calls Try.prog 67 #[.int .u64 d.size] w fun e w' => e = .returned (.int .i64 (Lib.bitLen ((d.size : Int)).toNat)) ∧ w' = w := Any.bits_Len Try.srtLen d.size w (by omega) (by omega)
  generalize Sort.insertionSort (ltOf blC) d 0 d.size = d2 at hp ⊢
  clear hH
  go_enter Try.func54, Try.ntmps54
  go_wp2_with (first | (go_at_call 67; refine hl.mono ?_; rintro e w' ⟨rfl, rfl⟩) | (go_at_call 66; refine (hp _).mono ?_; rintro e w' ⟨rfl, hS⟩))
  go_end0
  exact ⟨rfl, hS⟩

/-- Clone, of a slice that is not nil. -/
theorem clone_any (b off n c : Nat) (zs : List ByteArray) (w : World) (hz : n ≤ zs.length) (hbig : n * 16 ≤ 140737488355328) (hc : ∀ j, j < zs.length → w.cell? ⟨b, off + j, none⟩ = some (.string (zs.getD j ByteArray.empty))) :
    Calls Try.prog 53 #[.slice (some ⟨b, off, none⟩) n c] w fun e w' => ∃ v', e = .returned v' ∧ w'.ownsRow w.heap.size 9 1 v' n ((zs.take n).map (Value.string)) ∧ v' ≠ .slice none 0 0 ∧ Below w.heap.size w w' :=
  Any.slices_Clone_string Try.srtClone b off n c zs w hz hbig hc
theorem compact_any (b cap : Nat) (d : Array ByteArray) (w : World) (hH : Holds Value.string w b 0 d) (hsz : d.size ≤ 9223372036854775807) (hcap : d.size ≤ cap) :
    Calls Try.prog 56 #[.slice (some ⟨b, 0, none⟩) d.size cap] w fun e w' => e = .returned (.slice (some ⟨b, 0, none⟩) (compactUpTo d d.size).length cap) ∧ ∃ q, w' = putRow Value.string (Sort.ahead w q) b 0 (compactUpTo d d.size ++ List.replicate (d.size - (compactUpTo d d.size).length) ByteArray.empty).toArray := by
  have e : (fun x y : ByteArray => decide (x = y)) = fun x y => x.toList == y.toList := by
    funext x y
    rw [Bool.eq_iff_iff, decide_eq_true_iff, beq_iff_eq]
    constructor
    · rintro rfl; rfl
    · intro h
      apply ByteArray.ext
      apply Array.ext'
      simpa [ByteArray.toList_eq] using h
  exact AnyE.slices_Compact Try.srtCompact Value.string (fun _ => rfl) (by rw [e]; exact EqlAt.string _ _) (by rw [e]; exact NeqAt.string _ _) ByteArray.empty Try.zeroValue9 b 0 cap d w hH hsz hcap
end Go.Proofs.Ytfjbodaakmapdaa
