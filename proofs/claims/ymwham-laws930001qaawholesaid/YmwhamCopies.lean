/-
  THE WALK of the law over 'Canonical': a copy of the slice is made, model and 'Canonical' are asked (YmwhamReads), and slice and copy are compared cell by cell: a region that draws its order: the world behind it differs by draws alone.
-/
import Derived.Test.YmwhamReads
import Derived.Laws.CopyOwn
import Derived.Deep.OwnRows
import Derived.WalkLawsBesides
import Derived.Deep.QuietTactic
import Derived.BigQuiet
import Derived.RegionTactic
import Derived.ChangeOld
import Derived.WalkSmall
namespace Go.Proofs.Ymwham
open Go.ChangeShapes Go.WideShapes Go.ChangeAt Go.RowKit

/-- The slice reads as it did in a world that is, below the new block, as it was. -/
theorem Src.below {w w1 : World} {a : Option Addr} {b off n : Nat} {f : Nat → Int} (hs : Src w a b off n f) (hb : Below w.heap.size w w1) : Src w1 a b off n f :=
  ⟨hs.at_, hs.len, fun j hj => (hb.cell (World.block_lt_of_cell? _ _ (hs.cell j hj))).trans (hs.cell j hj), hs.byte⟩

/-- 'before = make([]byte, len(src)); copy(before, src)': the new row holds the numbers of src; what was there stands. -/
theorem copy_made (x : Addr) (b off n c : Nat) (f : Nat → Int) (w : World) (hs : Src w (some x) b off n f) :
    ∃ w1, (Builtin.copy_ #[27, 27] 3 #[.slice (some ⟨w.heap.size, 0, none⟩) n n, .slice (some x) n c]).run Yamv.prog (w.alloc (.cells (madeCells #[.int .u8 0] n) 5)) = .ok (.int .i64 n) w1 ∧
      Below w.heap.size w w1 ∧ ∀ j, j < n → w1.cell? ⟨w.heap.size, j, none⟩ = some (.int .u8 (f j)) := by
  have hb0 : Below w.heap.size w (w.alloc (.cells (madeCells #[.int .u8 0] n) 5)) := (Below.refl _ _).alloc (Nat.le_refl _) _
  by_cases h0 : n = 0
  · subst h0
    exact ⟨_, run_copy_none (P := Yamv.prog) _ 27 27 3 5 _ _ 0 0 0 c Yamv.underlying27 (by kernel_rfl) rfl, hb0, fun j hj => absurd hj (by omega)⟩
  · obtain ⟨rfl⟩ : x = ⟨b, off, none⟩ := Option.some.inj (hs.at_ (by omega))
    have hg : (w.alloc (.cells (madeCells #[.int .u8 0] n) 5)).heap[w.heap.size]? = some (.cells (madeCells #[.int .u8 0] n) 5 (0, 0)) := by
      show (w.heap.push _)[w.heap.size]? = _
      simp
    have hs1 := hs.below hb0
    have hrun := run_copy_row (P := Yamv.prog) (w.alloc (.cells (madeCells #[.int .u8 0] n) 5)) 27 27 3 5 w.heap.size 0 n n ⟨b, off, none⟩ n c _ 5 ((List.range n).map fun j => Value.int .u8 (f j)) Yamv.underlying27 (by kernel_rfl) hg (by simp)
      (fun j v hv => by
        obtain ⟨hj, hv'⟩ := List.getElem?_eq_some_iff.1 hv
        have hj' : j < n := by simpa using hj
        rw [add_plain, hs1.cell j hj', ← hv']
        simp)
      (by simp [size_madeCells]) (fun v hv => by
        obtain ⟨j, _, rfl⟩ := List.mem_map.1 hv
        rfl)
    refine ⟨(w.alloc (.cells (madeCells #[.int .u8 0] n) 5)).setRow w.heap.size ((madeCells #[.int .u8 0] n).toList.take 0 ++ ((List.range n).map fun j => Value.int .u8 (f j)) ++ (madeCells #[.int .u8 0] n).toList.drop (0 + ((List.range n).map fun j => Value.int .u8 (f j)).length)).toArray,
      hrun.trans (by rw [List.length_map, List.length_range]; rfl), below_setRow hb0 (Nat.le_refl _) _, fun j hj => ?_⟩
    rw [cell_setRow_same _ _ _ _ _ _ _ hg, List.getElem?_toArray, List.take_zero, List.nil_append, List.getElem?_append_left (by simpa using hj)]
    simp [hj]

set_option maxHeartbeats 400000 in
theorem law_long (a : Option Addr) (n c : Nat) (w : World) (hn : 1048576 < n) :
    Calls Yamv.prog 5 #[.slice a n c] w fun e w' => e = .returned (.bool true) ∧ Below w.heap.size w w' := by
  go_enter Yamv.func5, Yamv.ntmps5
  go_wp2
  go_ret
  exact ⟨rfl, Below.refl _ _⟩

set_option maxHeartbeats 400000 in
theorem law_nil (w : World) :
    Calls Yamv.prog 5 #[.slice none 0 0] w fun e w' => e = .returned (.bool true) ∧ Below w.heap.size w w' := by
  have hs : Src w none 0 0 0 (fun _ => 0) := ⟨fun h => absurd h (by omega), by decide, fun j h => absurd h (by omega), fun j h => absurd h (by omega)⟩
  go_enter Yamv.func5, Yamv.ntmps5
  go_wp2_with fail
  refine (model_any none 0 0 0 0 (fun _ => 0) _ hs).mono ?_
  rintro e w' ⟨⟨r1, rfl, h1⟩, rfl⟩
  have H1 : Hid (r1 = true ↔ Canon (fun _ => 0) 0) := h1
  clear h1
  go_wp2_with fail
  refine (canonical_any none 0 0 0 0 (fun _ => 0) _ hs).mono ?_
  rintro e w3 ⟨⟨r2, rfl, h2⟩, rfl⟩
  obtain rfl : r1 = r2 := Bool.eq_iff_iff.2 (H1.out.trans h2.symm)
  clear h2
  go_wp2_with fail
  go_loopw [6] (fun i wr => ∃ k q : Nat, k ≤ 0 ∧ i = .int .i64 k ∧ wr = w3.drewN q) (fun i _ => 0 - (intOf i).toNat)
  case atStart => exact ⟨0, 0, by omega, rfl, rfl⟩
  case round =>
    obtain ⟨k, q, hk, rfl, rfl⟩ := hrel
    obtain rfl : k = 0 := by omega
    go_wp2
    go_ret
    exact ⟨rfl, below_drewN (Below.refl _ _) _⟩

set_option maxHeartbeats 400000 in
theorem law_some (x : Addr) (b off n c : Nat) (f : Nat → Int) (w : World) (hs : Src w (some x) b off n f) (hn : n ≤ 1048576) :
    Calls Yamv.prog 5 #[.slice (some x) n c] w fun e w' => e = .returned (.bool true) ∧ Below w.heap.size w w' := by
  have hmk : ∀ W : World, (Instr.makeSlice 27 (.int .i64 (n : Int)) (.int .i64 (n : Int))).run Yamv.prog W = .ok (.slice (some ⟨W.heap.size, 0, none⟩) n n) (W.alloc (.cells (madeCells #[.int .u8 0] n) 5)) :=
    run_make_row' 27 5 (.int .u8 0) 1 Yamv.underlying27 (by kernel_rfl) rfl .i64 .i64 n (by omega) (by omega)
  obtain ⟨w1, hcp, hb, hnew⟩ := copy_made x b off n c f w hs
  have hs1 := hs.below hb
  have HN : Hid (∀ j, j < n → w1.cell? ⟨w.heap.size, j, none⟩ = some (.int .u8 (f j))) := hnew
  clear hs hnew
  go_enter Yamv.func5, Yamv.ntmps5
  go_wp2_with fail
  refine (model_any (some x) b off n c f _ hs1).mono ?_
  rintro e w' ⟨⟨r1, rfl, h1⟩, rfl⟩
  have H1 : Hid (r1 = true ↔ Canon f n) := h1
  clear h1
  clear hmk hcp
  go_wp2_with fail
  refine (canonical_any (some x) b off n c f _ hs1).mono ?_
  rintro e w3 ⟨⟨r2, rfl, h2⟩, rfl⟩
  obtain rfl : r1 = r2 := Bool.eq_iff_iff.2 (H1.out.trans h2.symm)
  clear h2
  go_wp2_with fail
  go_loopw [6] (fun i wr => ∃ k q : Nat, k ≤ n ∧ i = .int .i64 k ∧ wr = w3.drewN q) (fun i _ => n - (intOf i).toNat)
  case atStart => exact ⟨0, 0, by omega, rfl, rfl⟩
  case round =>
    obtain ⟨k, q, hk, rfl, rfl⟩ := hrel
    by_cases hlt : k < n
    · have hc1 := hs1.cell k hlt
      have hc2 := HN.out k hlt
      obtain rfl : x = ⟨b, off, none⟩ := Option.some.inj (hs1.at_ (by omega))
      obtain ⟨z0, z1⟩ := hs1.byte k hlt
      clear hs1 HN H1
      go_wp2
      go_quiet (fail)
      go_wp2
      go_roundw
      case rel => exact ⟨k + 1, q + nq, by omega, by go_num, by first | rfl | simp⟩
      case measure => simp [intOf]; omega
    · clear hs1 HN H1
      go_wp2
      go_ret
      exact ⟨rfl, below_drewN hb _⟩
end Go.Proofs.Ymwham
