/-
  THE WALKS of 'Decode', of 'Canonical' and of the law's model: each reads the slice and leaves the world as it was; each says of the bytes whether they are one shortest encoding ('Canon', YmwhamCanon).
-/
import Derived.Test.YmwhamRows
import Derived.Test.YmwhamCanon
import Derived.WalkKit
import Derived.ProofKit
import Derived.OpenShut
import Derived.ShutString
import Derived.Below
namespace Go.Proofs.Ymwham
open Go.ChangeShapes Go.WideShapes Go.ChangeAt Go.RowKit

theorem code_no {f : Nat → Int} {n : Nat} {m k : Int} (hk : k ≠ 0) (h : ¬ Canon f n) : (k = 0 ∧ m = n) ↔ Canon f n := ⟨fun e => absurd e.1 hk, fun e => absurd e h⟩
theorem code_yes {f : Nat → Int} {n k : Nat} {m : Int} (hm : m = (k : Int) + 1) (h : k + 1 = n ↔ Canon f n) : ((0 : Int) = 0 ∧ m = n) ↔ Canon f n := by
  rw [← h]; omega

/-- What a walk is told of the slice: where it has an element it lies in plain cells, the numbers f 0, f 1, .., each a byte. (Where it has none its address is not looked at.) -/
structure Src (w : World) (a : Option Addr) (b off n : Nat) (f : Nat → Int) : Prop where
  at_ : 0 < n → a = some ⟨b, off, none⟩
  len : n ≤ maxLen
  cell : ∀ j, j < n → w.cell? ⟨b, off + j, none⟩ = some (.int .u8 (f j))
  byte : ∀ j, j < n → 0 ≤ f j ∧ f j < 256

set_option maxHeartbeats 400000 in
theorem decode_any (a : Option Addr) (b off n c : Nat) (f : Nat → Int) (w : World) (hs : Src w a b off n f) :
    Calls Yamv.prog 15 #[.slice a n c] w fun e w' => ∃ x m k : Int, e = .returned (.tuple #[.int .u64 x, .int .i64 m, .int .i64 k]) ∧ ((k = 0 ∧ m = n) ↔ Canon f n) ∧ w' = w := by
  have hm := hs.len
  unfold maxLen at hm
  go_enter Yamv.func15, Yamv.ntmps15
  go_wp2
  go_loop [5, 6, 7] (fun x i _ => ∃ (k : Nat) (xv : Int), k ≤ n ∧ k ≤ 9 ∧ i = .int .i64 k ∧ x = .int .u64 xv ∧ ∀ j, j < k → 128 ≤ f j) (fun _ i _ => n - (intOf i).toNat)
  case atStart => exact ⟨0, 0, by omega, by omega, rfl, rfl, fun _ h => absurd h (by omega)⟩
  case round =>
    obtain ⟨k, xv, hk, hk9, rfl, rfl, hbig⟩ := hrel
    by_cases hlt : k < n
    · have hc := hs.cell k hlt
      obtain ⟨z0, z1⟩ := hs.byte k hlt
      obtain rfl := hs.at_ (by omega)
      clear hs
      by_cases h9 : k = 9
      · subst h9
        by_cases g1 : 1 < f 9
        · go_wp2
          go_ret3
          exact ⟨_, _, _, rfl, code_no (by decide) (canon_overflow f n hlt g1), rfl⟩
        · by_cases g0 : f 9 = 0
          · go_wp2
            go_ret3
            exact ⟨_, _, _, rfl, code_no (by decide) (canon_overlong f n 9 hlt (by decide) g0), rfl⟩
          · go_wp2
            go_ret3
            exact ⟨_, _, _, rfl, code_yes (k := 9) (by decide) (canon_found f n 9 hlt (by decide) hbig (by omega) (fun _ => g0) (fun _ => by omega)), rfl⟩
      · by_cases g0 : f k = 0 ∧ 0 < k
        · obtain ⟨g0, g1⟩ := g0
          go_wp2
          go_ret3
          exact ⟨_, _, _, rfl, code_no (by decide) (canon_overlong f n k hlt g1 g0), rfl⟩
        · by_cases g2 : f k < 128
          · go_wp2
            all_goals
              go_ret3
              exact ⟨_, _, _, rfl, code_yes (k := k) rfl (canon_found f n k hlt hk9 hbig g2 (fun hp h0 => g0 ⟨h0, hp⟩) (fun h => absurd h h9)), rfl⟩
          · go_wp2
            go_round
            case rel => exact ⟨k + 1, _, by omega, by omega, by go_num, rfl, fun j hj => by
              by_cases e : j = k
              · rw [e]; omega
              · exact hbig j (by omega)⟩
            case measure => simp [intOf]; omega
    · obtain rfl : k = n := by omega
      clear hs
      go_wp2
      go_ret3
      exact ⟨_, _, _, rfl, code_no (by decide) (canon_truncated f k hbig), rfl⟩

/-- The call returns one bool: whether the first n numbers of f are one shortest encoding. (A definition of its own: bare, the walk parts it into two.) -/
def Says (f : Nat → Int) (n : Nat) (e : Ending) : Prop := ∃ r : Bool, e = .returned (.bool r) ∧ (r = true ↔ Canon f n)
theorem Says.no {f : Nat → Int} {n : Nat} (h : ¬ Canon f n) : Says f n (.returned (.bool false)) := ⟨false, rfl, by simpa using h⟩
theorem Says.yes {f : Nat → Int} {n : Nat} (h : Canon f n) : Says f n (.returned (.bool true)) := ⟨true, rfl, by simpa using h⟩

set_option maxHeartbeats 400000 in
theorem canonical_any (a : Option Addr) (b off n c : Nat) (f : Nat → Int) (w : World) (hs : Src w a b off n f) :
    Calls Yamv.prog 12 #[.slice a n c] w fun e w' => Says f n e ∧ w' = w := by
  go_enter Yamv.func12, Yamv.ntmps12
  go_wp2_with (go_at_call 15; refine (decode_any a b off n c f _ hs).mono ?_; rintro e w' ⟨x, m, k, rfl, hr, rfl⟩; have HR : Hid ((k = 0 ∧ m = n) ↔ Canon f n) := hr; clear hr)
  · go_ret
    exact ⟨⟨m == (n : Int), rfl, by rw [← HR.out, beq_iff_eq]; exact ⟨fun h => ⟨by assumption, h⟩, fun h => h.2⟩⟩, rfl⟩
  · go_ret
    exact ⟨Says.no (fun hc => absurd (HR.out.2 hc).1 (by assumption)), rfl⟩

set_option maxHeartbeats 400000 in
theorem model_any (a : Option Addr) (b off n c : Nat) (f : Nat → Int) (w : World) (hs : Src w a b off n f) :
    Calls Yamv.prog 11 #[.slice a n c] w fun e w' => Says f n e ∧ w' = w := by
  have hm := hs.len
  unfold maxLen at hm
  by_cases h1 : n < 1
  · go_enter Yamv.func11, Yamv.ntmps11
    go_wp2
    go_ret
    exact ⟨Says.no (fun h => absurd h.1 (by omega)), rfl⟩
  by_cases h10 : 10 < n
  · go_enter Yamv.func11, Yamv.ntmps11
    go_wp2
    go_ret
    exact ⟨Says.no (fun h => absurd h.2.1 (by omega)), rfl⟩
  obtain rfl := hs.at_ (by omega)
  go_enter Yamv.func11, Yamv.ntmps11
  go_wp2
  go_loop [4] (fun i => ∃ k : Nat, k ≤ n - 1 ∧ i = .int .i64 k ∧ ∀ j, j < k → 128 ≤ f j) (fun i => n - (intOf i).toNat)
  case atStart => exact ⟨0, by omega, rfl, fun _ h => absurd h (by omega)⟩
  case round =>
    obtain ⟨k, hk, rfl, hbig⟩ := hrel
    by_cases hlt : k < n - 1
    · have hc := hs.cell k (by omega)
      obtain ⟨z0, z1⟩ := hs.byte k (by omega)
      clear hs
      by_cases g : f k < 128
      · go_wp2
        go_ret
        exact ⟨Says.no (canon_early f n k hlt g), rfl⟩
      · go_wp2
        go_round
        case rel => exact ⟨k + 1, by omega, by go_num, fun j hj => by
          by_cases e : j = k
          · rw [e]; omega
          · exact hbig j (by omega)⟩
        case measure => simp [intOf]; omega
    · obtain rfl : k = n - 1 := by omega
      have hc := hs.cell (n - 1) (by omega)
      obtain ⟨z0, z1⟩ := hs.byte (n - 1) (by omega)
      clear hs
      have hiff := canon_iff f n (by omega) (by omega) hbig
      have HI : Hid (Canon f n ↔ f (n - 1) < 128 ∧ (1 < n → f (n - 1) ≠ 0) ∧ (n = 10 → f (n - 1) ≤ 1)) := hiff
      clear hiff hlt hk hbig
      by_cases g1 : 128 ≤ f (n - 1)
      · go_wp2
        go_ret
        exact ⟨Says.no (fun hc => by have := (HI.out.1 hc).1; omega), rfl⟩
      by_cases g2 : 1 < n ∧ f (n - 1) = 0
      · obtain ⟨g2, g3⟩ := g2
        go_wp2
        go_ret
        exact ⟨Says.no (fun hc => absurd g3 ((HI.out.1 hc).2.1 g2)), rfl⟩
      by_cases g4 : n = 10 ∧ 1 < f (n - 1)
      · obtain ⟨g4, g5⟩ := g4
        subst g4
        have hc9 : w.cell? ⟨b, off + 9, none⟩ = some (.int .u8 (f 9)) := hc
        have g19 : ¬ 128 ≤ f 9 := g1
        have g29 : ¬ f 9 = 0 := fun e => g2 ⟨by decide, e⟩
        have g59 : 1 < f 9 := g5
        have HN : Hid (¬ Canon f 10) := fun hc => by have := (HI.out.1 hc).2.2 rfl; omega
        clear hc g1 g2 g5 z0 z1 HI
        go_wp2
        go_ret
        exact ⟨Says.no HN.out, rfl⟩
      · go_wp2
        all_goals
          go_ret
          exact ⟨Says.yes (HI.out.2 ⟨by omega, fun h e => g2 ⟨h, e⟩, fun h => by omega⟩), rfl⟩
end Go.Proofs.Ymwham
