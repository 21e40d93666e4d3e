/-
  THE PLAIN LAW of 'Canonical': what it is for the first n numbers of f to be one shortest encoding, and what each way out of 'Decode' says of it. No Go in sight.
-/
import Derived.Laws.Bits64
namespace Go.Proofs.Ymwham

/-- By the format alone: 1 to 10 bytes; all but the last are 128 or more; the last is less, is zero only if it is the only one, and is at most 1 if it is the tenth. -/
def Canon (f : Nat → Int) (n : Nat) : Prop :=
  1 ≤ n ∧ n ≤ 10 ∧ (∀ j, j < n - 1 → 128 ≤ f j) ∧ f (n - 1) < 128 ∧ (1 < n → f (n - 1) ≠ 0) ∧ (n = 10 → f (n - 1) ≤ 1)

theorem canon_zero (f : Nat → Int) : ¬ Canon f 0 := fun h => by have := h.1; omega

theorem canon_long (f : Nat → Int) (n : Nat) (h : 10 < n) : ¬ Canon f n := fun hc => by have := hc.2.1; omega

/-- A tenth byte of more than 1. -/
theorem canon_overflow (f : Nat → Int) (n : Nat) (h : 9 < n) (hb : 1 < f 9) : ¬ Canon f n := by
  rintro ⟨_, h2, _, _, _, h6⟩
  obtain rfl : n = 10 := by omega
  have := h6 rfl
  simp at this
  omega

/-- A byte that is less than 128, and not the last. -/
theorem canon_early (f : Nat → Int) (n k : Nat) (h : k < n - 1) (hb : f k < 128) : ¬ Canon f n := by
  rintro ⟨_, _, h3, _⟩
  have := h3 k h
  omega

/-- A zero byte that is not the first. -/
theorem canon_overlong (f : Nat → Int) (n k : Nat) (h : k < n) (h0 : 0 < k) (hb : f k = 0) : ¬ Canon f n := by
  by_cases e : k < n - 1
  · exact canon_early f n k e (by omega)
  · rintro ⟨_, _, _, _, h5, _⟩
    obtain rfl : k = n - 1 := by omega
    exact h5 (by omega) hb

/-- No byte is less than 128. -/
theorem canon_truncated (f : Nat → Int) (n : Nat) (hbig : ∀ j, j < n → 128 ≤ f j) : ¬ Canon f n := by
  rintro ⟨h1, _, _, h4, _⟩
  have := hbig (n - 1) (by omega)
  omega

/-- The first byte that is less than 128 is at place k: one encoding of k + 1 bytes. -/
theorem canon_found (f : Nat → Int) (n k : Nat) (h : k < n) (h9 : k ≤ 9) (hbig : ∀ j, j < k → 128 ≤ f j) (hb : f k < 128) (h0 : 0 < k → f k ≠ 0) (h10 : k = 9 → f k ≤ 1) : k + 1 = n ↔ Canon f n := by
  constructor
  · rintro rfl
    exact ⟨by omega, by omega, hbig, hb, fun h => h0 (by omega), fun h => h10 (by omega)⟩
  · intro hc
    by_cases e : k < n - 1
    · exact absurd hc (canon_early f n k e hb)
    · omega

theorem canon_iff (f : Nat → Int) (n : Nat) (h : 1 ≤ n) (h10 : n ≤ 10) (hbig : ∀ j, j < n - 1 → 128 ≤ f j) :
    Canon f n ↔ f (n - 1) < 128 ∧ (1 < n → f (n - 1) ≠ 0) ∧ (n = 10 → f (n - 1) ≤ 1) :=
  ⟨fun hc => hc.2.2.2, fun hc => ⟨h, h10, hbig, hc⟩⟩
end Go.Proofs.Ymwham
