/-
  Numbers as bytes: what they are; that bits laid side by side are a sum.
-/
import Derived.Test.YthphkcpbglhabaaGreatDoorBld
namespace Go.Proofs.YthphkcpbglhabaaGreatDoor
open Sx Go
set_option maxRecDepth 100000
set_option linter.unusedSimpArgs false
set_option linter.unusedVariables false
set_option linter.unnecessarySimpa false


/-- a number's bytes -/
def vput (n : Nat) : List UInt8 := if n < 128 then [UInt8.ofNat n] else UInt8.ofNat (n % 128 + 128) :: vput (n / 128)
termination_by n
decreasing_by omega

theorem vput_small {n : Nat} (h : n < 128) : vput n = [UInt8.ofNat n] := by rw [vput, if_pos h]
theorem vput_big {n : Nat} (h : 128 ≤ n) : vput n = UInt8.ofNat (n % 128 + 128) :: vput (n / 128) := by rw [vput, if_neg (by omega)]

theorem vput_len : ∀ (k n : Nat), n < 128 ^ (k + 1) → (vput n).length ≤ k + 1
  | 0, n, h => by rw [vput_small (by simpa using h)]; simp
  | k + 1, n, h => by
    by_cases hn : n < 128
    · rw [vput_small hn]; simp
    · rw [vput_big (by omega), List.length_cons]
      have := vput_len k (n / 128) (by rw [Nat.pow_succ] at h; exact Nat.div_lt_of_lt_mul (by rw [Nat.mul_comm]; exact h))
      omega
theorem vput_len9 {n : Nat} (h : n ≤ 4611686018427387904) : (vput n).length ≤ 9 := vput_len 8 n (Nat.lt_of_le_of_lt h (by decide))
theorem vput_ne (n : Nat) : vput n ≠ [] := by
  by_cases h : n < 128
  · rw [vput_small h]; simp
  · rw [vput_big (by omega)]; simp

/-- the number that bytes begin with: (number, bytes, error) -/
def vtakeGo : Nat → List UInt8 → Nat → Nat → Nat × Nat × Int
  | 0, _, _, _ => (0, 0, 11)
  | _ + 1, [], _, _ => (0, 0, 10)
  | m + 1, c :: r, k, n =>
    if 128 ≤ c.toNat then vtakeGo m r (k + 1) (n + c.toNat % 128 * 128 ^ k)
    else if (0 < k ∧ c.toNat = 0) ∨ 4611686018427387904 < n + c.toNat * 128 ^ k then (0, 0, 11) else (n + c.toNat * 128 ^ k, k + 1, 0)
def vtake (l : List UInt8) : Nat × Nat × Int := vtakeGo 9 l 0 0

theorem or_sum {a b i : Nat} (hb : b < 2 ^ i) : b ||| a * 2 ^ i = b + a * 2 ^ i := by
  rw [Nat.or_comm, Nat.mul_comm, ← Nat.two_pow_add_eq_or_of_lt hb, Nat.add_comm]

theorem pow128 (k : Nat) : 128 ^ k = 2 ^ (7 * k) := by rw [show (128 : Nat) = 2 ^ 7 from rfl, ← Nat.pow_mul]

/-- what is laid above what is there -/
theorem or_step {n c k : Nat} (hk : k ≤ 8) (hn : n < 128 ^ k) (hc : c < 128) :
    iOr .i64 (n : Int) (iShl .i64 (c : Int) (IntKind.i64.wrap (7 * (k : Int)))) = ((n + c * 128 ^ k : Nat) : Int) ∧ n + c * 128 ^ k < 128 ^ (k + 1) := by
  rw [iOr64, iShl64]
  have h7 : IntKind.i64.wrap (7 * (k : Int)) = ((7 * k : Nat) : Int) := by rw [wrap_small (by omega) (by omega)]; omega
  have hlt : n + c * 128 ^ k < 128 ^ (k + 1) := by
    rw [Nat.pow_succ]
    have : c * 128 ^ k ≤ 127 * 128 ^ k := Nat.mul_le_mul_right _ (by omega)
    omega
  have htop : (128 : Nat) ^ (k + 1) ≤ 128 ^ 9 := Nat.pow_le_pow_right (by omega) (by omega)
  have hval : (128 : Nat) ^ 9 = 9223372036854775808 := by decide
  have hmin : min (7 * k) 64 = 7 * k := by omega
  have hcast : (c : Int) * 2 ^ (7 * k) = ((c * 128 ^ k : Nat) : Int) := by rw [pow128]; simp
  refine ⟨?_, hlt⟩
  rw [h7, Int.toNat_natCast, hmin, hcast, wrap_small (n := ((c * 128 ^ k : Nat) : Int)) (by omega) (by omega), BitVec.toNat_or, ofInt_nat 64 n (by omega), ofInt_nat 64 (c * 128 ^ k) (by omega)]
  rw [pow128, or_sum (by rw [← pow128]; exact hn), wrap_small (by omega) (by rw [← pow128]; omega)]

theorem and127_u8 : ∀ b : Nat, b < 256 → iAnd .u8 (b : Int) 127 = ((b % 128 : Nat) : Int) := by
  intro b hb
  rw [iAnd8, BitVec.toNat_and, ofInt_nat 8 b (by omega), show (BitVec.ofInt 8 127).toNat = 2 ^ 7 - 1 from rfl, Nat.and_two_pow_sub_one_eq_mod, wrap_u8]
  congr 1; omega

theorem or128 (m : Nat) (h : m < 256) : m ||| 128 = m % 128 + 128 := by
  have : ∀ m : Fin 256, m.val ||| 128 = m.val % 128 + 128 := by decide +kernel
  exact this ⟨m, h⟩

theorem byte_more (n : Nat) : iOr .u8 (IntKind.u8.wrap (n : Int)) 128 = ((UInt8.ofNat (n % 128 + 128)).toNat : Int) := by
  rw [iOr8]
  simp only [wrap_u8]
  rw [BitVec.toNat_or, ofInt_nat 8 (n % 256) (by omega), show (BitVec.ofInt 8 128).toNat = 128 from rfl, or128 _ (by omega), UInt8.toNat_ofNat']
  congr 1; omega

theorem byte_more' {n : Nat} (hn : n < 9223372036854775808) : IntKind.u8.wrap (iOr .i64 (iAnd .i64 (n : Int) 127) 128) = ((UInt8.ofNat (n % 128 + 128)).toNat : Int) := by
  have e1 : iAnd .i64 (n : Int) 127 = ((n % 128 : Nat) : Int) := by
    rw [iAnd64, BitVec.toNat_and, ofInt_nat 64 n (by omega), show (BitVec.ofInt 64 127).toNat = 2 ^ 7 - 1 from rfl, Nat.and_two_pow_sub_one_eq_mod]
    exact wrap_small (by omega) (by omega)
  rw [e1]
  rw [iOr64, BitVec.toNat_or, ofInt_nat 64 (n % 128) (by omega), show (BitVec.ofInt 64 128).toNat = 128 from rfl, or128 _ (by omega), wrap_small (by omega) (by omega), wrap_u8, UInt8.toNat_ofNat']
  congr 1; omega

theorem byte_last (n : Nat) (h : n < 128) : IntKind.u8.wrap (n : Int) = ((UInt8.ofNat n).toNat : Int) := by
  rw [wrap_u8, UInt8.toNat_ofNat']

theorem shr7 (n : Nat) : iShr .i64 (n : Int) 7 = ((n / 128 : Nat) : Int) := by
  rw [iShr64]
  have : min (7 : Int).toNat 64 = 7 := by decide
  rw [this]
  rw [Int.fdiv_eq_ediv_of_nonneg _ (by decide)]
  simp

/-! ### there and back -/

theorem vtakeGo_put : ∀ (m n k acc : Nat) (r : List UInt8), n < 128 ^ (m + 1) → acc + n * 128 ^ k ≤ 4611686018427387904 → (0 < k → 0 < n) → vtakeGo (m + 1) (vput n ++ r) k acc = (acc + n * 128 ^ k, k + (vput n).length, 0)
  | m, n, k, acc, r, hm, hle, hk => by
    by_cases hn : n < 128
    · have e : (UInt8.ofNat n).toNat = n := by rw [UInt8.toNat_ofNat', Nat.mod_eq_of_lt (by omega)]
      rw [vput_small hn]
      simp only [List.singleton_append, vtakeGo, e]
      rw [if_neg (by omega), if_neg (by rintro (⟨h1, h2⟩ | h); have := hk h1; omega; omega)]
      simp
    · have e : (UInt8.ofNat (n % 128 + 128)).toNat = n % 128 + 128 := by rw [UInt8.toNat_ofNat', Nat.mod_eq_of_lt (by omega)]
      rw [vput_big (by omega)]
      simp only [List.cons_append, vtakeGo, e]
      rw [if_pos (by omega)]
      cases m with
      | zero => simp at hm; omega
      | succ m =>
        have e2 : acc + (n % 128 + 128) % 128 * 128 ^ k + n / 128 * 128 ^ (k + 1) = acc + n * 128 ^ k := by
          rw [Nat.pow_succ, show (n % 128 + 128) % 128 = n % 128 from by omega]
          have h1 : n * 128 ^ k = (n / 128 * 128 + n % 128) * 128 ^ k := by rw [Nat.div_add_mod' n 128]
          rw [h1, Nat.add_mul, Nat.mul_assoc, Nat.mul_comm 128 (128 ^ k)]; omega
        rw [vtakeGo_put m (n / 128) (k + 1) _ r (by rw [Nat.pow_succ] at hm; exact Nat.div_lt_of_lt_mul (by rw [Nat.mul_comm]; exact hm)) (by rw [e2]; exact hle) (fun _ => by omega)]
        rw [e2]; simp; omega

theorem vtake_put {n : Nat} (h : n ≤ 4611686018427387904) (r : List UInt8) : vtake (vput n ++ r) = (n, (vput n).length, 0) := by
  have := vtakeGo_put 8 n 0 0 r (Nat.lt_of_le_of_lt h (by decide)) (by simpa using h) (by omega)
  simpa [vtake] using this

theorem vtakeGo_bound : ∀ (m : Nat) (l : List UInt8) (k n : Nat), (vtakeGo m l k n).1 ≤ 4611686018427387904 ∧ ((vtakeGo m l k n).2.2 = 0 → (vtakeGo m l k n).2.1 ≤ k + l.length ∧ k < (vtakeGo m l k n).2.1) ∧ ((vtakeGo m l k n).2.2 ≠ 0 → (vtakeGo m l k n).1 = 0 ∧ (vtakeGo m l k n).2.1 = 0) ∧
    ((vtakeGo m l k n).2.2 = 0 ∨ (vtakeGo m l k n).2.2 = 10 ∨ (vtakeGo m l k n).2.2 = 11)
  | 0, l, k, n => by simp [vtakeGo]
  | m + 1, [], k, n => by simp [vtakeGo]
  | m + 1, c :: r, k, n => by
    simp only [vtakeGo]
    split
    · obtain ⟨h1, h2, h3, h4⟩ := vtakeGo_bound m r (k + 1) (n + c.toNat % 128 * 128 ^ k)
      refine ⟨h1, fun h => ?_, h3, h4⟩
      have := h2 h
      simp only [List.length_cons]; omega
    · split
      · simp
      · rename_i h
        refine ⟨by simp only; omega, fun _ => by simp, fun h => absurd rfl h, .inl rfl⟩

theorem vtake_le (l : List UInt8) : (vtake l).2.1 ≤ l.length := by
  obtain ⟨_, h2, h3, _⟩ := vtakeGo_bound 9 l 0 0
  unfold vtake
  by_cases h : (vtakeGo 9 l 0 0).2.2 = 0
  · have := (h2 h).1; omega
  · rw [(h3 h).2]; exact Nat.zero_le _

end Go.Proofs.YthphkcpbglhabaaGreatDoor
