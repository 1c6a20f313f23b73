/- Digits: how large a number can be. -/
import Derived.Test.YtpofpgejhnlfjaaGreatDoorHttpSpec
namespace Bph
theorem atoiD_a0 (n : Nat) : atoiD n [] + 1 ≤ (n + 1) * 10 ^ ([] : List UInt8).length := by
  have e : atoiD n [] = n := rfl
  rw [e]
  show n + 1 ≤ (n + 1) * 1
  omega
theorem atoiD_a1 (n : Nat) (c : UInt8) (r : List UInt8) : atoiD n (c :: r) = atoiD (10 * n + (c.toNat - 48)) r := by
  conv => lhs; unfold atoiD
theorem atoiD_a3 (n x p : Nat) (hx : x ≤ 57) (h1 : 48 ≤ x) : (10 * n + (x - 48) + 1) * p ≤ (n + 1) * (p * 10) := by
  have h : 10 * n + (x - 48) + 1 ≤ (n + 1) * 10 := by omega
  calc (10 * n + (x - 48) + 1) * p ≤ (n + 1) * 10 * p := Nat.mul_le_mul_right p h
    _ = (n + 1) * (p * 10) := by rw [Nat.mul_assoc, Nat.mul_comm 10 p]
theorem atoiD_a2 (n x k : Nat) (hx : x ≤ 57) (h1 : 48 ≤ x) : (10 * n + (x - 48) + 1) * 10 ^ k ≤ (n + 1) * (10 ^ k * 10) := atoiD_a3 n x _ hx h1
theorem atoiD_lt (l : List UInt8) : ∀ n : Nat, l.all isDig = true → atoiD n l + 1 ≤ (n + 1) * 10 ^ l.length := by
  induction l with
  | nil =>
    intro n _
    exact atoiD_a0 n
  | cons c r ih =>
    intro n h
    have h2 : isDig c = true ∧ r.all isDig = true := by simpa using h
    have hc : 48 ≤ c.toNat ∧ c.toNat ≤ 57 := by have := h2.1; simpa [isDig] using this
    rw [atoiD_a1, List.length_cons, Nat.pow_succ]
    exact Nat.le_trans (ih _ h2.2) (atoiD_a2 _ _ _ hc.2 hc.1)
theorem atoiD_le {l : List UInt8} (hl : l.length ≤ 9) (h : l.all isDig = true) : atoiD 0 l ≤ 999999999 := by
  have h1 := atoiD_lt l 0 h
  have h2 : 10 ^ l.length ≤ 10 ^ 9 := Nat.pow_le_pow_right (by omega) hl
  have h3 : (10 : Nat) ^ 9 = 1000000000 := rfl
  omega
end Bph
