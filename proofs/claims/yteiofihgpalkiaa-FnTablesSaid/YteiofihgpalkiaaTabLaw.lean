/- The numbers of tables: table k of all, its digits, and how the next one arises. No program in sight. -/
import Derived.Test.YteiofihgpalkiaaBase
namespace Go.Proofs.Yteiofihgpalkiaa
open Go Go.RowKit

/-- time j of table k, of m + 1 events with the period p -/
def tv (p m k j : Nat) : Int := if j = 0 then 0 else ((k / p ^ (m - j) % p : Nat) : Int)
/-- table k -/
def tab (p m k : Nat) : List Int := (List.range (m + 1)).map (tv p m k)
theorem tab_len (p m k : Nat) : (tab p m k).length = m + 1 := by simp [tab]
theorem gi_tab (p m k j : Nat) (h : j < m + 1) : gi (tab p m k) j = tv p m k j := by simp [gi, tab, h]
theorem tv_bd (p m k j : Nat) (hp : 0 < p) : 0 ≤ tv p m k j ∧ tv p m k j < p := by
  unfold tv
  split
  · omega
  · have := Nat.mod_lt (k / p ^ (m - j)) hp
    omega
theorem vTab_tab (p m k : Nat) (hp : 0 < p) : vTab ((m + 1 : Nat) : Int) p (tab p m k) := by
  refine ⟨by simp [tab_len], fun j hj => ?_⟩
  rw [tab_len] at hj
  rw [gi_tab _ _ _ _ hj]
  exact tv_bd p m k j hp
theorem tv_zero (p m j : Nat) : tv p m 0 j = 0 := by unfold tv; split <;> simp

/-- the low digits are as great as they can be -/
def Low (p m k j : Nat) : Prop := k % p ^ (m - j) = p ^ (m - j) - 1

theorem low_start (p m k : Nat) : Low p m k m := by simp [Low, Nat.mod_one]
theorem low_step (p m k j : Nat) (hp : 0 < p) (hj : 0 < j) (hm : j ≤ m) (h : Low p m k j) (hd : tv p m k j = p - 1) : Low p m k (j - 1) := by
  unfold Low at *
  unfold tv at hd
  rw [if_neg (by omega)] at hd
  have e : m - (j - 1) = m - j + 1 := by omega
  rw [e]
  generalize m - j = c at *
  have hpe : 0 < p ^ c := Nat.pow_pos hp
  have h1 : p ^ (c + 1) = p ^ c * p := Nat.pow_succ _ _
  rw [h1, Nat.mod_mul, h]
  have h2 : k / p ^ c % p = p - 1 := by omega
  rw [h2]
  have h3 : p ^ c * (p - 1) = p ^ c * p - p ^ c := by rw [Nat.mul_sub, Nat.mul_one]
  have h4 : p ^ c ≤ p ^ c * p := Nat.le_mul_of_pos_right _ hp
  omega
theorem low_end (p m k : Nat) (hk : k < p ^ m) (h : Low p m k 0) : k + 1 = p ^ m := by
  unfold Low at h
  simp at h
  rw [Nat.mod_eq_of_lt hk] at h
  omega
/-- the digit at j is not the greatest: the next table -/
theorem next_tab (p m k j i : Nat) (hp : 0 < p) (hj : 0 < j) (hm : j ≤ m) (hi : i ≤ m) (h : Low p m k j) (hd : tv p m k j ≠ p - 1) :
    tv p m (k + 1) i = if i = j then tv p m k j + 1 else if j < i then 0 else tv p m k i := by
  have hlt := (tv_bd p m k j hp).2
  unfold Low at h
  unfold tv at *
  rw [if_neg (by omega)] at hd hlt
  have hpe : 0 < p ^ (m - j) := Nat.pow_pos hp
  -- k + 1 = (a + 1) q
  have hk : k + 1 = (k / p ^ (m - j) + 1) * p ^ (m - j) := by
    have := Nat.div_add_mod k (p ^ (m - j))
    rw [Nat.add_mul, Nat.one_mul, Nat.mul_comm]
    omega
  generalize ha : k / p ^ (m - j) = a at *
  have hlow : a % p + 1 < p := by omega
  have hdiv : (a + 1) / p = a / p := by
    have e1 := Nat.div_add_mod a p
    have e2 : a + 1 = p * (a / p) + (a % p + 1) := by omega
    rw [e2, Nat.mul_add_div hp, Nat.div_eq_of_lt hlow, Nat.add_zero]
  have hmod : (a + 1) % p = a % p + 1 := by
    have e1 := Nat.div_add_mod a p
    have e2 : a + 1 = p * (a / p) + (a % p + 1) := by omega
    rw [e2, Nat.mul_add_mod, Nat.mod_eq_of_lt hlow]
  by_cases h0 : i = 0
  · subst h0
    rw [if_pos rfl, if_neg (by omega), if_neg (by omega), if_pos rfl]
  rw [if_neg h0, if_neg h0]
  by_cases hij : i = j
  · subst hij
    rw [if_pos rfl, if_neg h0, hk, Nat.mul_div_cancel _ hpe, hmod]
    omega
  · rw [if_neg hij]
    by_cases hlt2 : j < i
    · rw [if_pos hlt2, hk]
      have e : p ^ (m - j) = p ^ (m - i) * p * p ^ (i - j - 1) := by
        rw [← Nat.pow_succ, ← Nat.pow_add]
        congr 1
        omega
      rw [e]
      have e3 : (a + 1) * (p ^ (m - i) * p * p ^ (i - j - 1)) = p ^ (m - i) * (p * (p ^ (i - j - 1) * (a + 1))) := by
        simp [Nat.mul_assoc, Nat.mul_comm, Nat.mul_left_comm]
      rw [e3, Nat.mul_div_cancel_left _ (Nat.pow_pos hp), Nat.mul_mod_right]
      rfl
    · rw [if_neg hlt2]
      have e : p ^ (m - i) = p ^ (m - j) * p ^ (j - i) := by
        rw [← Nat.pow_add]
        congr 1
        omega
      have e2 : p ^ (j - i) = p * p ^ (j - i - 1) := by
        rw [Nat.mul_comm, ← Nat.pow_succ]
        congr 1
        omega
      rw [e, hk, ← Nat.div_div_eq_div_mul, ← Nat.div_div_eq_div_mul, Nat.mul_div_cancel _ hpe, ha, e2, ← Nat.div_div_eq_div_mul, ← Nat.div_div_eq_div_mul, hdiv]

/-- a table with a digit that is not the greatest is not the last -/
theorem not_last (p m k j : Nat) (hp : 0 < p) (hj : 0 < j) (hm : j ≤ m) (h : Low p m k j) (hd : tv p m k j ≠ p - 1) : k + 1 ≠ p ^ m := by
  intro hk1
  unfold Low at h
  unfold tv at hd
  rw [if_neg (by omega)] at hd
  have hpe : 0 < p ^ (m - j) := Nat.pow_pos hp
  have hk : k + 1 = (k / p ^ (m - j) + 1) * p ^ (m - j) := by
    have := Nat.div_add_mod k (p ^ (m - j))
    rw [Nat.add_mul, Nat.one_mul, Nat.mul_comm]
    omega
  generalize ha : k / p ^ (m - j) = a at *
  have e : p ^ m = p ^ j * p ^ (m - j) := by
    rw [← Nat.pow_add]
    congr 1
    omega
  rw [hk1, e] at hk
  have e2 : p ^ j = a + 1 := Nat.eq_of_mul_eq_mul_right hpe hk
  have e3 : (a + 1) % p = 0 := by
    rw [← e2]
    obtain ⟨i, rfl⟩ : ∃ i, j = i + 1 := ⟨j - 1, by omega⟩
    rw [Nat.pow_succ]
    exact Nat.mul_mod_left _ _
  have hlt := Nat.mod_lt a hp
  have e4 := Nat.div_add_mod a p
  have hlow : a % p + 1 < p := by omega
  have e5 : a + 1 = p * (a / p) + (a % p + 1) := by omega
  rw [e5, Nat.mul_add_mod, Nat.mod_eq_of_lt hlow] at e3
  omega

/-- what is gathered over the first n tables -/
def runT {S : Type} (kept : Nat → Bool) (nx : S → Nat → S) (s0 : S) : Nat → S
  | 0 => s0
  | n + 1 => if kept n then nx (runT kept nx s0 n) n else runT kept nx s0 n
end Go.Proofs.Yteiofihgpalkiaa
