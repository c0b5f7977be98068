/- The walks of shifts: how a rule is drawn, and one slot of a shift. -/
import Derived.Test.YteiofihgpalkiaaDoorRow
import Derived.Test.YteiofihgpalkiaaDoorSrc
import Derived.Test.YteiofihgpalkiaaDoorShLaw
import Derived.Deep.CutRange
namespace Go.Proofs.YteiofihgpalkiaaDoor
open Go Go.RowKit

def SR.cell (r : SR) : Value := .agg #[.int .i64 r.slots, .int .i64 r.least, .int .i64 r.most, .int .i64 r.row, .int .i64 r.pause]
def St.cell (s : St) : Value := .agg #[.int .i64 s.slot, .int .i64 s.worked, .int .i64 s.row, .int .i64 s.pause, .bool s.begun]
/-- a rule as the law draws it -/
structure SR.Ok (r : SR) : Prop where
  s1 : 1 ≤ r.slots
  s8 : r.slots ≤ 8
  l0 : 0 ≤ r.least
  lm : r.least ≤ r.most
  ms : r.most ≤ r.slots
  r1 : 1 ≤ r.row
  rs : r.row ≤ r.slots
  p1 : 1 ≤ r.pause
  ps : r.pause ≤ r.slots
/-- a state in range -/
structure St.Ok (s : St) : Prop where
  a0 : 0 ≤ s.slot
  a1 : s.slot ≤ 8
  b0 : 0 ≤ s.worked
  b1 : s.worked ≤ 8
  c0 : 0 ≤ s.row
  c1 : s.row ≤ 8
  d0 : 0 ≤ s.pause
  d1 : s.pause ≤ 8

theorem r8Long_true (A B : Option Addr) (n c m d : Nat) (w : World) (hn : n ≤ 9223372036854775807) (hm : m ≤ 9223372036854775807) (h : 48 < n ∨ 48 < m) :
    Calls Tryd.prog 4 #[.slice A n c, .slice B m d] w fun e w' => e = .returned (.bool true) ∧ w = w' := by
  by_cases h1 : 48 < n
  · have e1 : decide ((48 : Int) < (n : Int)) = true := by simp; omega
    go_enter Tryd.func4, Tryd.ntmps4
    go_wp2
    go_ret
    exact ⟨rfl, rfl⟩
  · have e1 : decide ((48 : Int) < (n : Int)) = false := by simp; omega
    have e2 : decide ((48 : Int) < (m : Int)) = true := by simp; omega
    go_enter Tryd.func4, Tryd.ntmps4
    go_wp2
    go_ret
    exact ⟨rfl, rfl⟩
theorem r8Long_false (A B : Option Addr) (n c m d : Nat) (w : World) (h1 : n ≤ 48) (h2 : m ≤ 48) :
    Calls Tryd.prog 4 #[.slice A n c, .slice B m d] w fun e w' => e = .returned (.bool false) ∧ w = w' := by
  have e1 : decide ((48 : Int) < (n : Int)) = false := by simp; omega
  have e2 : decide ((48 : Int) < (m : Int)) = false := by simp; omega
  go_enter Tryd.func4, Tryd.ntmps4
  go_wp2
  go_ret
  exact ⟨rfl, rfl⟩
theorem r8At_any (A : Option Addr) (n c : Nat) (i m : Int) (w : World) (hb : Byt w A n) (hi : 0 ≤ i) (hi2 : i ≤ 1000) (h1 : 2 ≤ m) (h2 : m ≤ 1000000) :
    Calls Tryd.prog 8 #[.slice A n c, .int .i64 i, .int .i64 m] w fun e w' => ∃ x : Int, e = .returned (.int .i64 x) ∧ 0 ≤ x ∧ x < m ∧ w = w' := by
  have e0 : decide (m ≤ 1) = false := by simp; omega
  by_cases hlt : i < n
  · have hlt2 : i.toNat < n := by omega
    rcases hb with hb | ⟨b, o, rfl, hb⟩
    · omega
    obtain ⟨x, hx, hx0, hx1⟩ := hb _ hlt2
    have e1 : decide ((n : Int) ≤ i) = false := by simp; omega
    have hm0 : ¬ m = 0 := by omega
    have b0 : 0 ≤ x % m := Int.emod_nonneg _ hm0
    have b1 : x % m < m := Int.emod_lt_of_pos _ (by omega)
    have e2 : x.tmod m = x % m := Int.tmod_eq_emod_of_nonneg hx0
    have e3 : IntKind.i64.wrap x = x := IntWalk.i64_in _ (by omega)
    clear hb
    go_enter Tryd.func8, Tryd.ntmps8
    go_wp2
    go_ret
    exact ⟨_, rfl, b0, b1, rfl⟩
  · have e1 : decide ((n : Int) ≤ i) = true := by simp; omega
    go_enter Tryd.func8, Tryd.ntmps8
    go_wp2
    go_ret
    exact ⟨0, rfl, by omega, by omega, rfl⟩

theorem validRule_true (r : SR) (h : r.Ok) (w : World) : Calls Tryd.prog 10 #[r.cell] w fun e w' => e = .returned (.bool true) ∧ Below w.heap.size w w' := by
  obtain ⟨a1, a2, a3, a4, a5, a6, a7, a8, a9⟩ := h
  obtain ⟨s, l, m, k, p⟩ := r
  simp only at a1 a2 a3 a4 a5 a6 a7 a8 a9
  have e1 : decide (1 ≤ s) = true := by simpa
  have e2 : decide (s ≤ 24) = true := by simp; omega
  have e3 : decide (0 ≤ l) = true := by simpa
  have e4 : decide (l ≤ m) = true := by simpa
  have e5 : decide (m ≤ s) = true := by simpa
  have e6 : decide (1 ≤ k) = true := by simpa
  have e7 : decide (k ≤ s) = true := by simpa
  have e8 : decide (1 ≤ p) = true := by simpa
  have e9 : decide (p ≤ s) = true := by simpa
  unfold SR.cell
  simp only
  go_enter Tryd.func10, Tryd.ntmps10
  go_wp2
  go_ret
  exact ⟨rfl, (Below.refl _ _).alloc (Nat.le_refl _) _⟩
end Go.Proofs.YteiofihgpalkiaaDoor
