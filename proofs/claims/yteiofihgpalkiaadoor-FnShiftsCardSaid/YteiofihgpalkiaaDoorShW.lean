/- The walks of shifts: lists in bounds, the greatest of a list. -/
import Derived.Test.YteiofihgpalkiaaDoorShN
namespace Go.Proofs.YteiofihgpalkiaaDoor
open Go Go.RowKit
set_option maxRecDepth 100000

theorem areWithin_true (b c : Nat) (l : List Int) (lo hi : Int) (w : World) (hr : RdI w b 0 l) (hl : l.length ≤ 1000) (h : ∀ j, j < l.length → lo ≤ gi l j ∧ gi l j ≤ hi) :
    Calls Tryd.prog 33 #[.slice (some ⟨b, 0, none⟩) l.length c, .int .i64 lo, .int .i64 hi] w fun e w' => e = .returned (.bool true) ∧ w = w' := by
  have HR := Lib.hid hr
  have HH := Lib.hid h
  clear hr h
  go_enter Tryd.func33, Tryd.ntmps33
  go_wp2
  go_loop [11] (fun s11 => ∃ k : Nat, k ≤ l.length ∧ s11 = .int .i64 k) (fun s11 => l.length - (intOf s11).toNat)
  case atStart => exact ⟨0, by omega, rfl⟩
  case round =>
    obtain ⟨k, hk, rfl⟩ := hrel
    by_cases hlt : k < l.length
    · have hc := HR.out k hlt
      rw [Nat.zero_add] at hc
      obtain ⟨h1, h2⟩ := HH.out k hlt
      generalize gi l k = x at *
      have e1 : decide (lo ≤ x) = true := by simpa
      have e2 : decide (x ≤ hi) = true := by simpa
      go_wp2
      go_round
      case rel => exact ⟨k + 1, by omega, by go_num⟩
      case measure => simp [intOf]; omega
    · go_wp2
      go_ret
      exact ⟨rfl, rfl⟩
theorem areMany_true (b c : Nat) (l : List Int) (n : Nat) (lo hi : Int) (w : World) (hr : RdI w b 0 l) (hl : l.length ≤ 1000) (hn : l.length = n) (h : ∀ j, j < l.length → lo ≤ gi l j ∧ gi l j ≤ hi) :
    Calls Tryd.prog 27 #[.slice (some ⟨b, 0, none⟩) l.length c, .int .i64 n, .int .i64 n, .int .i64 lo, .int .i64 hi] w fun e w' => e = .returned (.bool true) ∧ w = w' := by
  have c1 := Lib.hid (areWithin_true b c l lo hi w hr hl h)
  subst hn
  have e1 : decide ((l.length : Int) ≤ (l.length : Int)) = true := by simp
  clear hr h
  go_enter Tryd.func27, Tryd.ntmps27
  go_wp2_with (go_at_call 33; (with_reducible refine c1.out.mono ?_); rintro e w' ⟨rfl, rfl⟩)
  go_ret
  exact ⟨rfl, rfl⟩
theorem max_any (b c : Nat) (l : List Int) (w : World) (hr : RdI w b 0 l) (hl : l.length ≤ 1000) (h0 : 0 < l.length) :
    Calls Tryd.prog 29 #[.slice (some ⟨b, 0, none⟩) l.length c] w fun e w' => ∃ m : Int, e = .returned (.int .i64 m) ∧ (∀ j, j < l.length → gi l j ≤ m) ∧ (∃ j, j < l.length ∧ gi l j = m) ∧ Drew w w' := by
  have HR := Lib.hid hr
  have e0 : decide ((l.length : Int) < 1) = false := by simp; omega
  have c0 := hr 0 h0
  rw [Nat.zero_add] at c0
  clear hr
  go_enter Tryd.func29, Tryd.ntmps29
  go_upto_region 5 with fail
  go_loopg [3, 4] l.length (fun gk s3 s4 wr => ∃ (k : Nat) (m : Int), gk = l.length + 1 - k ∧ 1 ≤ k ∧ k ≤ l.length ∧ s4 = .int .i64 k ∧ s3 = .int .i64 m ∧ (∀ j, j < k → gi l j ≤ m) ∧ (∃ j, j < l.length ∧ gi l j = m) ∧ Drew w wr)
  case atStart =>
    refine ⟨1, gi l 0, by omega, by omega, by omega, rfl, rfl, ?_, ⟨0, h0, rfl⟩, Drew.refl w⟩
    intro j hj
    rw [show j = 0 by omega]
    exact Int.le_refl _
  case round =>
    obtain ⟨k, m, hgk, hk1, hk, rfl, rfl, hm1, hm2, hd⟩ := hrel
    have HG := Lib.hid hgk
    have HM1 := Lib.hid hm1
    have HM2 := Lib.hid hm2
    clear hgk hm1 hm2
    by_cases hlt : k < l.length
    · have hc := HR.out k hlt
      rw [Nat.zero_add] at hc
      rw [← hd.cell] at hc
      obtain ⟨x, hx⟩ : ∃ x, gi l k = x := ⟨_, rfl⟩
      rw [hx] at hc
      have HX := Lib.hid hx
      clear hx
      go_wp2
      go_roundg (l.length + 1 - (k + 1))
      case measure => have := HG.out; omega
      case rel => exact ⟨k + 1, max m x, rfl, by omega, by omega, by go_num, rfl, fun j hj => by
          by_cases h : j < k
          · have := HM1.out j h; omega
          · obtain rfl : j = k := by omega
            rw [HX.out]; omega, by
          by_cases h : m ≤ x
          · exact ⟨k, hlt, by rw [HX.out]; omega⟩
          · obtain ⟨j, hj, hjm⟩ := HM2.out
            exact ⟨j, hj, by rw [hjm]; omega⟩, hd⟩
    · obtain rfl : k = l.length := by omega
      go_wp2
      go_ret
      exact ⟨m, rfl, HM1.out, HM2.out, hd⟩
end Go.Proofs.YteiofihgpalkiaaDoor
