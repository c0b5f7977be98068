/- The walks of shifts: what the law itself asks of a text. -/
import Derived.Test.YteiofihgpalkiaaDoorShG
namespace Go.Proofs.YteiofihgpalkiaaDoor
open Go Go.RowKit
set_option maxRecDepth 100000

theorem run_at_bts (t : List Bool) (k : Nat) (β : Bool) (h : t[k]? = some β) (hl : t.length ≤ 1000) (w : World) : (Instr.index 9 (.string (bts t)) (.int .i64 (k : Int))).run Tryd.prog w = .ok (.int .u8 (if β then 119 else 46)) w := by
  obtain ⟨hk, hv⟩ := List.getElem?_eq_some_iff.1 h
  have hs := bts_size t
  rw [run_index_string (P := Tryd.prog) w 9 (bts t) .i64 (k : Int) Tryd.underlying9, dif_pos (by omega)]
  congr 2
  have e : (bts t)[((k : Int)).toNat]'(by omega) = if β then (119 : UInt8) else 46 := by
    simp only [bts, Int.toNat_natCast]
    show ((t.map fun b => if b then (119 : UInt8) else 46).toArray)[k]'_ = _
    simp [hv]
  rw [e]
  cases β <;> rfl

theorem r8Shift_any (r : SR) (hr : r.Ok) (t : List Bool) (ht : t.length ≤ 8) (w : World) : Calls Tryd.prog 13 #[r.cell, .string (bts t)] w fun e w' => e = .returned (.bool (r8go r t 0 0 0)) ∧ Below w.heap.size w w' := by
  have hix := fun k β h w => run_at_bts t k β h (by omega) w
  have HIX := Lib.hid hix
  clear hix
  have hsz := bts_size t
  obtain ⟨s0, l, m, q, p⟩ := r
  unfold SR.cell
  simp only
  go_enter Tryd.func13, Tryd.ntmps13
  have HR : Below w.heap.size w (w.alloc (.cells #[.int .i64 s0, .int .i64 l, .int .i64 m, .int .i64 q, .int .i64 p] 25)) := (Below.refl _ _).alloc (Nat.le_refl _) _
  have B := Rw.new w 25 #[.int .i64 s0, .int .i64 l, .int .i64 m, .int .i64 q, .int .i64 p]
  go_upto_region 5 with fail
  generalize w.alloc (.cells #[.int .i64 s0, .int .i64 l, .int .i64 m, .int .i64 q, .int .i64 p] 25) = w1 at HR B ⊢
  have f0 := B.cell 0
  have f1 := B.cell 1
  have f2 := B.cell 2
  have f3 := B.cell 3
  have f4 := B.cell 4
  simp at f0 f1 f2 f3 f4
  go_loopg [5, 6, 7, 8] t.length (fun gk s5 s6 s7 s8 wr => ∃ (k : Nat) (wk rw fr : Int), gk = t.length - k ∧ k ≤ t.length ∧ s8 = .int .i64 k ∧ s5 = .int .i64 wk ∧ s6 = .int .i64 rw ∧ s7 = .int .i64 fr ∧ 0 ≤ wk ∧ wk ≤ k ∧ 0 ≤ rw ∧ rw ≤ k ∧ 0 ≤ fr ∧ fr ≤ k ∧ r8go ⟨s0, l, m, q, p⟩ t 0 0 0 = r8go ⟨s0, l, m, q, p⟩ (t.drop k) wk rw fr ∧ w1 = wr)
  case atStart => exact ⟨0, 0, 0, 0, rfl, by omega, rfl, rfl, rfl, rfl, by omega, by omega, by omega, by omega, by omega, by omega, rfl, rfl⟩
  case round =>
    obtain ⟨k, wk, rw, fr, hgk, hk, rfl, rfl, rfl, rfl, a0, a1, b0, b1, c0, c1, hrec, rfl⟩ := hrel
    have HG := Lib.hid hgk
    clear hgk
    by_cases hlt : k < t.length
    · rw [List.drop_eq_getElem_cons hlt] at hrec
      have hx := HIX.out k t[k] (by simp [hlt])
      generalize t[k] = β at hx hrec
      cases β
      · simp only [Bool.false_eq_true, if_false] at hx
        simp only [r8go] at hrec
        have HREC := Lib.hid hrec
        clear hrec
        go_wp2
        go_roundg (t.length - (k + 1))
        case measure => have := HG.out; omega
        case rel => exact ⟨k + 1, wk, 0, fr + 1, rfl, by omega, by go_num, rfl, rfl, by go_num, by omega, by omega, by omega, by omega, by omega, by omega, HREC.out, rfl⟩
      · simp only [if_true] at hx
        simp only [r8go] at hrec
        by_cases x1 : 0 < wk ∧ 0 < fr ∧ fr < p
        · rw [if_pos x1] at hrec
          obtain ⟨y1, y2, y3⟩ := x1
          have z1 : decide (0 < wk) = true := by simpa
          have z2 : decide (0 < fr) = true := by simpa
          have z3 : decide (fr < p) = true := by simpa
          have HREC := Lib.hid hrec
          clear hrec
          go_wp2
          go_ret
          exact ⟨by rw [HREC.out]; rfl, HR⟩
        · rw [if_neg x1] at hrec
          have HREC := Lib.hid hrec
          clear hrec
          have hguard : decide (0 < wk) = false ∨ (decide (0 < wk) = true ∧ decide (0 < fr) = false) ∨ (decide (0 < wk) = true ∧ decide (0 < fr) = true ∧ decide (fr < p) = false) := by
            by_cases y1 : 0 < wk
            · by_cases y2 : 0 < fr
              · exact .inr (.inr ⟨by simpa, by simpa, by simp; exact Int.not_lt.1 (fun h => x1 ⟨y1, y2, h⟩)⟩)
              · exact .inr (.inl ⟨by simpa, by simpa using y2⟩)
            · exact .inl (by simpa using y1)
          clear x1
          by_cases x2 : q < rw + 1
          · have z4 : decide (q < rw + 1) = true := by simpa
            have HX := HREC.out
            rw [if_pos x2] at HX
            have HY := Lib.hid HX
            clear HX
            rcases hguard with z1 | ⟨z1, z2⟩ | ⟨z1, z2, z3⟩ <;> (go_wp2; go_ret; exact ⟨by rw [HY.out]; rfl, HR⟩)
          · have z4 : decide (q < rw + 1) = false := by simpa using x2
            have HX := HREC.out
            rw [if_neg x2] at HX
            have HY := Lib.hid HX
            clear HX
            rcases hguard with z1 | ⟨z1, z2⟩ | ⟨z1, z2, z3⟩
            all_goals go_wp2
            all_goals go_roundg (t.length - (k + 1))
            all_goals first
              | (have := HG.out; omega)
              | exact ⟨k + 1, wk + 1, rw + 1, 0, rfl, by omega, by go_num, by go_num, by go_num, rfl, by omega, by omega, by omega, by omega, by omega, by omega, HY.out, rfl⟩
    · have hkk : k = t.length := by omega
      subst hkk
      rw [List.drop_length] at hrec
      simp only [r8go] at hrec
      have HREC := Lib.hid hrec
      clear hrec
      by_cases y1 : l ≤ wk
      · have z1 : decide (l ≤ wk) = true := by simpa
        by_cases y2 : wk ≤ m
        · have z2 : decide (wk ≤ m) = true := by simpa
          go_wp2
          go_ret
          exact ⟨by rw [HREC.out, z1, z2]; rfl, HR⟩
        · have z2 : decide (wk ≤ m) = false := by simpa using y2
          go_wp2
          go_ret
          exact ⟨by rw [HREC.out, z1, z2]; rfl, HR⟩
      · have z1 : decide (l ≤ wk) = false := by simpa using y1
        go_wp2
        go_ret
        exact ⟨by rw [HREC.out, z1]; rfl, HR⟩
end Go.Proofs.YteiofihgpalkiaaDoor
