/- The walks of shifts: R8Rule, and the state behind a slot. -/
import Derived.Test.YteiofihgpalkiaaDoorShB
namespace Go.Proofs.YteiofihgpalkiaaDoor
open Go Go.RowKit

theorem r8Rule_any (A : Option Addr) (n c : Nat) (w : World) (hb : Byt w A n) (hn : n ≤ 9223372036854775807) :
    Calls Tryd.prog 5 #[.slice A n c] w fun e w' => ∃ r : SR, e = .returned r.cell ∧ r.Ok ∧ Below w.heap.size w w' := by
  go_enter Tryd.func5, Tryd.ntmps5
  go_wp2_with fail
  have B0 := Rw.new w 25 #[.int .i64 0, .int .i64 0, .int .i64 0, .int .i64 0, .int .i64 0]
  have W0 : Below w.heap.size w (w.alloc (.cells #[.int .i64 0, .int .i64 0, .int .i64 0, .int .i64 0, .int .i64 0] 25)) := (Below.refl _ _).alloc (Nat.le_refl _) _
  generalize (w.alloc (.cells #[.int .i64 0, .int .i64 0, .int .i64 0, .int .i64 0, .int .i64 0] 25)) = w0 at B0 W0 ⊢
  have hb0 : Byt w0 A n := by
    rcases hb with h | ⟨b, o, hA, h⟩
    · exact .inl h
    · refine .inr ⟨b, o, hA, fun j hj => ?_⟩
      obtain ⟨x, hx, hx0, hx1⟩ := h j hj
      exact ⟨x, by rw [W0.cell (lt_of_cell hx)]; exact hx, hx0, hx1⟩
  refine (from_any A n c _ hb0 hn).mono ?_
  rintro e w1 ⟨g, rfl, hs, hb1, hg1, hg2⟩
  have B1 := B0.below hb1
  have W1 : Below w.heap.size w w1 := W0.trans (hb1.mono W0.size)
  have hR := B0.lt
  go_wp2_with fail
  refine (drawRule_any w0.heap.size g A n c 0 _ hs (by omega) (by omega) hb1.size).mono ?_
  rintro e w2 ⟨r, rfl, hr, hg⟩
  have B2 := B1.gb hg (by simp; omega)
  have W2 : Below w.heap.size w w2 := W1.grown hg W1.size (fun k e => by injection e; have := W0.size; omega)
  clear B1 W1 hs hb1 hg B0 W0 hb hb0
  have r0 := B2.cell 0
  have r1 := B2.cell 1
  have r2 := B2.cell 2
  have r3 := B2.cell 3
  have r4 := B2.cell 4
  have z0 := B2.fz 0
  have z1 := B2.fz 1
  have z2 := B2.fz 2
  have z3 := B2.fz 3
  have z4 := B2.fz 4
  simp at r0 r1 r2 r3 r4
  obtain ⟨s, l, m, k, p⟩ := r
  have B5 := ((((B2.set_ 0 (.int .i64 s)).set_ 1 (.int .i64 l)).set_ 2 (.int .i64 m)).set_ 3 (.int .i64 k)).set_ 4 (.int .i64 p)
  have W5 := ((((W2.setCell (p := ⟨w.heap.size, 0, none⟩) (Nat.le_refl _) (.int .i64 s)).setCell (p := ⟨w.heap.size, 1, none⟩) (Nat.le_refl _) (.int .i64 l)).setCell (p := ⟨w.heap.size, 2, none⟩) (Nat.le_refl _) (.int .i64 m)).setCell (p := ⟨w.heap.size, 3, none⟩) (Nat.le_refl _) (.int .i64 k)).setCell (p := ⟨w.heap.size, 4, none⟩) (Nat.le_refl _) (.int .i64 p)
  unfold SR.cell
  simp only
  go_wp2
  generalize ((((w2.setCell ⟨w.heap.size, 0, none⟩ (.int .i64 s)).setCell ⟨w.heap.size, 1, none⟩ (.int .i64 l)).setCell ⟨w.heap.size, 2, none⟩ (.int .i64 m)).setCell ⟨w.heap.size, 3, none⟩ (.int .i64 k)).setCell ⟨w.heap.size, 4, none⟩ (.int .i64 p) = wb at B5 W5 ⊢
  clear r0 r1 r2 r3 r4 z0 z1 z2 z3 z4 B2 W2
  simp at B5
  have d0 := B5.cell 0
  have d1 := B5.cell 1
  have d2 := B5.cell 2
  have d3 := B5.cell 3
  have d4 := B5.cell 4
  simp at d0 d1 d2 d3 d4
  exact bodyPost_ret (v := SR.cell ⟨s, l, m, k, p⟩) (by simp [results, Tryd.results5, go_sem, SR.cell, d0, d1, d2, d3, d4]) rfl ⟨⟨s, l, m, k, p⟩, rfl, hr, W5⟩

set_option maxHeartbeats 1000000 in
theorem next_state (r : SR) (s : St) (b : Bool) (w : World) (hr : r.Ok) (hs : s.Ok) :
    Calls Tryd.prog 25 #[r.cell, s.cell, .bool b] w fun e w' => ∃ t : St, e = .returned (.tuple #[t.cell, .bool (nxt r s b).isSome]) ∧ (∀ t', nxt r s b = some t' → t = t') ∧ Below w.heap.size w w' := by
  obtain ⟨a1, a2, a3, a4, a5, a6, a7, a8, a9⟩ := hr
  obtain ⟨b1, b2, b3, b4, b5, b6, b7, b8⟩ := hs
  obtain ⟨s0, l, m, k, p⟩ := r
  obtain ⟨t0, t1, t2, t3, t4⟩ := s
  simp only at a1 a2 a3 a4 a5 a6 a7 a8 a9 b1 b2 b3 b4 b5 b6 b7 b8
  unfold SR.cell St.cell
  simp only
  by_cases c0 : t0 = s0
  · subst c0
    have hx : nxt ⟨t0, l, m, k, p⟩ ⟨t0, t1, t2, t3, t4⟩ b = none := by simp [nxt]
    have HX := Lib.hid hx
    clear hx
    go_enter Tryd.func25, Tryd.ntmps25
    go_wp2
    exact bodyPost_ret (v := .tuple #[St.cell ⟨t0, t1, t2, t3, t4⟩, .bool false]) (by simp [results, Tryd.results25, go_sem, St.cell]) rfl ⟨⟨t0, t1, t2, t3, t4⟩, by rw [HX.out]; rfl, by rw [HX.out]; simp, (((Below.refl _ _).alloc (Nat.le_refl _) _).alloc (by simp) _).alloc (by simp; omega) _⟩
  · have e0 : (t0 == s0) = false := by simpa using c0
    cases b
    · by_cases c1 : t3 + 1 ≤ p
      · have hx : nxt ⟨s0, l, m, k, p⟩ ⟨t0, t1, t2, t3, t4⟩ false = some ⟨t0 + 1, t1, 0, t3 + 1, t4⟩ := by simp only [nxt, if_neg c0]; simp; omega
        have HX := Lib.hid hx
        clear hx
        go_enter Tryd.func25, Tryd.ntmps25
        go_wp2
        exact bodyPost_ret (v := .tuple #[St.cell ⟨t0 + 1, t1, 0, t3 + 1, t4⟩, .bool true]) (by simp [results, Tryd.results25, go_sem, St.cell]) rfl ⟨⟨t0 + 1, t1, 0, t3 + 1, t4⟩, by rw [HX.out]; rfl, by rw [HX.out]; simp, (((Below.refl _ _).alloc (Nat.le_refl _) _).alloc (by simp) _).alloc (by simp; omega) _⟩
      · have hx : nxt ⟨s0, l, m, k, p⟩ ⟨t0, t1, t2, t3, t4⟩ false = some ⟨t0 + 1, t1, 0, p, t4⟩ := by simp only [nxt, if_neg c0]; simp; omega
        have HX := Lib.hid hx
        clear hx
        go_enter Tryd.func25, Tryd.ntmps25
        go_wp2
        exact bodyPost_ret (v := .tuple #[St.cell ⟨t0 + 1, t1, 0, p, t4⟩, .bool true]) (by simp [results, Tryd.results25, go_sem, St.cell]) rfl ⟨⟨t0 + 1, t1, 0, p, t4⟩, by rw [HX.out]; rfl, by rw [HX.out]; simp, (((Below.refl _ _).alloc (Nat.le_refl _) _).alloc (by simp) _).alloc (by simp; omega) _⟩
    · by_cases c1 : t4 = true ∧ t2 = 0 ∧ t3 < p
      · obtain ⟨rfl, rfl, c13⟩ := c1
        have e3 : decide (t3 < p) = true := by simpa
        have hx : nxt ⟨s0, l, m, k, p⟩ ⟨t0, t1, 0, t3, true⟩ true = none := by simp [nxt, c13]
        have HX := Lib.hid hx
        clear hx
        go_enter Tryd.func25, Tryd.ntmps25
        go_wp2
        exact bodyPost_ret (v := .tuple #[St.cell ⟨t0 + 1, t1, 0, t3, true⟩, .bool false]) (by simp [results, Tryd.results25, go_sem, St.cell]) rfl ⟨⟨t0 + 1, t1, 0, t3, true⟩, by rw [HX.out]; rfl, by rw [HX.out]; simp, (((Below.refl _ _).alloc (Nat.le_refl _) _).alloc (by simp) _).alloc (by simp; omega) _⟩
      · cases t4 with
        | false =>
          by_cases c2 : t2 = k
          · have e5 : (t2 == k) = true := by simpa using c2
            have hx : nxt ⟨s0, l, m, k, p⟩ ⟨t0, t1, t2, t3, false⟩ true = none := by simp [nxt, c2]
            clear c2
            have HX := Lib.hid hx
            clear hx
            go_enter Tryd.func25, Tryd.ntmps25
            go_wp2
            exact bodyPost_ret (v := .tuple #[St.cell ⟨t0 + 1, t1, t2, t3, false⟩, .bool false]) (by simp [results, Tryd.results25, go_sem, St.cell]) rfl ⟨⟨t0 + 1, t1, t2, t3, false⟩, by rw [HX.out]; rfl, by rw [HX.out]; simp, (((Below.refl _ _).alloc (Nat.le_refl _) _).alloc (by simp) _).alloc (by simp; omega) _⟩
          · have e5 : (t2 == k) = false := by simpa using c2
            by_cases c3 : t1 = m
            · have e6 : (t1 == m) = true := by simpa using c3
              have hx : nxt ⟨s0, l, m, k, p⟩ ⟨t0, t1, t2, t3, false⟩ true = none := by simp [nxt, c3]
              clear c3
              have HX := Lib.hid hx
              clear hx
              go_enter Tryd.func25, Tryd.ntmps25
              go_wp2
              exact bodyPost_ret (v := .tuple #[St.cell ⟨t0 + 1, t1, t2, t3, false⟩, .bool false]) (by simp [results, Tryd.results25, go_sem, St.cell]) rfl ⟨⟨t0 + 1, t1, t2, t3, false⟩, by rw [HX.out]; rfl, by rw [HX.out]; simp, (((Below.refl _ _).alloc (Nat.le_refl _) _).alloc (by simp) _).alloc (by simp; omega) _⟩
            · have e6 : (t1 == m) = false := by simpa using c3
              have hx : nxt ⟨s0, l, m, k, p⟩ ⟨t0, t1, t2, t3, false⟩ true = some ⟨t0 + 1, t1 + 1, t2 + 1, 0, true⟩ := by simp only [nxt, if_neg c0, if_true]; rw [if_neg]; rintro (h | h | h) <;> simp_all
              have HX := Lib.hid hx
              clear hx
              go_enter Tryd.func25, Tryd.ntmps25
              go_wp2
              exact bodyPost_ret (v := .tuple #[St.cell ⟨t0 + 1, t1 + 1, t2 + 1, 0, true⟩, .bool true]) (by simp [results, Tryd.results25, go_sem, St.cell]) rfl ⟨⟨t0 + 1, t1 + 1, t2 + 1, 0, true⟩, by rw [HX.out]; rfl, by rw [HX.out]; simp, (((Below.refl _ _).alloc (Nat.le_refl _) _).alloc (by simp) _).alloc (by simp; omega) _⟩
        | true =>
          by_cases c4 : t2 = 0
          · have e4 : (t2 == 0) = true := by simpa using c4
            have e3 : decide (t3 < p) = false := by simp; exact Int.not_lt.1 (fun h => c1 ⟨rfl, c4, h⟩)
            have c4' : ¬ t3 < p := fun h => c1 ⟨rfl, c4, h⟩
            have C4 := Lib.hid c4
            clear c4 c1
            by_cases c2 : t2 = k
            · have e5 : (t2 == k) = true := by simpa using c2
              have hx : nxt ⟨s0, l, m, k, p⟩ ⟨t0, t1, t2, t3, true⟩ true = none := by simp [nxt, c2]
              clear c2
              have HX := Lib.hid hx
              clear hx
              go_enter Tryd.func25, Tryd.ntmps25
              go_wp2
              exact bodyPost_ret (v := .tuple #[St.cell ⟨t0 + 1, t1, t2, t3, true⟩, .bool false]) (by simp [results, Tryd.results25, go_sem, St.cell]) rfl ⟨⟨t0 + 1, t1, t2, t3, true⟩, by rw [HX.out]; rfl, by rw [HX.out]; simp, (((Below.refl _ _).alloc (Nat.le_refl _) _).alloc (by simp) _).alloc (by simp; omega) _⟩
            · have e5 : (t2 == k) = false := by simpa using c2
              by_cases c3 : t1 = m
              · have e6 : (t1 == m) = true := by simpa using c3
                have hx : nxt ⟨s0, l, m, k, p⟩ ⟨t0, t1, t2, t3, true⟩ true = none := by simp [nxt, c3]
                clear c3
                have HX := Lib.hid hx
                clear hx
                go_enter Tryd.func25, Tryd.ntmps25
                go_wp2
                exact bodyPost_ret (v := .tuple #[St.cell ⟨t0 + 1, t1, t2, t3, true⟩, .bool false]) (by simp [results, Tryd.results25, go_sem, St.cell]) rfl ⟨⟨t0 + 1, t1, t2, t3, true⟩, by rw [HX.out]; rfl, by rw [HX.out]; simp, (((Below.refl _ _).alloc (Nat.le_refl _) _).alloc (by simp) _).alloc (by simp; omega) _⟩
              · have e6 : (t1 == m) = false := by simpa using c3
                have hx : nxt ⟨s0, l, m, k, p⟩ ⟨t0, t1, t2, t3, true⟩ true = some ⟨t0 + 1, t1 + 1, t2 + 1, 0, true⟩ := by simp only [nxt, if_neg c0, if_true]; rw [if_neg]; rintro (h | h | h) <;> first | omega | simp_all
                have HX := Lib.hid hx
                clear hx
                go_enter Tryd.func25, Tryd.ntmps25
                go_wp2
                exact bodyPost_ret (v := .tuple #[St.cell ⟨t0 + 1, t1 + 1, t2 + 1, 0, true⟩, .bool true]) (by simp [results, Tryd.results25, go_sem, St.cell]) rfl ⟨⟨t0 + 1, t1 + 1, t2 + 1, 0, true⟩, by rw [HX.out]; rfl, by rw [HX.out]; simp, (((Below.refl _ _).alloc (Nat.le_refl _) _).alloc (by simp) _).alloc (by simp; omega) _⟩
          · have e4 : (t2 == 0) = false := by simpa using c4
            by_cases c2 : t2 = k
            · have e5 : (t2 == k) = true := by simpa using c2
              have hx : nxt ⟨s0, l, m, k, p⟩ ⟨t0, t1, t2, t3, true⟩ true = none := by simp [nxt, c2]
              clear c2
              have HX := Lib.hid hx
              clear hx
              go_enter Tryd.func25, Tryd.ntmps25
              go_wp2
              exact bodyPost_ret (v := .tuple #[St.cell ⟨t0 + 1, t1, t2, t3, true⟩, .bool false]) (by simp [results, Tryd.results25, go_sem, St.cell]) rfl ⟨⟨t0 + 1, t1, t2, t3, true⟩, by rw [HX.out]; rfl, by rw [HX.out]; simp, (((Below.refl _ _).alloc (Nat.le_refl _) _).alloc (by simp) _).alloc (by simp; omega) _⟩
            · have e5 : (t2 == k) = false := by simpa using c2
              by_cases c3 : t1 = m
              · have e6 : (t1 == m) = true := by simpa using c3
                have hx : nxt ⟨s0, l, m, k, p⟩ ⟨t0, t1, t2, t3, true⟩ true = none := by simp [nxt, c3]
                clear c3
                have HX := Lib.hid hx
                clear hx
                go_enter Tryd.func25, Tryd.ntmps25
                go_wp2
                exact bodyPost_ret (v := .tuple #[St.cell ⟨t0 + 1, t1, t2, t3, true⟩, .bool false]) (by simp [results, Tryd.results25, go_sem, St.cell]) rfl ⟨⟨t0 + 1, t1, t2, t3, true⟩, by rw [HX.out]; rfl, by rw [HX.out]; simp, (((Below.refl _ _).alloc (Nat.le_refl _) _).alloc (by simp) _).alloc (by simp; omega) _⟩
              · have e6 : (t1 == m) = false := by simpa using c3
                have hx : nxt ⟨s0, l, m, k, p⟩ ⟨t0, t1, t2, t3, true⟩ true = some ⟨t0 + 1, t1 + 1, t2 + 1, 0, true⟩ := by simp only [nxt, if_neg c0, if_true]; rw [if_neg]; rintro (h | h | h) <;> simp_all
                have HX := Lib.hid hx
                clear hx
                go_enter Tryd.func25, Tryd.ntmps25
                go_wp2
                exact bodyPost_ret (v := .tuple #[St.cell ⟨t0 + 1, t1 + 1, t2 + 1, 0, true⟩, .bool true]) (by simp [results, Tryd.results25, go_sem, St.cell]) rfl ⟨⟨t0 + 1, t1 + 1, t2 + 1, 0, true⟩, by rw [HX.out]; rfl, by rw [HX.out]; simp, (((Below.refl _ _).alloc (Nat.le_refl _) _).alloc (by simp) _).alloc (by simp; omega) _⟩
end Go.Proofs.YteiofihgpalkiaaDoor
