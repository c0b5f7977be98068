/- The walks of shifts: is a text a shift; the shift behind one. -/
import Derived.Test.YteiofihgpalkiaaDoorShS
import Derived.Test.YteiofihgpalkiaaDoorShO
namespace Go.Proofs.YteiofihgpalkiaaDoor
open Go Go.RowKit
set_option maxRecDepth 100000

theorem isShift_any (r : SR) (hr : r.Ok) (t : List Bool) (ht : (t.length : Int) = r.slots) (w : World) :
    Calls Tryd.prog 11 #[r.cell, .string (bts t)] w fun e w' => e = .returned (.tuple #[.bool (acc r t ⟨0, 0, 0, 0, false⟩), .bool true]) ∧ Below w.heap.size w w' := by
  have c1 := fun w => validRule_true r hr w
  have c2 := fun w => states_any r hr t ht w
  unfold SR.cell at c1 c2 ⊢
  have C1 := Lib.hid c1
  have C2 := Lib.hid c2
  clear c1 c2 ht
  go_enter Tryd.func11, Tryd.ntmps11
  go_wp2_with fail
  refine (C1.out _).mono ?_
  rintro e w1 ⟨rfl, hb1⟩
  have B0 := (Rw.new w 25 #[.int .i64 r.slots, .int .i64 r.least, .int .i64 r.most, .int .i64 r.row, .int .i64 r.pause]).below hb1
  have W1 : Below w.heap.size w w1 := ((Below.refl _ _).alloc (Nat.le_refl _) _).trans (hb1.mono (by simp))
  clear hb1
  have f0 := B0.cell 0
  have f1 := B0.cell 1
  have f2 := B0.cell 2
  have f3 := B0.cell 3
  have f4 := B0.cell 4
  simp at f0 f1 f2 f3 f4
  go_wp2_with fail
  refine (C2.out _).mono ?_
  rintro e w2 ⟨v, rfl, _, hb2⟩
  have W2 : Below w.heap.size w w2 := W1.trans (hb2.mono W1.size)
  go_wp2_with fail
  go_ret2
  exact ⟨rfl, W2⟩

/-- the states of a text lie in block g -/
def RdT (w : World) (g : Nat) (l : List St) : Prop := ∀ (j : Nat) (s : St), l[j]? = some s → w.cell? ⟨g, j * 5, none⟩ = some (.int .i64 s.slot) ∧ w.cell? ⟨g, j * 5 + 1, none⟩ = some (.int .i64 s.worked) ∧ w.cell? ⟨g, j * 5 + 2, none⟩ = some (.int .i64 s.row) ∧ w.cell? ⟨g, j * 5 + 3, none⟩ = some (.int .i64 s.pause) ∧ w.cell? ⟨g, j * 5 + 4, none⟩ = some (.bool s.begun)
theorem csts_get : ∀ (l : List St) (j : Nat) (s : St) (i : Nat), l[j]? = some s → i < 5 → (csts l)[j * 5 + i]? = (cst s)[i]? := by
  intro l
  induction l with
  | nil => intro j s i h; simp at h
  | cons a l ih =>
    intro j s i h hi
    have e : csts (a :: l) = cst a ++ csts l := by simp [csts]
    have e5 : (cst a).length = 5 := rfl
    rw [e]
    cases j with
    | zero =>
      simp only [List.getElem?_cons_zero, Option.some.injEq] at h
      subst h
      rw [Nat.zero_mul, Nat.zero_add, List.getElem?_append_left (by omega)]
    | succ j =>
      rw [List.getElem?_append_right (by rw [e5, Nat.succ_mul]; omega), e5]
      have := ih j s i (by simpa using h) hi
      rw [← this]
      congr 1
      rw [Nat.succ_mul]
      omega
theorem OwnT.new {w : World} {B : Nat} {v : Value} {l : List St} (h : OwnT w B v l) (hne : v ≠ .slice none 0 0) : ∃ g cap, v = .slice (some ⟨g, 0, none⟩) l.length cap ∧ B ≤ g ∧ g < w.heap.size ∧ RdT w g l := by
  rcases h.2 with ⟨rfl, _⟩ | ⟨g, cap, cur, rfl, hb, hh, hn, hc, hs, ht⟩
  · exact absurd rfl hne
  · refine ⟨g, cap, rfl, hb, heap_lt hh, fun j s hj => ?_⟩
    have hx := fun i (hi : i < 5) u (hu : (cst s)[i]? = some u) => by
      have := h.cells (g := g) rfl (j * 5 + i) u (by rw [csts_get l j s i hj hi]; exact hu)
      rw [addLit, Nat.zero_add] at this
      exact this
    exact ⟨hx 0 (by omega) _ rfl, hx 1 (by omega) _ rfl, hx 2 (by omega) _ rfl, hx 3 (by omega) _ rfl, hx 4 (by omega) _ rfl⟩
theorem RdT.fr {C : Nat → Prop} {w w' : World} {g : Nat} {l : List St} (h : RdT w g l) (hf : Fr C w w') (hn : ¬ C g) : RdT w' g l := fun j s hj => by
  obtain ⟨h0, h1, h2, h3, h4⟩ := h j s hj
  exact ⟨hf.cell h0 hn, hf.cell h1 hn, hf.cell h2 hn, hf.cell h3 hn, hf.cell h4 hn⟩
theorem bts_take (t : List Bool) (k : Nat) : (bts t).extract 0 k = bts (t.take k) := by
  apply ByteArray.ext
  simp [bts, ByteArray.extract, ByteArray.copySlice]
end Go.Proofs.YteiofihgpalkiaaDoor
