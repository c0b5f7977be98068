/- The walks of shifts: rows of integers with room behind them; a clone that may be written. -/
import Derived.Test.YteiofihgpalkiaaDoorShX
namespace Go.Proofs.YteiofihgpalkiaaDoor
open Go Go.RowKit
set_option maxRecDepth 100000

/-- block T begins with these integers -/
def RwK (w : World) (T : Nat) (l : List Int) : Prop := ∃ cur : Array Value, w.heap[T]? = some (.cells cur 2 (0, 0)) ∧ ∀ j, j < l.length → cur[j]? = some (.int .i64 (gi l j))
section
variable {w w' : World} {T : Nat} {l : List Int}
theorem RwK.cell (h : RwK w T l) {j : Nat} (hj : j < l.length) : w.cell? ⟨T, j, none⟩ = some (.int .i64 (gi l j)) := by
  obtain ⟨cur, hh, hc⟩ := h
  rw [cell_of_row w T j cur _ (0, 0) hh]
  exact hc j hj
theorem RwK.fz (h : RwK w T l) (j : Nat) : w.frozen? ⟨T, j, none⟩ = false := by
  obtain ⟨cur, hh, hc⟩ := h
  simp [World.frozen?, hh]
theorem RwK.lt (h : RwK w T l) : T < w.heap.size := by
  obtain ⟨cur, hh, hc⟩ := h
  exact heap_lt hh
theorem RwK.set_ (h : RwK w T l) (j : Nat) (x : Int) : RwK (w.setCell ⟨T, j, none⟩ (.int .i64 x)) T (l.set j x) := by
  obtain ⟨cur, hh, hc⟩ := h
  refine ⟨_, heap_set _ hh, fun i hi => ?_⟩
  rw [List.length_set] at hi
  rw [gi_set l j x i hi, Array.getElem?_setIfInBounds]
  by_cases e : j = i
  · subst e
    have : j < cur.size := (Array.getElem?_eq_some_iff.1 (hc j hi)).1
    simp [this]
  · rw [if_neg e, if_neg (Ne.symm e)]
    exact hc i hi
theorem RwK.fr {C : Nat → Prop} (h : RwK w T l) (hf : Fr C w w') (hn : ¬ C T) : RwK w' T l := by
  obtain ⟨cur, hh, hc⟩ := h
  exact ⟨cur, hf.heap hh hn, hc⟩
theorem RwK.below (h : RwK w T l) (hb : Below w.heap.size w w') : RwK w' T l := h.fr (C := fun _ => False) (Fr.ofBelow hb) (fun h => h)
theorem RwK.rd (h : RwK w T l) : RdI w T 0 l := fun j hj => by rw [Nat.zero_add]; exact h.cell hj
theorem RwL.k (h : RwL w T l) : RwK w T l := by
  obtain ⟨c, hh, hs, hc⟩ := h
  exact ⟨c, hh, hc⟩
theorem OwnI.k {B : Nat} {v : Value} (h : OwnI w B v l) (hne : v ≠ .slice none 0 0) : ∃ g cap, v = .slice (some ⟨g, 0, none⟩) l.length cap ∧ B ≤ g ∧ RwK w g l := by
  rcases h.2 with ⟨rfl, _⟩ | ⟨g, cap, cur, rfl, hb, hh, hn, hc, hs, ht⟩
  · exact absurd rfl hne
  · refine ⟨g, cap, rfl, hb, cur, hh, fun j hj => ?_⟩
    have h1 := h.cells (g := g) rfl j _ (ci_get l j hj)
    rw [addLit, Nat.zero_add, cell_of_row w g j cur _ (0, 0) hh] at h1
    exact h1
end
theorem clone_own (b c : Nat) (l : List Int) (w : World) (hr : RdI w b 0 l) (hl : l.length ≤ 1000000) :
    Calls Tryd.prog 28 #[.slice (some ⟨b, 0, none⟩) l.length c] w fun e w' => ∃ g cap, e = .returned (.slice (some ⟨g, 0, none⟩) l.length cap) ∧ w.heap.size ≤ g ∧ RwK w' g l ∧ Below w.heap.size w w' := by
  have hq := fun (w : World) a n c n' c' => Lib.run_eql_slice_nil (P := Tryd.prog) w 33 2 a n c n' c' Tryd.underlying33
  go_enter Tryd.func28, Tryd.ntmps28
  go_wp2_with (at_builtin; refine wpList_app rfl _ _ rfl w.heap.size (.slice (some ⟨w.heap.size, 0, none⟩) 0 0) [] l rfl (OwnI.made w w.heap.size (Nat.le_refl _)) b 0 c l.length rfl rfl (hr.below ((Below.refl _ _).alloc (Nat.le_refl _) _)) (by simp; omega) (by simp) ?_; intro v w1 hown hg hn)
  go_ret
  have hne : v ≠ .slice none 0 0 := fun e => by have := hn.1 e; simp at this
  rw [List.nil_append] at hown
  obtain ⟨g, cap, rfl, hb, hk⟩ := hown.k hne
  exact ⟨g, cap, rfl, hb, hk, ((Below.refl _ _).alloc (Nat.le_refl _) _).grown hg (by simp) (fun k hk => by simp [Value.ownBlock] at hk; exact Nat.le_of_eq hk)⟩

/-- a number of all is one of them -/
theorem getD_mem (S : List (List Bool)) (j : Nat) (h : j < S.length) : S.getD j [] ∈ S := by simp [h]
theorem psum_pos {l : List Int} (j : Nat) (h : j < l.length) (hp : 0 < gi l j) : 0 < psum l := by
  induction l generalizing j with
  | nil => simp at h
  | cons a l ih =>
    cases j with
    | zero => simp [gi] at hp; simp only [psum]; omega
    | succ j =>
      have := ih j (by simpa using h) (by simpa [gi] using hp)
      simp only [psum]; omega
end Go.Proofs.YteiofihgpalkiaaDoor
