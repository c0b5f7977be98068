/- Lists of integers that the calls make, hand on and look through. -/
import Derived.Test.YteiofihgpalkiaaDoorBase
import Derived.OwnWalk
import Derived.Deep.AppendLies
import Derived.Deep.QuietTactic
import Derived.BigQuiet
namespace Go.Proofs.YteiofihgpalkiaaDoor
open Go Go.RowKit

theorem infoI64 : (Tryd.prog.info? 2).map (fun i => (i.zero, i.size, i.bytes)) = some (some (.int .i64 0), 1, 8) := by kernel_rfl

/-- the cells of a list of integers -/
def ci (l : List Int) : List Value := l.map (.int .i64)
theorem ci_len (l : List Int) : (ci l).length = l.length := by simp [ci]
theorem ci_app (l m : List Int) : ci (l ++ m) = ci l ++ ci m := by simp [ci]
theorem ci_get (l : List Int) (j : Nat) (h : j < l.length) : (ci l)[j]? = some (.int .i64 (gi l j)) := by simp [ci, gi, h]
theorem ci_one (l : List Int) : ∀ u ∈ ci l, u.oneCell' = true := by
  intro u hu
  simp [ci] at hu
  obtain ⟨a, _, rfl⟩ := hu
  rfl
theorem gi_app_l (l m : List Int) (j : Nat) (h : j < l.length) : gi (l ++ m) j = gi l j := by simp [gi, List.getElem?_append_left h]
theorem gi_app_r (l : List Int) (x : Int) : gi (l ++ [x]) l.length = x := by simp [gi]

/-- a slice of integers made since block B: it is not nil -/
def NewI (w : World) (B : Nat) (v : Value) (l : List Int) : Prop := ∃ g cap, v = .slice (some ⟨g, 0, none⟩) l.length cap ∧ B ≤ g ∧ g < w.heap.size ∧ RdI w g 0 l

/-- an owned row of integers -/
abbrev OwnI (w : World) (B : Nat) (v : Value) (l : List Int) : Prop := w.ownsRow B 2 1 v l.length (ci l)
theorem OwnI.new {w : World} {B : Nat} {v : Value} {l : List Int} (h : OwnI w B v l) (hne : v ≠ .slice none 0 0) : NewI w B v l := by
  rcases h.2 with ⟨rfl, _⟩ | ⟨g, cap, cur, rfl, hb, hh, hn, hc, hs, ht⟩
  · exact absurd rfl hne
  · refine ⟨g, cap, rfl, hb, heap_lt hh, fun j hj => ?_⟩
    have := h.cells (g := g) rfl j _ (ci_get l j hj)
    rw [addLit] at this
    exact this
theorem NewI.fr {C : Nat → Prop} {w w' : World} {B : Nat} {v : Value} {l : List Int} (h : NewI w B v l) (hf : Fr C w w') (hC : ∀ k, B ≤ k → ¬ C k) : NewI w' B v l := by
  obtain ⟨g, cap, rfl, hb, hlt, hr⟩ := h
  exact ⟨g, cap, rfl, hb, Nat.lt_of_lt_of_le hlt hf.size, hr.fr hf (hC g hb)⟩
theorem OwnI.made (w : World) (B : Nat) (hB : B ≤ w.heap.size) : OwnI (w.alloc (.cells #[] 2)) B (.slice (some ⟨w.heap.size, 0, none⟩) 0 0) [] :=
  World.ownsRow_made w #[] 0 hB (by simp [maxLen]) (by simp)
theorem RdI.new1 (w : World) (x : Int) (t : TypeId) : RdI (w.alloc (.cells #[.int .i64 x] t)) w.heap.size 0 [x] := by
  intro j hj
  obtain rfl : j = 0 := by simp at hj; omega
  simp [gi]

/-- append of integers that lie at a known place -/
theorem wpList_app {ops : Array Oper} {rest : List Oper} {o : Oper} {a : Act} {w : World} {Q : Exit → Act → World → Prop} (hgd : o.guard = none) (s x : Operand)
    (ho : o.op = .call { callee := .builtin .append, args := #[s, x], argTypes := #[33, 33] }) (base : Nat) (v : Value) (l m : List Int) (hs : a.eval s = v) (hown : OwnI w base v l)
    (b of c n : Nat) (hn : n = m.length) (hx : a.eval x = .slice (some ⟨b, of, none⟩) n c) (hr : RdI w b of m) (hlen : l.length + m.length ≤ 1000000000) (hbase : base ≤ w.heap.size)
    (h : ∀ v' w', OwnI w' base v' (l ++ m) → w.grownBy w' v.ownBlock → (v' = .slice none 0 0 ↔ v = .slice none 0 0 ∧ m.length = 0) → wpList Tryd.prog ops Q rest (a.put o.dst v') w') : wpList Tryd.prog ops Q (o :: rest) a w := by
  obtain ⟨i0, hi0, hz0, hz1, hz2⟩ := info_parts infoI64
  subst hn
  refine wpList_append_own w hgd s x 33 ho base 2 i0 _ 1 8 Tryd.underlying33 hi0 hz0 hz1 hz2 rfl (by decide) v l.length (ci l) hs hown ⟨b, of, none⟩ m.length c (ci m) hx (by simp [ci]) ?_ (ci_one m) (by simp only [maxLen]; omega) (by omega) hbase ?_
  · intro j u hu
    have hj : j < m.length := by
      have := (List.getElem?_eq_some_iff.1 hu).1
      rwa [ci_len] at this
    rw [ci_get m j hj, Option.some.injEq] at hu
    rw [← hu]
    have ha : (⟨b, of, none⟩ : Addr).add j = ⟨b, of + j, none⟩ := addLit b of j
    rw [ha]
    exact hr j hj
  · intro v' w' h1 h2 h3
    have h4 : w'.ownsRow base 2 1 v' (l ++ m).length (ci (l ++ m)) := by
      rw [ci_app, List.length_append]
      exact h1
    exact h v' w' h4 h2 h3

theorem clone_any (b o c : Nat) (l : List Int) (w : World) (hr : RdI w b o l) (hl : l.length ≤ 1000000) :
    Calls Tryd.prog 28 #[.slice (some ⟨b, o, none⟩) l.length c] w fun e w' => ∃ v, e = .returned v ∧ NewI w' w.heap.size v l ∧ Below w.heap.size w w' := by
  have hq := fun (w : World) a n c n' c' => Lib.run_eql_slice_nil (P := Tryd.prog) w 33 2 a n c n' c' Tryd.underlying33
  go_enter Tryd.func28, Tryd.ntmps28
  go_wp2_with (at_builtin; refine wpList_app rfl _ _ rfl w.heap.size (.slice (some ⟨w.heap.size, 0, none⟩) 0 0) [] l rfl (OwnI.made w w.heap.size (Nat.le_refl _)) b o c l.length rfl rfl (hr.below ((Below.refl _ _).alloc (Nat.le_refl _) _)) (by simp; omega) (by simp) ?_; intro v w1 hown hg hn)
  go_ret
  have hne : v ≠ .slice none 0 0 := fun e => by have := hn.1 e; simp at this
  refine ⟨v, rfl, ?_, ?_⟩
  · simpa using OwnI.new hown hne
  · exact ((Below.refl _ _).alloc (Nat.le_refl _) _).grown hg (by simp) (fun k hk => by simp [Value.ownBlock] at hk; exact Nat.le_of_eq hk)
end Go.Proofs.YteiofihgpalkiaaDoor
