/- Lists of strings that the calls make, hand on and look through. -/
import Derived.Test.YteiofihgpalkiaaDoorBase
import Derived.OwnWalk
import Derived.Maps.AppendAt
import Derived.Deep.QuietTactic
import Derived.BigQuiet
namespace Go.Proofs.YteiofihgpalkiaaDoor
open Go Go.RowKit

theorem infoStr : (Tryd.prog.info? 9).map (fun i => (i.zero, i.size, i.bytes)) = some (some (.string ByteArray.empty), 1, 16) := by kernel_rfl

/-- the cells of a list of strings -/
def cstr (l : List ByteArray) : List Value := l.map .string
def gs (l : List ByteArray) (j : Nat) : ByteArray := l.getD j ByteArray.empty
theorem cstr_len (l : List ByteArray) : (cstr l).length = l.length := by simp [cstr]
theorem cstr_app (l m : List ByteArray) : cstr (l ++ m) = cstr l ++ cstr m := by simp [cstr]
theorem cstr_get (l : List ByteArray) (j : Nat) (h : j < l.length) : (cstr l)[j]? = some (.string (gs l j)) := by simp [cstr, gs, h]
theorem cstr_one (l : List ByteArray) : ∀ u ∈ cstr l, u.oneCell' = true := by
  intro u hu
  simp [cstr] at hu
  obtain ⟨a, _, rfl⟩ := hu
  rfl
def RdS (w : World) (b o : Nat) (l : List ByteArray) : Prop := ∀ j, j < l.length → w.cell? ⟨b, o + j, none⟩ = some (.string (gs l j))
theorem RdS.below {w w' : World} {b o : Nat} {l : List ByteArray} (h : RdS w b o l) (hb : Below w.heap.size w w') : RdS w' b o l := fun j hj => by
  rw [hb.cell (lt_of_cell (h j hj))]; exact h j hj
theorem RdS.fr {C : Nat → Prop} {w w' : World} {b o : Nat} {l : List ByteArray} (h : RdS w b o l) (hf : Fr C w w') (hn : ¬ C b) : RdS w' b o l := fun j hj => hf.cell (h j hj) hn
theorem RdS.new1 (w : World) (x : ByteArray) (t : TypeId) : RdS (w.alloc (.cells #[.string x] t)) w.heap.size 0 [x] := by
  intro j hj
  obtain rfl : j = 0 := by simp at hj; omega
  simp [gs]
/-- a slice of strings made since block B -/
def NewS (w : World) (B : Nat) (v : Value) (l : List ByteArray) : Prop := ∃ g cap, v = .slice (some ⟨g, 0, none⟩) l.length cap ∧ B ≤ g ∧ g < w.heap.size ∧ RdS w g 0 l
abbrev OwnS (w : World) (B : Nat) (v : Value) (l : List ByteArray) : Prop := w.ownsRow B 9 1 v l.length (cstr l)
theorem OwnS.new {w : World} {B : Nat} {v : Value} {l : List ByteArray} (h : OwnS w B v l) (hne : v ≠ .slice none 0 0) : NewS w B v l := by
  rcases h.2 with ⟨rfl, _⟩ | ⟨g, cap, cur, rfl, hb, hh, hn, hc, hs, ht⟩
  · exact absurd rfl hne
  · refine ⟨g, cap, rfl, hb, heap_lt hh, fun j hj => ?_⟩
    have := h.cells (g := g) rfl j _ (cstr_get l j hj)
    rw [addLit] at this
    exact this
theorem OwnS.made (w : World) (B : Nat) (hB : B ≤ w.heap.size) : OwnS (w.alloc (.cells #[] 9)) B (.slice (some ⟨w.heap.size, 0, none⟩) 0 0) [] :=
  World.ownsRow_made w #[] 0 hB (by simp [maxLen]) (by simp)

theorem OwnS.fr {C : Nat → Prop} {w w' : World} {B : Nat} {v : Value} {l : List ByteArray} (h : OwnS w B v l) (hf : Fr C w w') (hC : ∀ k, v.ownBlock = some k → ¬ C k) : OwnS w' B v l := by
  refine ⟨h.1, ?_⟩
  rcases h.2 with ⟨rfl, hx⟩ | ⟨g, cap, cur, rfl, hb, hh, rest⟩
  · exact .inl ⟨rfl, hx⟩
  · exact .inr ⟨g, cap, cur, rfl, hb, hf.heap hh (hC g rfl), rest⟩
/-- append of strings that lie at a known place; where the result lies -/
theorem wpList_appS {ops : Array Oper} {rest : List Oper} {o : Oper} {a : Act} {w : World} {Q : Exit → Act → World → Prop} (hgd : o.guard = none) (s x : Operand)
    (ho : o.op = .call { callee := .builtin .append, args := #[s, x], argTypes := #[29, 29] }) (base : Nat) (v : Value) (l m : List ByteArray) (hs : a.eval s = v) (hown : OwnS w base v l)
    (b of c n : Nat) (hn : n = m.length) (hx : a.eval x = .slice (some ⟨b, of, none⟩) n c) (hr : RdS w b of m) (hlen : l.length + m.length ≤ 1000000000) (hbase : base ≤ w.heap.size)
    (h : ∀ v' w', OwnS w' base v' (l ++ m) → w.grownBy w' v.ownBlock → (v' = .slice none 0 0 ↔ v = .slice none 0 0 ∧ m.length = 0) → (v'.ownBlock = v.ownBlock ∨ v'.ownBlock = some w.heap.size) → wpList Tryd.prog ops Q rest (a.put o.dst v') w') : wpList Tryd.prog ops Q (o :: rest) a w := by
  obtain ⟨i0, hi0, hz0, hz1, hz2⟩ := info_parts infoStr
  subst hn
  refine wpList_append_own_at w hgd s x 29 ho base 9 i0 _ 1 16 Tryd.underlying29 hi0 hz0 hz1 hz2 rfl (by decide) v l.length (cstr l) hs hown ⟨b, of, none⟩ m.length c (cstr m) hx (by simp [cstr]) ?_ (cstr_one m) (by simp only [maxLen]; omega) (by omega) hbase ?_
  · intro j u hu
    have hj : j < m.length := by
      have := (List.getElem?_eq_some_iff.1 hu).1
      rwa [cstr_len] at this
    rw [cstr_get m j hj, Option.some.injEq] at hu
    rw [← hu]
    have ha : (⟨b, of, none⟩ : Addr).add j = ⟨b, of + j, none⟩ := addLit b of j
    rw [ha]
    exact hr j hj
  · intro v' w' h1 h2 h3 h4
    have h5 : w'.ownsRow base 9 1 v' (l ++ m).length (cstr (l ++ m)) := by
      rw [cstr_app, List.length_append]
      exact h1
    exact h v' w' h5 h2 h3 h4
end Go.Proofs.YteiofihgpalkiaaDoor
