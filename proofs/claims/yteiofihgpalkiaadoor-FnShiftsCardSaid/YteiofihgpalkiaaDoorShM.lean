/- The map of what is known of shifts: looked up and filled. -/
import Derived.Test.YteiofihgpalkiaaDoorShC
import Derived.Laws.StructEq
import Derived.MapKept
import Derived.Carry
namespace Go.Proofs.YteiofihgpalkiaaDoor
open Go Go.RowKit

theorem St.ext' (a b : St) (h0 : a.slot = b.slot) (h1 : a.worked = b.worked) (h2 : a.row = b.row) (h3 : a.pause = b.pause) (h4 : a.begun = b.begun) : a = b := by
  cases a; cases b; simp_all
theorem St.cell_inj {a b : St} (h : a.cell = b.cell) : a = b := by
  simp [St.cell] at h
  obtain ⟨h0, h1, h2, h3, h4⟩ := h
  exact St.ext' a b h0 h1 h2 h3 h4

instance : DecidableEq St := fun a b =>
  if h : a.slot = b.slot ∧ a.worked = b.worked ∧ a.row = b.row ∧ a.pause = b.pause ∧ a.begun = b.begun then isTrue (St.ext' a b h.1 h.2.1 h.2.2.1 h.2.2.2.1 h.2.2.2.2) else isFalse (fun e => h (by subst e; simp))

theorem run_eqSt (a b : St) (w : World) : (Op.equal 57 a.cell b.cell).run Tryd.prog w = .ok (decide (a = b)) w := by
  unfold Op.equal
  unfold St.cell
  rw [show Op.maxDepth = 9999 + 1 from rfl, run_equalIn_struct (P := Tryd.prog) w 9999 _ _ _ (by kernel_rfl) (by kernel_rfl)]
  simp [Program.fieldsOf, Tryd.underlying57, go_sem]
  obtain ⟨a0, a1, a2, a3, a4⟩ := a
  obtain ⟨b0, b1, b2, b3, b4⟩ := b
  simp only [St.mk.injEq]
  by_cases h0 : a0 = b0 <;> by_cases h1 : a1 = b1 <;> by_cases h2 : a2 = b2 <;> by_cases h3 : a3 = b3 <;> by_cases h4 : a4 = b4 <;> simp [h0, h1, h2, h3, h4]

theorem stUnder : ∃ fs, Tryd.prog.underlying 57 = some (.struct fs) := ⟨_, Tryd.underlying57⟩
theorem run_checkSt (em : Bool) (s : St) (w : World) : (Instr.checkKey em 10000 57 s.cell).run Tryd.prog w = .ok () w := by kernel_rfl

/-- the entries of a map of counts -/
def Ents (r : SR) (es : List MapEntry) : Prop := ∀ e ∈ es, ∃ (s : St) (n : Nat), e.key = s.cell ∧ e.val = .int .i64 ((lst r n s).length : Nat) ∧ s.slot + n = r.slots
theorem run_findSt (r : SR) (s : St) (w : World) : ∀ (es : List MapEntry) (i : Nat), Ents r es →
    (Instr.findAsking 57 s.cell es i).run Tryd.prog w = .ok none w ∨ ∃ j e, (Instr.findAsking 57 s.cell es i).run Tryd.prog w = .ok (some (i + j, e.val)) w ∧ es[j]? = some e ∧ e.key = s.cell := by
  intro es
  induction es with
  | nil => intro i _; exact .inl rfl
  | cons e es ih =>
    intro i h
    obtain ⟨t, n, hk, hv, hn⟩ := h e (by simp)
    simp only [Instr.findAsking, Sem.run_bind]
    rw [hk, run_eqSt]
    simp only [Result.andThen_ok]
    by_cases c : s = t
    · subst c
      right
      refine ⟨0, e, by simp, by simp, hk⟩
    · simp only [c, decide_false, Bool.false_eq_true, if_false]
      rcases ih (i + 1) (fun e he => h e (by simp [he])) with h1 | ⟨j, e1, h1, h2, h3⟩
      · exact .inl h1
      · exact .inr ⟨j + 1, e1, by rw [h1]; congr 3; omega, by simpa using h2, h3⟩
theorem run_findKeySt (r : SR) (s : St) (w : World) (es : List MapEntry) (h : Ents r es) :
    (Instr.findKey 57 s.cell es).run Tryd.prog w = .ok none w ∨ ∃ j e, (Instr.findKey 57 s.cell es).run Tryd.prog w = .ok (some (j, e.val)) w ∧ es[j]? = some e ∧ e.key = s.cell := by
  obtain ⟨fs, hfs⟩ := stUnder
  cases es with
  | nil => left; simp [Instr.findKey, run_underlying hfs, Result.andThen, Instr.findNow]
  | cons e es =>
    have e0 : (Instr.findKey 57 s.cell (e :: es)).run Tryd.prog w = (Instr.findAsking 57 s.cell (e :: es) 0).run Tryd.prog w := by
      simp [Instr.findKey, run_underlying hfs, Result.andThen, Instr.findNow, Instr.sameNow]
    rw [e0]
    rcases run_findSt r s w (e :: es) 0 h with h1 | ⟨j, e1, h1, h2, h3⟩
    · exact .inl h1
    · exact .inr ⟨j, e1, by simpa using h1, h2, h3⟩

/-- block b is a map of right counts -/
def Memo (r : SR) (w : World) (b : Nat) : Prop := ∃ es clock, w.heap[b]? = some (.map es clock) ∧ Ents r es.toList
theorem Memo.lt {r : SR} {w : World} {b : Nat} (h : Memo r w b) : b < w.heap.size := by obtain ⟨es, cl, hb, _⟩ := h; exact heap_lt hb
theorem Memo.fr {C : Nat → Prop} {r : SR} {w w' : World} {b : Nat} (h : Memo r w b) (hf : Fr C w w') (hn : ¬ C b) : Memo r w' b := by
  obtain ⟨es, cl, hb, he⟩ := h
  exact ⟨es, cl, hf.heap hb hn, he⟩
theorem Memo.new (r : SR) (w : World) : Memo r (w.alloc (.map #[] 0)) w.heap.size := ⟨#[], 0, heap_alloc_new w _, by intro e he; simp at he⟩
theorem len_eq {r : SR} {s : St} {n m : Nat} (h1 : s.slot + n = r.slots) (h2 : s.slot + m = r.slots) : n = m := by omega

theorem run_lookSt (r : SR) (s : St) (n : Nat) (b : Nat) (w : World) (h : Memo r w b) (hn : s.slot + n = r.slots) :
    (Instr.lookup 51 (.map (some b)) s.cell true).run Tryd.prog w = .ok (.tuple #[.int .i64 0, .bool false]) w ∨
    (Instr.lookup 51 (.map (some b)) s.cell true).run Tryd.prog w = .ok (.tuple #[.int .i64 ((lst r n s).length : Nat), .bool true]) w := by
  obtain ⟨es, cl, hb, he⟩ := h
  have hz : (zeroValue 2).run Tryd.prog w = .ok (.int .i64 0) w := by kernel_rfl
  rcases run_findKeySt r s w es.toList he with h1 | ⟨j, e, h1, h2, h3⟩
  · left
    simp [Instr.lookup, run_underlying Tryd.underlying51, MapKept.run_getObj_map hb, run_checkSt, h1, hz, Result.andThen]
  · right
    obtain ⟨t, m, hk, hv, hm⟩ := he e (List.mem_of_getElem? h2)
    rw [h3] at hk
    have := St.cell_inj hk
    subst this
    obtain rfl := len_eq hn hm
    simp [Instr.lookup, run_underlying Tryd.underlying51, MapKept.run_getObj_map hb, run_checkSt, h1, hv, Result.andThen]

theorem run_fillSt (r : SR) (s : St) (n : Nat) (b : Nat) (w : World) (h : Memo r w b) (hn : s.slot + n = r.slots) :
    ∃ w', (Instr.mapUpdate 51 (.map (some b)) s.cell (.int .i64 ((lst r n s).length : Nat))).run Tryd.prog w = .ok () w' ∧ Memo r w' b ∧ Fr (fun k => k = b) w w' := by
  obtain ⟨es, cl, hb, he⟩ := h
  have hlt := heap_lt hb
  have fr : ∀ o : Obj, Fr (fun k => k = b) w { w with heap := w.heap.setIfInBounds b o } := fun o =>
    ⟨rfl, rfl, rfl, by simp, fun k hk hne => by simp only [Array.getElem?_setIfInBounds]; rw [if_neg (fun e => hne e.symm)]⟩
  have hset : ∀ o : Obj, ({ w with heap := w.heap.setIfInBounds b o } : World).heap[b]? = some o := fun o => by simp [hlt]
  rcases run_findKeySt r s w es.toList he with h1 | ⟨j, e, h1, h2, h3⟩
  · refine ⟨_, by simp [Instr.mapUpdate, run_underlying Tryd.underlying51, MapKept.run_getObj_map hb, run_checkSt, h1, MapKept.run_setObj_map _ hb, Result.andThen]; rfl, ⟨_, _, hset _, ?_⟩, fr _⟩
    intro x hx
    simp at hx
    rcases hx with hx | rfl
    · exact he x (by simpa using hx)
    · exact ⟨s, n, rfl, rfl, hn⟩
  · have hj : es[j]? = some e := by simpa using h2
    have hst : (Instr.keyThatStays s.cell s.cell).run Tryd.prog w = .ok s.cell w := by
      have : Instr.sameBits 10000 s.cell s.cell = true := by simp [St.cell, Instr.sameBits]
      simp [Instr.keyThatStays, this]
    refine ⟨_, by simp [Instr.mapUpdate, run_underlying Tryd.underlying51, MapKept.run_getObj_map hb, run_checkSt, h1, hj, h3, hst, MapKept.run_setObj_map _ hb, Result.andThen]; rfl, ⟨_, _, hset _, ?_⟩, fr _⟩
    intro x hx
    obtain ⟨k, hk⟩ := List.mem_iff_getElem?.1 hx
    rw [Array.getElem?_toList, Array.getElem?_modify] at hk
    split at hk
    · rename_i hjk
      subst hjk
      rw [hj] at hk
      simp at hk
      subst hk
      exact ⟨s, n, rfl, rfl, hn⟩
    · exact he x (List.mem_of_getElem? (by simpa using hk))
end Go.Proofs.YteiofihgpalkiaaDoor
