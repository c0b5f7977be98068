/- A row of cells in one block, followed over stores and calls. -/
import Derived.Test.YteiofihgpalkiaaDoorBase
namespace Go.Proofs.YteiofihgpalkiaaDoor
open Go Go.RowKit

/-- block G holds these cells -/
def Rw (w : World) (G : Nat) (t : TypeId) (cs : Array Value) : Prop := w.heap[G]? = some (.cells cs t (0, 0))
section
variable {w w' : World} {G : Nat} {t : TypeId} {cs : Array Value}
theorem Rw.cell (h : Rw w G t cs) (i : Nat) : w.cell? ⟨G, i, none⟩ = cs[i]? := cell_of_row w G i cs _ (0, 0) h
theorem Rw.fz (h : Rw w G t cs) (i : Nat) : w.frozen? ⟨G, i, none⟩ = false := by
  have h' : w.heap[G]? = some (.cells cs t (0, 0)) := h
  simp [World.frozen?, h']
theorem Rw.set_ (h : Rw w G t cs) (i : Nat) (u : Value) : Rw (w.setCell ⟨G, i, none⟩ u) G t (cs.setIfInBounds i u) := heap_set u h
theorem Rw.set_ne (h : Rw w G t cs) {g : Nat} (hne : G ≠ g) (i : Nat) (u : Value) : Rw (w.setCell ⟨g, i, none⟩ u) G t cs := (Below.heap_setCell w ⟨g, i, none⟩ u G hne).trans h
theorem Rw.new (w : World) (t : TypeId) (cs : Array Value) : Rw (w.alloc (.cells cs t)) w.heap.size t cs := heap_alloc_new w _
theorem Rw.lt (h : Rw w G t cs) : G < w.heap.size := heap_lt h
theorem Rw.alloc (h : Rw w G t cs) (o : Obj) : Rw (w.alloc o) G t cs := (Below.heap_alloc w o G h.lt).trans h
theorem Rw.fr {C : Nat → Prop} (h : Rw w G t cs) (hf : Fr C w w') (hn : ¬ C G) : Rw w' G t cs := hf.heap h hn
theorem Rw.gb {row : Option Nat} (h : Rw w G t cs) (hg : w.grownBy w' row) (hn : some G ≠ row) : Rw w' G t cs := (hg.block G h.lt hn).trans h
theorem Rw.below (h : Rw w G t cs) (hb : Below w.heap.size w w') : Rw w' G t cs := (hb.block G h.lt).trans h
end
end Go.Proofs.YteiofihgpalkiaaDoor
