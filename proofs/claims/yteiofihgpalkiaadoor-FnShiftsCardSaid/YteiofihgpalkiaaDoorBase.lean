/- Plain words and lemmas for the walks: lists of integers in memory, remainders. -/
import Derived.Test.YteiofihgpalkiaaDoorChecked
import Derived.WalkKit
import Derived.WalkLawsBesides
import Derived.WalkSpells
import Derived.Lib.Hide
import Derived.Deep.Draws
namespace Go.Proofs.YteiofihgpalkiaaDoor
open Go Go.RowKit

theorem u64wrap_bd (y : Int) : 0 ≤ IntKind.u64.wrap y ∧ IntKind.u64.wrap y < 18446744073709551616 := by
  simp [IntKind.wrap, IntKind.bits, IntKind.signed]; omega
theorem u64_and255 (x : Int) (h0 : 0 ≤ x) (h1 : x < 18446744073709551616) : 0 ≤ wrap64 (bits .and .u64 x 255) ∧ wrap64 (bits .and .u64 x 255) ≤ 255 := by
  have h2 : (x.toNat &&& (255 : Int).toNat) ≤ 255 := Nat.and_le_right
  rw [u64_and x 255 h0 h1 (by omega) (by omega), IntWalk.wrap64_in _ (by omega)]
  omega

def gi (l : List Int) (j : Nat) : Int := l.getD j 0

theorem bdrewN {B : Nat} {a w : World} (h : Below B a w) (n : Nat) : Below B a (w.drewN n) := ⟨h.os, h.tape, h.output, h.size, h.block⟩
theorem bcell {w w1 : World} (hb : Below w.heap.size w w1) : (∀ b o, b < w.heap.size → w1.cell? ⟨b, o, none⟩ = w.cell? ⟨b, o, none⟩) ∧ (∀ b o, b < w.heap.size → w1.frozen? ⟨b, o, none⟩ = w.frozen? ⟨b, o, none⟩) :=
  ⟨fun b o h => hb.cell (p := ⟨b, o, none⟩) h, fun b o h => hb.frozen (p := ⟨b, o, none⟩) h⟩

theorem heap_set {w : World} {g i : Nat} {cs : Array Value} {t : TypeId} {fr : Nat × Nat} (v : Value) (h : w.heap[g]? = some (.cells cs t fr)) : (w.setCell ⟨g, i, none⟩ v).heap[g]? = some (.cells (cs.setIfInBounds i v) t fr) := by
  simp [World.setCell, Array.getElem?_modify, h]
theorem heap_lt {w : World} {g : Nat} {o : Obj} (h : w.heap[g]? = some o) : g < w.heap.size := (Array.getElem?_eq_some_iff.1 h).1
theorem gbRefl (w : World) (row : Option Nat) : w.grownBy w row := ⟨rfl, rfl, rfl, Nat.le_refl _, fun _ _ _ => rfl⟩
theorem gbDrewN {a w : World} {row : Option Nat} (h : a.grownBy w row) (n : Nat) : a.grownBy (w.drewN n) row := ⟨h.os, h.tape, h.output, h.size, h.block⟩
theorem gbAlloc {a w : World} {row : Option Nat} (h : a.grownBy w row) (o : Obj) : a.grownBy (w.alloc o) row :=
  ⟨h.os, h.tape, h.output, Nat.le_trans h.size (by simp), fun i hi hne => (Below.heap_alloc w o i (Nat.lt_of_lt_of_le hi h.size)).trans (h.block i hi hne)⟩
theorem gbSet {a w : World} {row : Option Nat} (h : a.grownBy w row) {p : Addr} (hp : some p.block = row ∨ a.heap.size ≤ p.block) (u : Value) : a.grownBy (w.setCell p u) row :=
  ⟨h.os, h.tape, h.output, by simpa [World.setCell] using h.size, fun i hi hne => (Below.heap_setCell w p u i (by
    rintro rfl
    rcases hp with hp | hp
    · exact hne hp
    · omega)).trans (h.block i hi hne)⟩
theorem gbTrans {a b c : World} {row : Option Nat} (h : a.grownBy b row) (k : b.grownBy c row) : a.grownBy c row :=
  ⟨k.os.trans h.os, k.tape.trans h.tape, k.output.trans h.output, Nat.le_trans h.size k.size, fun i hi hne => (k.block i (Nat.lt_of_lt_of_le hi h.size) hne).trans (h.block i hi hne)⟩
theorem gbBelow {a w : World} (h : Below a.heap.size a w) (row : Option Nat) : a.grownBy w row := ⟨h.os, h.tape, h.output, h.size, fun i hi _ => h.block i hi⟩
theorem gbFrozen {w w' : World} {row : Option Nat} (hg : w.grownBy w' row) {a : Addr} {b : Bool} (h : w.frozen? a = b) (hlt : a.block < w.heap.size) (hne : some a.block ≠ row) : w'.frozen? a = b :=
  (World.frozen?_of_block (hg.block a.block hlt hne)).trans h
theorem ownKeep {w w' : World} {base : Nat} {e : TypeId} {size n : Nat} {v : Value} {xs : List Value} {row : Option Nat} (h : w.ownsRow base e size v n xs) (hg : w.grownBy w' row) (hne : ∀ k, v.ownBlock = some k → some k ≠ row) : w'.ownsRow base e size v n xs :=
  h.kept hg (by
    cases hv : v.ownBlock with
    | none => exact .inl rfl
    | some k => exact .inr (hne k hv))
theorem ownNe {w : World} {base : Nat} {e : TypeId} {size n g : Nat} {v : Value} {xs : List Value} {cs : Array Value} {t : TypeId} {fr : Nat × Nat} (h : w.ownsRow base e size v n xs) (hg : w.heap[g]? = some (.cells cs t fr)) (hne : e ≠ t) : ∀ k, v.ownBlock = some k → k ≠ g := by
  intro k hk
  rcases h.2 with ⟨rfl, _⟩ | ⟨g', cap, cur, rfl, _, hh, _⟩
  · simp [Value.ownBlock] at hk
  · simp [Value.ownBlock] at hk
    subst hk
    rintro rfl
    rw [hh] at hg
    injection hg with hg
    injection hg with _ ht
    exact hne ht
/-- growth by a row of the call's own is growth below -/
theorem belowGb {B : Nat} {a w w' : World} {row : Option Nat} (h : Below B a w) (hg : w.grownBy w' row) (hB : B ≤ w.heap.size) (hr : ∀ k, row = some k → B ≤ k) : Below B a w' := h.grown hg hB hr

/-- w' is w but for new blocks and for the old blocks of which C tells -/
structure Fr (C : Nat → Prop) (w w' : World) : Prop where
  os : w'.os = w.os
  tape : w'.tape = w.tape
  output : w'.output = w.output
  size : w.heap.size ≤ w'.heap.size
  block : ∀ k, k < w.heap.size → ¬ C k → w'.heap[k]? = w.heap[k]?
section
variable {C D : Nat → Prop} {a b w w' : World}
theorem Fr.refl (w : World) : Fr C w w := ⟨rfl, rfl, rfl, Nat.le_refl _, fun _ _ _ => rfl⟩
theorem Fr.trans (h : Fr C a b) (k : Fr C b w) : Fr C a w :=
  ⟨k.os.trans h.os, k.tape.trans h.tape, k.output.trans h.output, Nat.le_trans h.size k.size, fun i hi hn => (k.block i (Nat.lt_of_lt_of_le hi h.size) hn).trans (h.block i hi hn)⟩
/-- the second step may also turn blocks that are new since the first world -/
theorem Fr.trans' (h : Fr C a b) (k : Fr D b w) (hD : ∀ i, i < a.heap.size → D i → C i) : Fr C a w :=
  ⟨k.os.trans h.os, k.tape.trans h.tape, k.output.trans h.output, Nat.le_trans h.size k.size, fun i hi hn => (k.block i (Nat.lt_of_lt_of_le hi h.size) (fun hd => hn (hD i hi hd))).trans (h.block i hi hn)⟩
theorem Fr.mono (h : Fr C a w) (hD : ∀ i, i < a.heap.size → C i → D i) : Fr D a w := ⟨h.os, h.tape, h.output, h.size, fun i hi hn => h.block i hi (fun hc => hn (hD i hi hc))⟩
theorem Fr.drewN (h : Fr C a w) (n : Nat) : Fr C a (w.drewN n) := ⟨h.os, h.tape, h.output, h.size, h.block⟩
theorem Fr.drew (h : Fr C a w) : Fr C a w.drew := ⟨h.os, h.tape, h.output, h.size, h.block⟩
theorem Fr.alloc (h : Fr C a w) (o : Obj) : Fr C a (w.alloc o) :=
  ⟨h.os, h.tape, h.output, Nat.le_trans h.size (by simp), fun i hi hn => (Below.heap_alloc w o i (Nat.lt_of_lt_of_le hi h.size)).trans (h.block i hi hn)⟩
theorem Fr.set_ (h : Fr C a w) {p : Addr} (hp : p.block < a.heap.size → C p.block) (u : Value) : Fr C a (w.setCell p u) :=
  ⟨h.os, h.tape, h.output, by simpa [World.setCell] using h.size, fun i hi hn => (Below.heap_setCell w p u i (by
    rintro rfl
    exact hn (hp hi))).trans (h.block i hi hn)⟩
theorem Fr.one (w : World) (g i : Nat) (u : Value) : Fr (fun k => k = g) w (w.setCell ⟨g, i, none⟩ u) := Fr.set_ (C := fun k => k = g) (Fr.refl w) (p := ⟨g, i, none⟩) (fun _ => rfl) u
/-- w' is w but for draws -/
def Drew (w w' : World) : Prop := ∃ n, w' = w.drewN n
theorem Drew.refl (w : World) : Drew w w := ⟨0, rfl⟩
theorem Drew.more {w w' : World} (h : Drew w w') (n : Nat) : Drew w (w'.drewN n) := by
  obtain ⟨m, rfl⟩ := h
  exact ⟨m + n, World.drewN_drewN _ _ _⟩
theorem Drew.one {w w' : World} (h : Drew w w') : Drew w w'.drew := h.more 1
theorem Drew.trans {a b c : World} (h : Drew a b) (k : Drew b c) : Drew a c := by
  obtain ⟨n, rfl⟩ := k
  exact h.more n
theorem Drew.cell {w w' : World} (h : Drew w w') (a : Addr) : w'.cell? a = w.cell? a := by obtain ⟨n, rfl⟩ := h; rfl
theorem Drew.fr {C : Nat → Prop} {w w' : World} (h : Drew w w') : Fr C w w' := by obtain ⟨n, rfl⟩ := h; exact (Fr.refl w).drewN n
theorem Drew.below {B : Nat} {w w' : World} (h : Drew w w') : Below B w w' := by obtain ⟨n, rfl⟩ := h; exact bdrewN (Below.refl _ _) n
theorem Fr.ofGb {row : Option Nat} (h : a.grownBy w row) (hr : ∀ k, row = some k → C k) : Fr C a w :=
  ⟨h.os, h.tape, h.output, h.size, fun i hi hn => h.block i hi (fun e => hn (hr i e.symm))⟩
theorem Fr.ofBelow (h : Below a.heap.size a w) : Fr C a w := ⟨h.os, h.tape, h.output, h.size, fun i hi _ => h.block i hi⟩
theorem Fr.toBelow {B : Nat} (h : Fr C a w) (hB : B ≤ a.heap.size) (hn : ∀ i, i < B → ¬ C i) : Below B a w := ⟨h.os, h.tape, h.output, h.size, fun i hi => h.block i (by omega) (hn i hi)⟩
theorem Fr.toGb {row : Option Nat} (h : Fr C a w) (hr : ∀ k, C k → row = some k) : a.grownBy w row :=
  ⟨h.os, h.tape, h.output, h.size, fun i hi hn => h.block i hi (fun hc => hn (hr i hc).symm)⟩
theorem Fr.cell (h : Fr C a w) {p : Addr} {v : Value} (hc : a.cell? p = some v) (hn : ¬ C p.block) : w.cell? p = some v :=
  (World.cell?_of_block (h.block p.block (World.block_lt_of_cell? a p hc) hn)).trans hc
theorem Fr.heap (h : Fr C a w) {g : Nat} {o : Obj} (hc : a.heap[g]? = some o) (hn : ¬ C g) : w.heap[g]? = some o :=
  (h.block g (heap_lt hc) hn).trans hc
end

/-- the row of cells from block b, place o on reads as the integers l -/
def RdI (w : World) (b o : Nat) (l : List Int) : Prop := ∀ j, j < l.length → w.cell? ⟨b, o + j, none⟩ = some (.int .i64 (gi l j))

theorem lt_of_cell {w : World} {a : Addr} {v : Value} (h : w.cell? a = some v) : a.block < w.heap.size := World.block_lt_of_cell? w a h

theorem addLit (b o j : Nat) : (⟨b, o, none⟩ : Addr).add j = ⟨b, o + j, none⟩ := by
  unfold Addr.add
  by_cases h : j = 0 <;> simp [h]
theorem RdI.below {w w' : World} {b o : Nat} {l : List Int} (h : RdI w b o l) (hb : Below w.heap.size w w') : RdI w' b o l := fun j hj => by
  rw [hb.cell (lt_of_cell (h j hj))]; exact h j hj

theorem RdI.fr {C : Nat → Prop} {w w' : World} {b o : Nat} {l : List Int} (h : RdI w b o l) (hf : Fr C w w') (hn : ¬ C b) : RdI w' b o l := fun j hj => hf.cell (h j hj) hn
theorem emod_eq' (a b : Int) (_hb : 0 < b) : (a.tmod b + b) % b = a % b := by
  rw [Int.add_emod_right, Int.tmod_eq_emod]
  split
  · simp
  · have hn : (b.natAbs : Int) = b := by omega
    rw [Int.sub_emod, Int.emod_emod, hn, Int.emod_self]
    simp
theorem emod_eq (a b : Int) (hb : 0 < b) : (a.tmod b + b).tmod b = a % b := by
  have h1 : -b < a.tmod b := by
    have := Int.lt_tmod_of_pos a hb; omega
  rw [Int.tmod_eq_emod_of_nonneg (by omega), Int.add_emod_right]
  rw [Int.tmod_eq_emod]
  split
  · simp
  · have hn : (b.natAbs : Int) = b := by omega
    rw [Int.sub_emod, Int.emod_emod, hn, Int.emod_self]
    simp

structure Rul where
  fr : Int
  to : Int
  le : Int
  mo : Int

def vRul (ev p : Int) (r : Rul) : Prop := 0 ≤ r.fr ∧ r.fr < ev ∧ 0 ≤ r.to ∧ r.to < ev ∧ r.fr ≠ r.to ∧ 0 ≤ r.le ∧ r.le < p ∧ r.le ≤ r.mo ∧ r.mo < r.le + p
def Rul.cell (r : Rul) : Value := .agg #[.int .i64 r.fr, .int .i64 r.to, .int .i64 r.le, .int .i64 r.mo]
def ru (l : List Rul) (j : Nat) : Rul := l.getD j ⟨0, 0, 0, 0⟩
theorem drop_ru (l : List Rul) (k : Nat) (h : k < l.length) : l.drop k = ru l k :: l.drop (k + 1) := by
  rw [List.drop_eq_getElem_cons h]; simp [ru, h]
def RdR (w : World) (b o : Nat) (l : List Rul) : Prop := ∀ j, j < l.length → w.cell? ⟨b, o + j * 4, none⟩ = some (.int .i64 (ru l j).fr) ∧ w.cell? ⟨b, o + j * 4 + 1, none⟩ = some (.int .i64 (ru l j).to) ∧ w.cell? ⟨b, o + j * 4 + 2, none⟩ = some (.int .i64 (ru l j).le) ∧ w.cell? ⟨b, o + j * 4 + 3, none⟩ = some (.int .i64 (ru l j).mo)
theorem RdR.below {w w' : World} {b o : Nat} {l : List Rul} (h : RdR w b o l) (hb : Below w.heap.size w w') : RdR w' b o l := fun j hj => by
  obtain ⟨h0, h1, h2, h3⟩ := h j hj
  rw [hb.cell (lt_of_cell h0), hb.cell (lt_of_cell h1), hb.cell (lt_of_cell h2), hb.cell (lt_of_cell h3)]
  exact ⟨h0, h1, h2, h3⟩

theorem RdR.fr {C : Nat → Prop} {w w' : World} {b o : Nat} {l : List Rul} (h : RdR w b o l) (hf : Fr C w w') (hn : ¬ C b) : RdR w' b o l := fun j hj => by
  obtain ⟨h0, h1, h2, h3⟩ := h j hj
  exact ⟨hf.cell h0 hn, hf.cell h1 hn, hf.cell h2 hn, hf.cell h3 hn⟩
/-- the wait of a rule -/
def wt (p : Int) (t : List Int) (r : Rul) : Int := r.le + (gi t r.to.toNat - gi t r.fr.toNat - r.le) % p
/-- times of a table -/
def vTab (ev p : Int) (t : List Int) : Prop := (t.length : Int) = ev ∧ ∀ j, j < t.length → 0 ≤ gi t j ∧ gi t j < p
theorem wt_bd {ev p : Int} {t : List Int} {r : Rul} (hp : 0 < p) (hr : vRul ev p r) : 0 ≤ wt p t r ∧ wt p t r < 2 * p := by
  have h1 := Int.emod_nonneg (gi t r.to.toNat - gi t r.fr.toNat - r.le) (show p ≠ 0 by omega)
  have h2 := Int.emod_lt_of_pos (gi t r.to.toNat - gi t r.fr.toNat - r.le) hp
  unfold wt
  obtain ⟨_, _, _, _, _, h3, h4, _⟩ := hr
  omega
end Go.Proofs.YteiofihgpalkiaaDoor
