/- The drawing of numbers out of bytes: what next and pick return lies in range; only the source's own block is written. -/
import Derived.Test.YteiofihgpalkiaaDoorBase
import Derived.Deep.QuietTactic
import Derived.BigQuiet
namespace Go.Proofs.YteiofihgpalkiaaDoor
open Go Go.RowKit

/-- the bytes that a source reads -/
def Byt (w : World) (A : Option Addr) (n : Nat) : Prop := n = 0 ∨ ∃ b o, A = some ⟨b, o, none⟩ ∧ ∀ j, j < n → ∃ x : Int, w.cell? ⟨b, o + j, none⟩ = some (.int .u8 x) ∧ 0 ≤ x ∧ x ≤ 255
/-- the source's block -/
def Src (w : World) (g : Nat) (A : Option Addr) (n c : Nat) (K : Int) : Prop :=
  ∃ (at_ seed : Int), w.heap[g]? = some (.cells #[.slice A n c, .int .i64 at_, .int .u64 seed] 73 (0, 0)) ∧ 0 ≤ at_ ∧ at_ ≤ K

theorem Src.set1 {w : World} {g : Nat} {A : Option Addr} {n c : Nat} {at_ seed at2 seed2 K : Int} (hh : w.heap[g]? = some (.cells #[.slice A n c, .int .i64 at_, .int .u64 seed] 73 (0, 0))) (h0 : 0 ≤ at2) (h1 : at2 ≤ K) (k m : Nat) :
    Src ((((w.drewN k).setCell ⟨g, 1, none⟩ (.int .i64 at2)).setCell ⟨g, 2, none⟩ (.int .u64 seed2)).drewN m) g A n c K ∧ w.grownBy ((((w.drewN k).setCell ⟨g, 1, none⟩ (.int .i64 at2)).setCell ⟨g, 2, none⟩ (.int .u64 seed2)).drewN m) (some g) := by
  have e1 : ((w.drewN k).setCell ⟨g, 1, none⟩ (.int .i64 at2)).heap[g]? = some (.cells #[.slice A n c, .int .i64 at2, .int .u64 seed] 73 (0, 0)) := by
    have := heap_set (w := w.drewN k) (i := 1) (.int .i64 at2) hh
    simpa using this
  have e2 : (((w.drewN k).setCell ⟨g, 1, none⟩ (.int .i64 at2)).setCell ⟨g, 2, none⟩ (.int .u64 seed2)).heap[g]? = some (.cells #[.slice A n c, .int .i64 at2, .int .u64 seed2] 73 (0, 0)) := by
    have := heap_set (i := 2) (.int .u64 seed2) e1
    simpa using this
  refine ⟨⟨at2, seed2, ?_, h0, h1⟩, ?_⟩
  · generalize ((w.drewN k).setCell ⟨g, 1, none⟩ (.int .i64 at2)).setCell ⟨g, 2, none⟩ (.int .u64 seed2) = w2 at e2 ⊢
    exact e2
  · have q1 : w.grownBy (w.drewN k) (some g) := gbDrewN (gbRefl w _) k
    have q2 := gbSet q1 (p := ⟨g, 1, none⟩) (.inl rfl) (.int .i64 at2)
    have q3 := gbSet q2 (p := ⟨g, 2, none⟩) (.inl rfl) (.int .u64 seed2)
    exact gbDrewN q3 m

theorem next_any (g : Nat) (A : Option Addr) (n c : Nat) (K : Int) (w : World) (hs : Src w g A n c K) (hb : Byt w A n) (_hn : n ≤ 9223372036854775807) (hK : K ≤ 1000000) :
    Calls Tryd.prog 32 #[.pointer (some ⟨g, 0, none⟩)] w fun e w' => ∃ x : Int, e = .returned (.int .i64 x) ∧ 0 ≤ x ∧ x ≤ 255 ∧ Src w' g A n c (K + 1) ∧ w.grownBy w' (some g) := by
  obtain ⟨at_, seed, hh, h0, h1⟩ := hs
  have c0 := cell_of_row w g 0 _ _ _ hh
  have c1 := cell_of_row w g 1 _ _ _ hh
  have c2 := cell_of_row w g 2 _ _ _ hh
  simp at c0 c1 c2
  have hfr : ∀ i, w.frozen? ⟨g, i, none⟩ = false := fun i => by simp [World.frozen?, hh]
  by_cases hlt : at_ < n
  · have hlt2 : at_.toNat < n := by omega
    rcases hb with hb | ⟨b, o, rfl, hb⟩
    · omega
    obtain ⟨x, hx, hx0, hx1⟩ := hb _ hlt2
    clear hb
    have Hh := Lib.hid hh
    clear hh
    go_enter Tryd.func32, Tryd.ntmps32
    go_wp2
    go_quiet (fail)
    go_wp2
    go_quiet (fail)
    go_wp2
    go_quiet (fail)
    go_wp2
    go_ret
    have R := Src.set1 (seed2 := IntKind.u64.wrap (IntKind.u64.wrap (IntKind.u64.wrap (seed * 6364136223846793005) + x) + 1442695040888963407)) Hh.out (show 0 ≤ at_ + 1 by omega) (show at_ + 1 ≤ K + 1 by omega)
    exact ⟨x, rfl, hx0, hx1, (R _ _).1, (R _ _).2⟩
  · have Hh := Lib.hid hh
    clear hh hb
    go_enter Tryd.func32, Tryd.ntmps32
    go_wp2
    go_quiet (fail)
    go_wp2
    go_quiet (fail)
    go_wp2
    go_ret
    have R := Src.set1 (seed2 := IntKind.u64.wrap (IntKind.u64.wrap (IntKind.u64.wrap (seed * 6364136223846793005)) + 1442695040888963407)) Hh.out (show 0 ≤ at_ + 1 by omega) (show at_ + 1 ≤ K + 1 by omega)
    have X1 := u64wrap_bd (IntKind.u64.wrap (IntKind.u64.wrap (seed * 6364136223846793005)) + 1442695040888963407)
    have X2 := u64_and255 (IntKind.u64.wrap (IntKind.u64.wrap (IntKind.u64.wrap (seed * 6364136223846793005)) + 1442695040888963407) / 1099511627776) (by omega) (by omega)
    exact ⟨_, rfl, X2.1, X2.2, (R _ _).1, (R _ _).2⟩

theorem Byt.below {w w' : World} {A : Option Addr} {n : Nat} {g : Nat} (h : Byt w A n) (hg : w.grownBy w' (some g)) (hne : n = 0 ∨ ∀ b o, A = some ⟨b, o, none⟩ → b ≠ g) : Byt w' A n := by
  rcases hne with h0 | hne
  · exact .inl h0
  rcases h with h | ⟨b, o, hA, h⟩
  · exact .inl h
  · refine .inr ⟨b, o, hA, fun j hj => ?_⟩
    obtain ⟨x, hx, hx0, hx1⟩ := h j hj
    exact ⟨x, hg.cell hx (fun e => hne b o hA (by injection e)), hx0, hx1⟩
theorem Byt.lo {w : World} {A : Option Addr} {n : Nat} (h : Byt w A n) : n = 0 ∨ ∀ b o, A = some ⟨b, o, none⟩ → b < w.heap.size := by
  rcases h with h | ⟨b, o, hA, h⟩
  · exact .inl h
  · by_cases hn : n = 0
    · exact .inl hn
    · refine .inr fun b' o' e => ?_
      rw [hA] at e
      simp only [Option.some.injEq, Addr.mk.injEq] at e
      obtain ⟨rfl, rfl, _⟩ := e
      obtain ⟨x, hx, _⟩ := h 0 (by omega)
      exact lt_of_cell hx

/-- a source whose bytes lie below L, and itself not -/
structure SrcB (w : World) (L g : Nat) (A : Option Addr) (n c : Nat) (K : Int) : Prop where
  src : Src w g A n c K
  byt : Byt w A n
  lo : n = 0 ∨ ∀ b o, A = some ⟨b, o, none⟩ → b < L
  gl : L ≤ g
  len : n ≤ 9223372036854775807

theorem SrcB.lt {w : World} {L g : Nat} {A : Option Addr} {n c : Nat} {K : Int} (h : SrcB w L g A n c K) : g < w.heap.size := by
  obtain ⟨_, _, hh, _⟩ := h.src; exact heap_lt hh
theorem SrcB.ne {w : World} {L g : Nat} {A : Option Addr} {n c : Nat} {K : Int} (h : SrcB w L g A n c K) : n = 0 ∨ ∀ b o, A = some ⟨b, o, none⟩ → b ≠ g := h.lo.imp id fun lo b o hA => by
  have := lo b o hA; have := h.gl; omega
theorem SrcB.keep {w w' : World} {L g : Nat} {A : Option Addr} {n c : Nat} {K : Int} {row : Option Nat} (h : SrcB w L g A n c K) (hg : w.grownBy w' row) (h1 : row ≠ some g) (h2 : ∀ k, row = some k → L ≤ k) : SrcB w' L g A n c K := by
  refine ⟨?_, ?_, h.lo, h.gl, h.len⟩
  · obtain ⟨a, s, hh, r⟩ := h.src
    exact ⟨a, s, (hg.block g (heap_lt hh) (fun e => h1 e.symm)).trans hh, r⟩
  · rcases h.lo with h0 | lo
    · exact .inl h0
    rcases h.byt with hb | ⟨b, o, hA, hb⟩
    · exact .inl hb
    · refine .inr ⟨b, o, hA, fun j hj => ?_⟩
      obtain ⟨x, hx, hx0, hx1⟩ := hb j hj
      refine ⟨x, hg.cell hx (fun e => ?_), hx0, hx1⟩
      have e1 := h2 b e.symm
      have e2 := lo b o hA
      omega
theorem SrcB.alloc {w : World} {L g : Nat} {A : Option Addr} {n c : Nat} {K : Int} (h : SrcB w L g A n c K) (o : Obj) : SrcB (w.alloc o) L g A n c K :=
  h.keep (gbAlloc (gbRefl w none) o) (by simp) (by simp)
theorem SrcB.drew {w : World} {L g : Nat} {A : Option Addr} {n c : Nat} {K : Int} (h : SrcB w L g A n c K) : SrcB w.drew L g A n c K :=
  h.keep (w' := w.drew) (row := none) ⟨rfl, rfl, rfl, Nat.le_refl _, fun _ _ _ => rfl⟩ (by simp) (by simp)
theorem SrcB.below {w w' : World} {L g : Nat} {A : Option Addr} {n c : Nat} {K : Int} (h : SrcB w L g A n c K) (hb : Below w.heap.size w w') : SrcB w' L g A n c K :=
  h.keep (gbBelow hb none) (by simp) (by simp)
theorem SrcB.more {w : World} {L g : Nat} {A : Option Addr} {n c : Nat} {K K' : Int} (h : SrcB w L g A n c K) (hK : K ≤ K') : SrcB w L g A n c K' := by
  obtain ⟨⟨a, s, hh, r0, r1⟩, hb, hn, hl, hm⟩ := h
  exact ⟨⟨a, s, hh, r0, by omega⟩, hb, hn, hl, hm⟩

theorem pick_any (L g : Nat) (A : Option Addr) (n c : Nat) (K m : Int) (w : World) (hs : SrcB w L g A n c K) (hK : K ≤ 100000) (h1 : 1 ≤ m) (h2 : m ≤ 1000000000) :
    Calls Tryd.prog 26 #[.pointer (some ⟨g, 0, none⟩), .int .i64 m] w fun e w' => ∃ x : Int, e = .returned (.int .i64 x) ∧ 0 ≤ x ∧ x < m ∧ SrcB w' L g A n c (K + 2) ∧ w.grownBy w' (some g) := by
  by_cases h : m ≤ 1
  · go_enter Tryd.func26, Tryd.ntmps26
    go_wp2
    go_ret
    exact ⟨0, rfl, by omega, by omega, hs.more (by omega), gbRefl _ _⟩
  · have hmod : ∀ y : Int, 0 ≤ y → 0 ≤ y % m ∧ y % m < m := fun y hy => ⟨Int.emod_nonneg _ (by omega), Int.emod_lt_of_pos _ (by omega)⟩
    have Hm := Lib.hid hmod
    clear hmod
    by_cases h200 : m ≤ 200
    · go_enter Tryd.func26, Tryd.ntmps26
      go_wp2_with fail
      refine (next_any g A n c K _ hs.src hs.byt hs.len (by omega)).mono ?_
      rintro e w1 ⟨x, rfl, hx0, hx1, hs1, hg1⟩
      go_wp2
      go_ret
      obtain ⟨a, s, hh, r0, r1⟩ := hs1
      exact ⟨_, rfl, (Hm.out x hx0).1, (Hm.out x hx0).2, ⟨⟨a, s, hh, r0, by omega⟩, hs.byt.below hg1 hs.ne, hs.lo, hs.gl, hs.len⟩, hg1⟩
    · go_enter Tryd.func26, Tryd.ntmps26
      go_wp2_with fail
      refine (next_any g A n c K _ hs.src hs.byt hs.len (by omega)).mono ?_
      rintro e w1 ⟨x, rfl, hx0, hx1, hs1, hg1⟩
      have hb1 := hs.byt.below hg1 hs.ne
      go_wp2_with fail
      refine (next_any g A n c (K + 1) _ hs1 hb1 hs.len (by omega)).mono ?_
      rintro e w2 ⟨y, rfl, hy0, hy1, hs2, hg2⟩
      go_wp2
      go_ret
      obtain ⟨a, s, hh, r0, r1⟩ := hs2
      exact ⟨_, rfl, (Hm.out (x * 256 + y) (by omega)).1, (Hm.out (x * 256 + y) (by omega)).2, ⟨⟨a, s, hh, r0, by omega⟩, hb1.below hg2 hs.ne, hs.lo, hs.gl, hs.len⟩, gbTrans hg1 hg2⟩

theorem from_any (A : Option Addr) (n c : Nat) (w : World) (hb : Byt w A n) (hn : n ≤ 9223372036854775807) :
    Calls Tryd.prog 17 #[.slice A n c] w fun e w' => ∃ g, e = .returned (.pointer (some ⟨g, 0, none⟩)) ∧ SrcB w' w.heap.size g A n c 0 ∧ Below w.heap.size w w' ∧ w.heap.size ≤ g ∧ g < w'.heap.size := by
  go_enter Tryd.func17, Tryd.ntmps17
  go_wp2
  go_ret
  refine ⟨w.heap.size, rfl, ⟨⟨0, 0, heap_alloc_new w _, by omega, by omega⟩, ?_, hb.lo, Nat.le_refl _, hn⟩, (Below.refl _ _).alloc (Nat.le_refl _) _, by simp, by simp⟩
  exact hb.below (g := w.heap.size) (gbAlloc (gbRefl _ _) _) (hb.lo.imp id fun lo b o h => by have := lo b o h; omega)
end Go.Proofs.YteiofihgpalkiaaDoor
