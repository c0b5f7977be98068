/- The plain law of tables: what is found keeps all rules, waits as told, and turns around. -/
import Derived.Test.YteiofihgpalkiaaTabG
import Derived.Test.YteiofihgpalkiaaTabB
import Derived.Test.YteiofihgpalkiaaTabSpec2
namespace Go.Proofs.Yteiofihgpalkiaa
open Go Go.RowKit

theorem runFirst_kept (kept : Nat → Bool) : ∀ n k, runT kept nxFirst none n = some k → kept k = true ∧ k < n := by
  intro n
  induction n with
  | zero => intro k h; simp [runT] at h
  | succ n ih =>
    intro k h
    simp only [runT] at h
    split at h
    · rename_i hk
      cases hr : runT kept nxFirst none n with
      | none =>
        rw [hr] at h
        simp only [nxFirst, Option.some.injEq] at h
        subst h
        exact ⟨hk, by omega⟩
      | some j =>
        rw [hr] at h
        simp only [nxFirst, Option.some.injEq] at h
        subst h
        have := ih _ hr
        exact ⟨this.1, by omega⟩
    · have := ih _ h
      exact ⟨this.1, by omega⟩
theorem runBest_kept (kept : Nat → Bool) (sum : Nat → Int) : ∀ n k, runT kept (nxBest sum) none n = some k → kept k = true ∧ k < n := by
  intro n
  induction n with
  | zero => intro k h; simp [runT] at h
  | succ n ih =>
    intro k h
    simp only [runT] at h
    split at h
    · rename_i hk
      cases hr : runT kept (nxBest sum) none n with
      | none =>
        rw [hr] at h
        simp only [nxBest, Option.some.injEq] at h
        subst h
        exact ⟨hk, by omega⟩
      | some j =>
        rw [hr] at h
        simp only [nxBest] at h
        have := ih _ hr
        split at h <;> (simp only [Option.some.injEq] at h; subst h)
        · exact ⟨hk, by omega⟩
        · exact ⟨this.1, by omega⟩
    · have := ih _ h
      exact ⟨this.1, by omega⟩

/-- what is waited by the rules from the first k on -/
def sumW (p : Int) (t : List Int) (l : List Rul) : Int := (l.map (wt p t)).sum
theorem waitsF_true (p : Int) (t : List Int) : ∀ (l : List Rul) (s : Int), (waitsF p t l s).2 = true → (∀ r ∈ l, wt p t r ≤ r.mo) ∧ (waitsF p t l s).1 = s + sumW p t l := by
  intro l
  induction l with
  | nil => intro s _; simp [waitsF, sumW]
  | cons r l ih =>
    intro s h
    simp only [waitsF] at h ⊢
    split at h
    · cases h
    · rename_i hn
      rw [if_neg hn]
      have := ih _ h
      refine ⟨?_, ?_⟩
      · intro x hx
        rcases List.mem_cons.1 hx with rfl | hx
        · omega
        · exact this.1 x hx
      · rw [this.2]; simp [sumW]; omega
theorem waitsF_of (p : Int) (t : List Int) : ∀ (l : List Rul) (s : Int), (∀ r ∈ l, wt p t r ≤ r.mo) → (waitsF p t l s).2 = true := by
  intro l
  induction l with
  | nil => intro s _; simp [waitsF]
  | cons r l ih =>
    intro s h
    have h1 := h r (by simp)
    simp only [waitsF]
    rw [if_neg (by omega)]
    exact ih _ (fun x hx => h x (by simp [hx]))
theorem gi_turn (p d : Int) (t : List Int) (j : Nat) (h : j < t.length) : gi (turnF p d t) j = (gi t j + d) % p := by simp [gi, turnF, h]
theorem vTab_turn {ev p d : Int} {t : List Int} (h : vTab ev p t) (hp : 0 < p) : vTab ev p (turnF p d t) := by
  refine ⟨by simp [turnF, h.1], fun j hj => ?_⟩
  have hj' : j < t.length := by simpa [turnF] using hj
  rw [gi_turn _ _ _ _ hj']
  exact ⟨Int.emod_nonneg _ (by omega), Int.emod_lt_of_pos _ hp⟩
theorem wt_turn {ev p d : Int} {t : List Int} {r : Rul} (h : vTab ev p t) (hr : vRul ev p r) (_hp : 0 < p) : wt p (turnF p d t) r = wt p t r := by
  obtain ⟨a1, a2, a3, a4, _⟩ := hr
  have h1 := h.1
  unfold wt
  rw [gi_turn _ _ _ _ (by omega), gi_turn _ _ _ _ (by omega)]
  have e : ((gi t r.to.toNat + d) % p - (gi t r.fr.toNat + d) % p - r.le) % p = (gi t r.to.toNat - gi t r.fr.toNat - r.le) % p := by
    have h2 : ∀ x y : Int, (x % p - y % p) % p = (x - y) % p := fun x y => (Int.sub_emod x y p).symm
    have h3 : (gi t r.to.toNat - gi t r.fr.toNat - r.le) = ((gi t r.to.toNat + d) - (gi t r.fr.toNat + d)) - r.le := by omega
    rw [h3, ← Int.emod_sub_emod ((gi t r.to.toNat + d) % p - (gi t r.fr.toNat + d) % p), h2, Int.emod_sub_emod]
  rw [e]
theorem keeps_turn {ev p d : Int} {t : List Int} {l : List Rul} (h : vTab ev p t) (hr : ∀ j, j < l.length → vRul ev p (ru l j)) (hp : 0 < p) (hk : (waitsF p t l 0).2 = true) : (waitsF p (turnF p d t) l 0).2 = true := by
  refine waitsF_of _ _ _ _ fun r hm => ?_
  have hv : vRul ev p r := by
    obtain ⟨j, hj, rfl⟩ := List.mem_iff_getElem.1 hm
    have := hr j hj
    simpa [ru, hj] using this
  rw [wt_turn h hv hp]
  exact (waitsF_true _ _ _ _ hk).1 r hm
theorem wt_ru {p : Int} {t : List Int} {l : List Rul} (hk : (waitsF p t l 0).2 = true) (j : Nat) (hj : j < l.length) : wt p t (ru l j) ≤ (ru l j).mo := by
  have := (waitsF_true _ _ _ _ hk).1 l[j] (List.getElem_mem hj)
  simpa [ru, hj] using this
theorem sumW_step (p : Int) (t : List Int) (l : List Rul) (k : Nat) (h : k < l.length) : sumW p t (l.take (k + 1)) = sumW p t (l.take k) + wt p t (ru l k) := by
  unfold sumW; rw [List.take_succ_eq_append_getElem h, List.map_append, List.sum_append]; simp [ru, h]
theorem sumW_bd {ev p : Int} {t : List Int} {l : List Rul} (hp : 0 < p) (hr : ∀ j, j < l.length → vRul ev p (ru l j)) : ∀ k, k ≤ l.length → 0 ≤ sumW p t (l.take k) ∧ sumW p t (l.take k) ≤ 2 * p * k := by
  intro k
  induction k with
  | zero => intro _; simp [sumW]
  | succ k ih =>
    intro hk
    have h1 := ih (by omega)
    have h2 := wt_bd (t := t) hp (hr k (by omega))
    rw [sumW_step _ _ _ _ (by omega)]
    have e : 2 * p * ((k + 1 : Nat) : Int) = 2 * p * k + 2 * p := by rw [show ((k + 1 : Nat) : Int) = (k : Int) + 1 by omega, Int.mul_add, Int.mul_one]
    omega
theorem d_end {p le d D : Int} (h : (d - le) % p = (D - le) % p) (h1 : le ≤ d) (h2 : d < le + p) : d = le + (D - le) % p := by
  rw [Int.emod_eq_of_lt (by omega) (by omega)] at h
  omega
theorem d_up {p le d D : Int} (h : (d - le) % p = (D - le) % p) : (d + p - le) % p = (D - le) % p := by
  rw [show d + p - le = (d - le) + p by omega, Int.add_emod_right]; exact h
theorem d_dn {p le d D : Int} (h : (d - le) % p = (D - le) % p) : (d - p - le) % p = (D - le) % p := by
  rw [show d - p - le = (d - le) - p by omega, Int.sub_emod_right]; exact h

theorem Byt.bl {w w' : World} {A : Option Addr} {n : Nat} (h : Byt w A n) (hb : Below w.heap.size w w') : Byt w' A n := by
  rcases h with h | ⟨b, o, hA, h⟩
  · exact .inl h
  · refine .inr ⟨b, o, hA, fun j hj => ?_⟩
    obtain ⟨x, hx, hx0, hx1⟩ := h j hj
    exact ⟨x, by rw [hb.cell (lt_of_cell hx)]; exact hx, hx0, hx1⟩

/-- what stays true while the law goes on -/
structure LS (w0 w : World) (A : Option Addr) (n g : Nat) (rs : List Rul) : Prop where
  byt : Byt w A n
  rul : RdR w g 0 rs
  lt : g < w.heap.size
  bel : Below w0.heap.size w0 w
theorem LS.go {w0 w w' : World} {A : Option Addr} {n g : Nat} {rs : List Rul} (h : LS w0 w A n g rs) (hb : Below w.heap.size w w') : LS w0 w' A n g rs :=
  ⟨h.byt.bl hb, h.rul.below hb, Nat.lt_of_lt_of_le h.lt hb.size, h.bel.trans (hb.mono h.bel.size)⟩
theorem newI_below {w w' : World} {B : Nat} {v : Value} {l : List Int} (h : NewI w B v l) (hb : Below w.heap.size w w') : NewI w' B v l := by
  obtain ⟨g, c, rfl, h1, h2, h3⟩ := h
  exact ⟨g, c, rfl, h1, Nat.lt_of_lt_of_le h2 hb.size, h3.below hb⟩
theorem vTab_two (p : Int) (hp : 0 < p) : vTab 2 p [0, 0] := by
  refine ⟨by simp, fun j hj => ?_⟩
  have : j = 0 ∨ j = 1 := by simp at hj; omega
  rcases this with rfl | rfl <;> simp [gi] <;> omega
theorem vTab_tab' (p m k : Nat) (hp : 0 < p) : vTab ((m : Int) + 1) p (tab p m k) := by
  have h := vTab_tab p m k hp
  rwa [show ((m + 1 : Nat) : Int) = (m : Int) + 1 by omega] at h
theorem RdI.new2 (w : World) (x y : Int) (t : TypeId) : RdI (w.alloc (.cells #[.int .i64 x, .int .i64 y] t)) w.heap.size 0 [x, y] := by
  intro j hj
  have : j = 0 ∨ j = 1 := by simp at hj; omega
  rcases this with rfl | rfl <;> simp [gi]
theorem bools2 (w : World) (t : TypeId) (j : Nat) (hj : j < 2) : (w.alloc (.cells #[.bool true, .bool true] t)).cell? ⟨w.heap.size, j, none⟩ = some (.bool true) := by
  have : j = 0 ∨ j = 1 := by omega
  rcases this with rfl | rfl <;> simp
theorem ring_cells (W : World) (t1 t2 t3 : TypeId) :
    let W3 := ((W.alloc (.cells #[.int .i64 0, .int .i64 1, .int .i64 1, .int .i64 2, .int .i64 1, .int .i64 0, .int .i64 2, .int .i64 3] t1)).alloc (.cells #[.int .i64 0, .int .i64 1] t2)).alloc (.cells #[.bool true, .bool true] t3)
    RdR W3 W.heap.size 0 [⟨0, 1, 1, 2⟩, ⟨1, 0, 2, 3⟩] ∧ RdI W3 (W.heap.size + 1) 0 [0, 1] ∧ W3.cell? ⟨W.heap.size + 1 + 1, 0, none⟩ = some (.bool true) ∧ W3.cell? ⟨W.heap.size + 1 + 1, 1, none⟩ = some (.bool true) ∧ Below W.heap.size W W3 := by
  intro W3
  have h1 : RdR (W.alloc (.cells #[.int .i64 0, .int .i64 1, .int .i64 1, .int .i64 2, .int .i64 1, .int .i64 0, .int .i64 2, .int .i64 3] t1)) W.heap.size 0 [⟨0, 1, 1, 2⟩, ⟨1, 0, 2, 3⟩] := by
    intro j hj
    have : j = 0 ∨ j = 1 := by simp at hj; omega
    rcases this with rfl | rfl <;> simp [ru]
  have h2 : RdI ((W.alloc (.cells #[.int .i64 0, .int .i64 1, .int .i64 1, .int .i64 2, .int .i64 1, .int .i64 0, .int .i64 2, .int .i64 3] t1)).alloc (.cells #[.int .i64 0, .int .i64 1] t2)) (W.heap.size + 1) 0 [0, 1] := by
    have := RdI.new2 (W.alloc (.cells #[.int .i64 0, .int .i64 1, .int .i64 1, .int .i64 2, .int .i64 1, .int .i64 0, .int .i64 2, .int .i64 3] t1)) 0 1 t2
    rwa [World.size_alloc] at this
  refine ⟨h1.below (((Below.refl _ _).alloc (Nat.le_refl _) _).alloc (by simp) _), h2.below ((Below.refl _ _).alloc (Nat.le_refl _) _), ?_, ?_, (((Below.refl _ _).alloc (Nat.le_refl _) _).alloc (by simp) _).alloc (by simp; omega) _⟩
  · have := bools2 ((W.alloc (.cells #[.int .i64 0, .int .i64 1, .int .i64 1, .int .i64 2, .int .i64 1, .int .i64 0, .int .i64 2, .int .i64 3] t1)).alloc (.cells #[.int .i64 0, .int .i64 1] t2)) t3 0 (by omega)
    rwa [World.size_alloc, World.size_alloc] at this
  · have := bools2 ((W.alloc (.cells #[.int .i64 0, .int .i64 1, .int .i64 1, .int .i64 2, .int .i64 1, .int .i64 0, .int .i64 2, .int .i64 3] t1)).alloc (.cells #[.int .i64 0, .int .i64 1] t2)) t3 1 (by omega)
    rwa [World.size_alloc, World.size_alloc] at this
/-- lists that are kept while the law goes on -/
def RS (w : World) (q : List (Nat × List Int)) : Prop := ∀ x ∈ q, RdI w x.1 0 x.2
theorem RS.go {w w' : World} {q : List (Nat × List Int)} (h : RS w q) (hb : Below w.heap.size w w') : RS w' q := fun x hx => (h x hx).below hb
theorem RS.add {w : World} {q : List (Nat × List Int)} (h : RS w q) {g : Nat} {l : List Int} (hl : RdI w g 0 l) : RS w ((g, l) :: q) := by
  intro x hx
  rcases List.mem_cons.1 hx with rfl | hx
  · exact hl
  · exact h x hx
theorem RS.nil (w : World) : RS w [] := fun x hx => by cases hx
theorem RS.hd {w : World} {q : List (Nat × List Int)} {g : Nat} {l : List Int} (h : RS w ((g, l) :: q)) : RdI w g 0 l := h (g, l) (by simp)
theorem RS.tl {w : World} {q : List (Nat × List Int)} {x : Nat × List Int} (h : RS w (x :: q)) : RS w q := fun y hy => h y (by simp [hy])
end Go.Proofs.Yteiofihgpalkiaa
