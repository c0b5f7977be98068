/- The plain facts that the law of shifts asks for; what stays true while it goes on. -/
import Derived.Test.YteiofihgpalkiaaDoorShZ
import Derived.Test.YteiofihgpalkiaaDoorShV
import Derived.Test.YteiofihgpalkiaaDoorShG
namespace Go.Proofs.YteiofihgpalkiaaDoor
open Go Go.RowKit
set_option maxRecDepth 100000

theorem law_facts (r : SR) (N : Nat) (hN : (N : Int) = r.slots) (i : Nat) (hi : i < (all r).length) :
    ((all r).getD i []).length = N ∧ acc r ((all r).getD i []) ⟨0, 0, 0, 0, false⟩ = true ∧ sc r ((all r).getD i []) ⟨0, 0, 0, 0, false⟩ = (all r)[i + 1]? ∧ (∀ j, j + 1 = i → lss ((all r).getD j []) ((all r).getD i []) = true) := by
  have e : ∀ j (h : j < (all r).length), (all r).getD j [] = (all r)[j] := fun j h => by simp [h]
  have hm := (mem_lst r _ _ _).1 (getD_mem (all r) i hi)
  refine ⟨by rw [hm.1]; omega, hm.2, ?_, ?_⟩
  · have h1 : all r = (all r).take i ++ (all r).getD i [] :: (all r).drop (i + 1) := by
      rw [e i hi, ← List.drop_eq_getElem_cons hi, List.take_append_drop]
    have h2 := sc_lst r r.slots.toNat ⟨0, 0, 0, 0, false⟩ _ _ _ h1
    rw [h2, List.head?_drop]
  · intro j hj
    subst hj
    rw [e j (by omega), e (j + 1) hi]
    exact List.pairwise_iff_getElem.1 (lst_sorted r r.slots.toNat ⟨0, 0, 0, 0, false⟩) j (j + 1) (by have := hi; unfold all at this; omega) hi (by omega)

theorem bits_facts (r : SR) (hr : r.Ok) (N : Nat) (hN : (N : Int) = r.slots) (t : List Bool) (ht : t.length = N) : r8go r t 0 0 0 = acc r t ⟨0, 0, 0, 0, false⟩ :=
  (acc_r8 r t ⟨0, 0, 0, 0, false⟩ 0 0 0 (by simp only; omega) rfl rfl (by simp) (by omega) (by omega) (by have := hr.l0; have := hr.lm; omega) (by omega) (by have := hr.r1; omega) (by omega) (by omega) (by have := hr.p1; omega)).symm
theorem cnt_all (r : SR) (N : Nat) (hN : (N : Int) = r.slots) : cnt (fun x => acc r (bitsOf N x) ⟨0, 0, 0, 0, false⟩) (2 ^ N) = (all r).length := by
  rw [cnt_lst]
  unfold all
  congr 2
  omega
theorem cnt_le (p : Nat → Bool) : ∀ m, cnt p m ≤ m := by
  intro m
  induction m with
  | zero => simp [cnt]
  | succ m ih => simp only [cnt]; split <;> omega

theorem Byt.bel {w w' : World} {A : Option Addr} {n : Nat} (h : Byt w A n) (hb : Below w.heap.size w w') : Byt w' A n := by
  rcases h with h | ⟨b, o, hA, h⟩
  · exact .inl h
  · refine .inr ⟨b, o, hA, fun j hj => ?_⟩
    obtain ⟨x, hx, hx0, hx1⟩ := h j hj
    exact ⟨x, by rw [hb.cell (lt_of_cell hx)]; exact hx, hx0, hx1⟩

/-- what stays true while the law goes on -/
structure LW (w wx : World) (r : SR) (D gl gp k : Nat) : Prop where
  box : Rw wx D 25 #[.int .i64 r.slots, .int .i64 r.least, .int .i64 r.most, .int .i64 r.row, .int .i64 r.pause]
  rl : RdS wx gl 0 (fT ByteArray.empty ((all r).take 64))
  rp : RdS wx gp 0 (fT ByteArray.empty ((all r).take k))
  bel : Below w.heap.size w wx
theorem LW.next {w wx wy : World} {r : SR} {D gl gp k : Nat} (h : LW w wx r D gl gp k) (hb : Below wx.heap.size wx wy) : LW w wy r D gl gp k :=
  ⟨h.box.below hb, h.rl.below hb, h.rp.below hb, h.bel.trans (hb.mono h.bel.size)⟩
theorem LW.drewN {w wx : World} {r : SR} {D gl gp k : Nat} (h : LW w wx r D gl gp k) (n : Nat) : LW w (wx.drewN n) r D gl gp k := ⟨h.box, h.rl, h.rp, bdrewN h.bel n⟩
theorem LW.drew {w wx : World} {r : SR} {D gl gp k : Nat} (h : LW w wx r D gl gp k) : LW w wx.drew r D gl gp k := ⟨h.box, h.rl, h.rp, bdrewN h.bel 1⟩
theorem take_getD (L : List (List Bool)) (k i : Nat) (h : i < k) : (L.take k).getD i [] = L.getD i [] := by
  simp [h]
theorem LW.list {w wx : World} {r : SR} {D gl gp k : Nat} (h : LW w wx r D gl gp k) (i : Nat) (hi : i < ((all r).take 64).length) : wx.cell? ⟨gl, i, none⟩ = some (.string (bts ((all r).getD i []))) := by
  have h1 := h.rl i (by rw [fT_len]; exact hi)
  rw [gs_fT _ i hi, Nat.zero_add, take_getD _ _ _ (by rw [List.length_take] at hi; omega)] at h1
  exact h1
theorem LW.part {w wx : World} {r : SR} {D gl gp k : Nat} (h : LW w wx r D gl gp k) (i : Nat) (hi : i < ((all r).take k).length) : wx.cell? ⟨gp, i, none⟩ = some (.string (bts ((all r).getD i []))) := by
  have h1 := h.rp i (by rw [fT_len]; exact hi)
  rw [gs_fT _ i hi, Nat.zero_add, take_getD _ _ _ (by rw [List.length_take] at hi; omega)] at h1
  exact h1
theorem shl_fact (N : Nat) (h1 : 1 ≤ N) (h8 : N ≤ 8) : wrap64 (2 ^ min (IntKind.u64.wrap (N : Int)).toNat 64) = ((2 ^ N : Nat) : Int) := by
  have h : N = 1 ∨ N = 2 ∨ N = 3 ∨ N = 4 ∨ N = 5 ∨ N = 6 ∨ N = 7 ∨ N = 8 := by omega
  rcases h with rfl | rfl | rfl | rfl | rfl | rfl | rfl | rfl <;> decide +kernel
theorem two_pow_le (N : Nat) (h8 : N ≤ 8) : 2 ^ N ≤ 256 := Nat.pow_le_pow_right (n := 2) (by omega) h8
theorem bit_all : ∀ k, k < 8 → ∀ x, x < 256 → (bits .and .i64 ((x : Nat) / 2 ^ min (IntKind.u64.wrap ((k : Nat) : Int)).toNat 64 : Int) 1 == 1) = (x / 2 ^ k % 2 == 1) := by decide +kernel
theorem bit_all2 : ∀ k, k < 8 → ∀ x, x < 256 → (bits .and .i64 ((x : Nat) / 2 ^ min k 64 : Int) 1 == 1) = (x / 2 ^ k % 2 == 1) := by decide +kernel
theorem rd_cells {w : World} {g N : Nat} {l : List Int} (h : RdI w g 0 l) (hl : l.length = N) : ∀ k, k < N → w.cell? ⟨g, k, none⟩ = some (.int .i64 (gi l k)) := fun k hk => by
  have := h k (by rw [hl]; exact hk)
  rwa [Nat.zero_add] at this
theorem cov_none {S : List (List Bool)} {C l : List Int} {N : Nat} (h : ∀ k, k < N → gi l k ≤ cov S C k) (h0 : ∀ k, k < N → 0 ≤ gi l k) (hS : S.length = 0) : ∀ k, k < N → gi l k = 0 := fun k hk => by
  have h1 := h k hk
  have h2 := h0 k hk
  have h3 : S = [] := List.eq_nil_of_length_eq_zero hS
  have h4 : cov S C k = 0 := by rw [h3]; simp [cov]
  omega
theorem meas {g N k : Nat} (h : g = N - k) (hk : k < N) : N - (k + 1) < g := by omega
theorem covers_dec {a b c : Int} (h1 : a = b) (h2 : c ≤ b) : decide (a < c) = false := by simp; omega
theorem bts_snoc (t : List Bool) (k : Nat) (h : k < t.length) : bts (t.take (k + 1)) = bts (t.take k) ++ ⟨#[if t[k] = true then 119 else 46]⟩ := by
  apply ByteArray.ext
  rw [List.take_succ_eq_append_getElem h]
  simp only [bts, List.map_append, List.map_cons, List.map_nil, ByteArray.data_append]
  simp
end Go.Proofs.YteiofihgpalkiaaDoor
