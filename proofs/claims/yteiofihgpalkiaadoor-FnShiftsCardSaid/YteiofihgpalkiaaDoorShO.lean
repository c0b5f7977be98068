/- The plain law of shifts: their texts stand in the order of texts. -/
import Derived.Test.YteiofihgpalkiaaDoorShN
namespace Go.Proofs.YteiofihgpalkiaaDoor
open Go Go.RowKit

def tx (u : List Bool) : List UInt8 := u.map fun b => if b then (119 : UInt8) else 46
theorem tx_toList (u : List Bool) : (bts u).toList = tx u := by rw [Lib.toList_data]; simp [bts, tx]
def lss (u v : List Bool) : Bool := Op.bytesLess (tx u) (tx v)
theorem lss_same (b : Bool) (u v : List Bool) : lss (b :: u) (b :: v) = lss u v := by
  simp [lss, tx, Op.bytesLess]
theorem lss_ft (u v : List Bool) : lss (false :: u) (true :: v) = true := by
  simp [lss, tx, Op.bytesLess]
theorem lst_sorted (r : SR) : ∀ (n : Nat) (s : St), (lst r n s).Pairwise (fun u v => lss u v = true) := by
  intro n
  induction n with
  | zero => intro s; unfold lst; split <;> simp
  | succ n ih =>
    intro s
    have h1 : ∀ b, (match nxt r s b with | none => [] | some t => (lst r n t).map (b :: ·)).Pairwise (fun u v => lss u v = true) := by
      intro b
      cases nxt r s b with
      | none => simp
      | some t => simp only [List.pairwise_map, lss_same]; exact ih t
    unfold lst
    rw [List.pairwise_append]
    refine ⟨h1 false, h1 true, ?_⟩
    intro u hu v hv
    cases h2 : nxt r s false with
    | none => simp [h2] at hu
    | some t =>
      cases h3 : nxt r s true with
      | none => simp [h3] at hv
      | some t' =>
        simp only [h2, List.mem_map] at hu
        simp only [h3, List.mem_map] at hv
        obtain ⟨u', _, rfl⟩ := hu
        obtain ⟨v', _, rfl⟩ := hv
        exact lss_ft u' v'
theorem lss_irr (u : List Bool) : lss u u = false := by
  induction u with
  | nil => rfl
  | cons b u ih => rw [lss_same]; exact ih
theorem lss_tf (u v : List Bool) : lss (true :: u) (false :: v) = false := by
  simp [lss, tx, Op.bytesLess]
theorem lss_asymm : ∀ {u v : List Bool}, lss u v = true → lss v u = false := by
  intro u
  induction u with
  | nil =>
    intro v h
    cases v with
    | nil => rfl
    | cons b v => rfl
  | cons a u ih =>
    intro v h
    cases v with
    | nil => cases h
    | cons b v =>
      cases a <;> cases b
      · rw [lss_same] at h ⊢; exact ih h
      · exact lss_tf v u
      · rw [lss_tf] at h; cases h
      · rw [lss_same] at h ⊢; exact ih h
theorem lss_ne {u v : List Bool} (h : lss u v = true) : u ≠ v := by
  rintro rfl; rw [lss_irr] at h; cases h
theorem tx_inj {u v : List Bool} (h : tx u = tx v) : u = v := by
  induction u generalizing v with
  | nil => cases v with
    | nil => rfl
    | cons b v => simp [tx] at h
  | cons a u ih => cases v with
    | nil => simp [tx] at h
    | cons b v =>
      simp only [tx, List.map_cons, List.cons.injEq] at h
      obtain ⟨h1, h2⟩ := h
      rw [ih h2]
      cases a <;> cases b <;> simp_all
/-- what the comparisons of texts say -/
theorem leq_false {u v : List Bool} (h : lss u v = true) : (Op.bytesLess (bts v).toList (bts u).toList || (bts v).toList == (bts u).toList) = false := by
  rw [tx_toList, tx_toList]
  have h1 := lss_asymm h
  have h2 := lss_ne h
  unfold lss at h1
  rw [h1]
  simp
  exact fun e => h2 (tx_inj e).symm
theorem bts_eq (u : List Bool) : ((bts u).toList == (bts u).toList) = true := by simp
end Go.Proofs.YteiofihgpalkiaaDoor
