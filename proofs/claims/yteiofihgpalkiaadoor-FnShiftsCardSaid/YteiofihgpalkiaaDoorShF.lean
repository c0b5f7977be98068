/- The walks of shifts: CountShifts, FirstShifts, CountsShared. -/
import Derived.Test.YteiofihgpalkiaaDoorShE
import Derived.Test.YteiofihgpalkiaaDoorInts
namespace Go.Proofs.YteiofihgpalkiaaDoor
open Go Go.RowKit
set_option maxRecDepth 100000

/-- all shifts of a rule -/
def all (r : SR) : List (List Bool) := lst r r.slots.toNat ⟨0, 0, 0, 0, false⟩
theorem slots_nat {r : SR} (hr : r.Ok) : (⟨0, 0, 0, 0, false⟩ : St).slot + (r.slots.toNat : Int) = r.slots := by have := hr.s1; simp only; omega
theorem all_le {r : SR} (hr : r.Ok) : (all r).length ≤ 256 := by
  have h1 := lst_le r r.slots.toNat ⟨0, 0, 0, 0, false⟩
  have h2 : (2 : Nat) ^ r.slots.toNat ≤ 2 ^ 8 := Nat.pow_le_pow_right (by omega) (by have := hr.s8; omega)
  unfold all
  omega

theorem countShifts_any (r : SR) (hr : r.Ok) (w : World) : Calls Tryd.prog 6 #[r.cell] w fun e w' => e = .returned (.tuple #[.int .i64 ((all r).length : Nat), .bool true]) ∧ Below w.heap.size w w' := by
  have c1 := fun w => validRule_true r hr w
  have c2 := fun w => asShifts_any r w
  have c3 := fun w b => count_any r hr r.slots.toNat ⟨0, 0, 0, 0, false⟩ w b (slots_nat hr) (st0_in hr)
  unfold St.cell at c3
  simp only at c3
  obtain ⟨s0, l, m, k, p⟩ := r
  unfold SR.cell at c1 c2 ⊢
  simp only at c1 c2 c3 ⊢
  go_enter Tryd.func6, Tryd.ntmps6
  go_wp2_with fail
  refine (c1 _).mono ?_
  rintro e w1 ⟨rfl, hb1⟩
  have B0 := (Rw.new w 25 #[.int .i64 s0, .int .i64 l, .int .i64 m, .int .i64 k, .int .i64 p]).below hb1
  have W1 : Below w.heap.size w w1 := ((Below.refl _ _).alloc (Nat.le_refl _) _).trans (hb1.mono (by simp))
  clear hb1
  have f0 := B0.cell 0
  have f1 := B0.cell 1
  have f2 := B0.cell 2
  have f3 := B0.cell 3
  have f4 := B0.cell 4
  simp at f0 f1 f2 f3 f4
  go_wp2_with fail
  refine (c2 _).mono ?_
  rintro e w2 ⟨b, rfl, hbb, hm, hb2⟩
  have W2 : Below w.heap.size w w2 := W1.trans (hb2.mono W1.size)
  have hws := W1.size
  clear f0 f1 f2 f3 f4 B0 c1 c2
  go_wp2_with fail
  refine (c3 _ b hm).mono ?_
  rintro e w3 ⟨rfl, hm3, hf3⟩
  go_wp2
  go_ret2
  exact ⟨rfl, W2.trans (hf3.toBelow W2.size (fun i hi e => by omega))⟩

theorem firstShifts_any (r : SR) (hr : r.Ok) (c : Nat) (hc : c ≤ 64) (w : World) : Calls Tryd.prog 7 #[r.cell, .int .i64 c] w fun e w' => ∃ v, e = .returned (.tuple #[v, .bool true]) ∧ NewS w' w.heap.size v (fT ByteArray.empty ((all r).take c)) ∧ Below w.heap.size w w' := by
  have c1 := fun w => validRule_true r hr w
  have c2 := fun w => asShifts_any r w
  have c3 := fun w b base v hm ho hn hb => list_any r hr r.slots.toNat ⟨0, 0, 0, 0, false⟩ w b base c v [] ByteArray.empty (slots_nat hr) (st0_in hr) hm ho hn (by simp) hc (by have := hr.s8; simp; omega) hb
  unfold St.cell at c3
  simp only [List.nil_append, List.length_nil, Nat.sub_zero] at c3
  have eA : lst r r.slots.toNat ⟨0, 0, 0, 0, false⟩ = all r := rfl
  rw [eA] at c3
  generalize all r = LL at *
  clear eA
  have i1 : decide ((0 : Int) ≤ (c : Int)) = true := by simp
  have i2 : decide ((c : Int) ≤ 64) = true := by simp; omega
  obtain ⟨s0, l, m, k, p⟩ := r
  unfold SR.cell at c1 c2 ⊢
  simp only at c1 c2 c3 ⊢
  go_enter Tryd.func7, Tryd.ntmps7
  go_wp2_with fail
  refine (c1 _).mono ?_
  rintro e w1 ⟨rfl, hb1⟩
  have B0 := (Rw.new w 25 #[.int .i64 s0, .int .i64 l, .int .i64 m, .int .i64 k, .int .i64 p]).below hb1
  have W1 : Below w.heap.size w w1 := ((Below.refl _ _).alloc (Nat.le_refl _) _).trans (hb1.mono (by simp))
  clear hb1
  have f0 := B0.cell 0
  have f1 := B0.cell 1
  have f2 := B0.cell 2
  have f3 := B0.cell 3
  have f4 := B0.cell 4
  simp at f0 f1 f2 f3 f4
  go_wp2_with fail
  go_in
  go_upto_region 3 with fail
  go_wp2_with fail
  refine (c2 _).mono ?_
  rintro e w2 ⟨b, rfl, hbb, hm, hb2⟩
  have W2 : Below w.heap.size w w2 := W1.trans (hb2.mono W1.size)
  have hws := W1.size
  clear f0 f1 f2 f3 f4 B0 c1 c2
  have W2' := W2.alloc W2.size (.cells #[] 9)
  have hm' := hm.fr (C := fun _ => False) ((Fr.refl w2).alloc (.cells #[] 9)) (fun h => h)
  go_wp2_with fail
  refine (c3 _ b w.heap.size _ hm' (OwnS.made w2 _ W2.size) (by simp) (by have := W2.size; simp; omega)).mono ?_
  rintro e w3 ⟨v', rfl, hown, hne, hm3, hf3, hbk⟩
  go_wp2
  go_ret2
  refine ⟨_, rfl, hown.new hne, W2'.trans (hf3.toBelow W2'.size (fun i hi e => ?_))⟩
  rcases e with e | e
  · omega
  · simp [Value.ownBlock] at e; have := W2.size; omega
end Go.Proofs.YteiofihgpalkiaaDoor
