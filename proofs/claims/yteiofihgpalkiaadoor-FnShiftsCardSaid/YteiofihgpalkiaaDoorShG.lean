/- The walks of shifts: CountsShared of one rule. -/
import Derived.Test.YteiofihgpalkiaaDoorShF
namespace Go.Proofs.YteiofihgpalkiaaDoor
open Go Go.RowKit
set_option maxRecDepth 100000

theorem countsShared_any (r : SR) (hr : r.Ok) (g cp : Nat) (k : Int) (h1 : 1 ≤ k) (h8 : k ≤ 8) (w : World) (hR : Rw w g 25 #[.int .i64 r.slots, .int .i64 r.least, .int .i64 r.most, .int .i64 r.row, .int .i64 r.pause]) :
    Calls Tryd.prog 9 #[.slice (some ⟨g, 0, none⟩) 1 cp, .int .i64 k] w fun e w' => ∃ v, e = .returned (.tuple #[v, .bool true]) ∧ NewI w' w.heap.size v [((all r).length : Int)] ∧ Below w.heap.size w w' := by
  have c1 := fun w => countShifts_any r hr w
  have hal := all_le hr
  generalize (all r).length = N at *
  obtain ⟨s0, l, m, q, p⟩ := r
  unfold SR.cell at c1
  simp only at c1 hR
  have i1 : decide ((1 : Int) ≤ k) = true := by simpa
  have i2 : decide (k ≤ 8) = true := by simpa
  go_enter Tryd.func9, Tryd.ntmps9
  go_wp2
  go_loopg [6, 27] 1 (fun gk s6 s27 wr => ∃ (v : Value), v = s6 ∧ v ≠ .slice none 0 0 ∧ Below w.heap.size w wr ∧ ((gk = 1 ∧ s27 = .int .i64 0 ∧ OwnI wr w.heap.size v []) ∨ (gk = 0 ∧ s27 = .int .i64 1 ∧ OwnI wr w.heap.size v [(N : Int)])))
  case atStart => exact ⟨_, rfl, by simp, (Below.refl _ _).alloc (Nat.le_refl _) _, .inl ⟨rfl, rfl, OwnI.made w _ (Nat.le_refl _)⟩⟩
  case round =>
    obtain ⟨v, hv, hne, hb, h⟩ := hrel
    subst hv
    rcases h with ⟨hgk, rfl, hown⟩ | ⟨hgk, rfl, hown⟩
    · have HG := Lib.hid hgk
      clear hgk
      have B := hR.fr (C := fun _ => False) (Fr.ofBelow hb) (fun h => h)
      have f0 := B.cell 0
      have f1 := B.cell 1
      have f2 := B.cell 2
      have f3 := B.cell 3
      have f4 := B.cell 4
      simp at f0 f1 f2 f3 f4
      have hsz := hb.size
      go_wp2_with fail
      refine (c1 _).mono ?_
      rintro e w1 ⟨rfl, hb1⟩
      have hb2 : Below w.heap.size w w1 := (hb.alloc hb.size _).trans (hb1.mono (by simp; omega))
      have own1 := hown.alloc (.cells #[.int .i64 s0, .int .i64 l, .int .i64 m, .int .i64 q, .int .i64 p] 25)
      have own2 : OwnI w1 w.heap.size v [] := ownKeep own1 (gbBelow hb1 none) (fun k hk => by simp)
      clear f0 f1 f2 f3 f4 own1 hown
      go_wp2_with (at_builtin; refine wpList_app rfl _ _ rfl w.heap.size v [] [(N : Int)] rfl (own2.alloc _) w1.heap.size 0 1 1 rfl rfl (RdI.new1 _ _ _) (by simp) (by have := hb2.size; simp; omega) ?_; intro v' w2 hown2 hg2 hn2)
      have hne2 : v' ≠ .slice none 0 0 := fun e => by have := hn2.1 e; simp at this
      have hb3 : Below w.heap.size w w2 := (hb2.alloc hb2.size _).grown hg2 (by have := hb2.size; simp; omega) (fun k hk => (own2.lt k hk).1)
      go_wp2_with fail
      go_roundg 0
      case measure => have := HG.out; omega
      case rel => exact ⟨v', rfl, hne2, hb3, .inr ⟨rfl, by go_num, hown2⟩⟩
    · clear hgk
      go_wp2
      go_ret2
      exact ⟨v, rfl, hown.new hne, hb⟩
end Go.Proofs.YteiofihgpalkiaaDoor
