/- The walks of shifts: the rule that is drawn. -/
import Derived.Test.YteiofihgpalkiaaDoorShA
namespace Go.Proofs.YteiofihgpalkiaaDoor
open Go Go.RowKit

/-- where the drawing of a rule stands -/
structure RB (w wx : World) (L g : Nat) (A : Option Addr) (n c : Nat) (K : Int) (G : Nat) (cs : Array Value) : Prop where
  grow : w.grownBy wx (some g)
  src : SrcB wx L g A n c K
  box : Rw wx G 25 cs
  ne : G ≠ g
  up : w.heap.size ≤ G
  lL : L ≤ w.heap.size
  res : Rw wx w.heap.size 25 #[.int .i64 0, .int .i64 0, .int .i64 0, .int .i64 0, .int .i64 0]
  rg : w.heap.size ≠ g
  rG : w.heap.size ≠ G
section
variable {w wx w' : World} {L g : Nat} {A : Option Addr} {n c : Nat} {K K' : Int} {G : Nat} {cs : Array Value}
theorem RB.pick (h : RB w wx L g A n c K G cs) (hg : wx.grownBy w' (some g)) (hs : SrcB w' L g A n c K') : RB w w' L g A n c K' G cs :=
  ⟨gbTrans h.grow hg, hs, h.box.gb hg (fun e => h.ne (by injection e)), h.ne, h.up, h.lL, h.res.gb hg (fun e => h.rg (by injection e)), h.rg, h.rG⟩
theorem RB.set_ (h : RB w wx L g A n c K G cs) (i : Nat) (u : Value) : RB w (wx.setCell ⟨G, i, none⟩ u) L g A n c K G (cs.setIfInBounds i u) := by
  have hg : wx.grownBy (wx.setCell ⟨G, i, none⟩ u) (some G) := gbSet (gbRefl wx _) (.inl rfl) u
  exact ⟨gbSet h.grow (.inr h.up) u, h.src.keep hg (by simp; exact h.ne) (fun k e => by injection e; subst k; have := h.up; have := h.lL; omega), h.box.set_ i u, h.ne, h.up, h.lL, h.res.set_ne h.rG i u, h.rg, h.rG⟩
end

theorem lmin_any (a b : Int) (w : World) : Calls Tryd.prog 31 #[.int .i64 a, .int .i64 b] w fun e w' => ∃ x : Int, e = .returned (.int .i64 x) ∧ (x = a ∨ x = b) ∧ x ≤ a ∧ x ≤ b ∧ w = w' := by
  by_cases h : a < b
  · have e1 : decide (a < b) = true := by simpa
    go_enter Tryd.func31, Tryd.ntmps31
    go_wp2
    go_ret
    exact ⟨a, rfl, .inl rfl, by omega, by omega, rfl⟩
  · have e1 : decide (a < b) = false := by simpa using h
    go_enter Tryd.func31, Tryd.ntmps31
    go_wp2
    go_ret
    exact ⟨b, rfl, .inr rfl, by omega, by omega, rfl⟩

set_option maxHeartbeats 1000000 in
theorem drawRule_any (L g : Nat) (A : Option Addr) (n c : Nat) (K : Int) (w : World) (hs : SrcB w L g A n c K) (hK0 : 0 ≤ K) (hK : K ≤ 90000) (hL : L ≤ w.heap.size) :
    Calls Tryd.prog 18 #[.pointer (some ⟨g, 0, none⟩)] w fun e w' => ∃ r : SR, e = .returned r.cell ∧ r.Ok ∧ w.grownBy w' (some g) := by
  have hgl := hs.lt
  go_enter Tryd.func18, Tryd.ntmps18
  go_wp2_with fail
  refine (pick_any L g A n c K 8 _ (hs.alloc _) (by omega) (by omega) (by omega)).mono ?_
  rintro e w1 ⟨x1, rfl, hx0, hx1, hs1, hg1⟩
  have B1 := (Rw.new w 25 #[.int .i64 0, .int .i64 0, .int .i64 0, .int .i64 0, .int .i64 0]).gb hg1 (by simp; omega)
  have G1 := gbTrans (gbAlloc (gbRefl w (some g)) (.cells #[.int .i64 0, .int .i64 0, .int .i64 0, .int .i64 0, .int .i64 0] 25)) hg1
  have st : RB w (w1.alloc (.cells #[.int .i64 (1 + x1), .int .i64 0, .int .i64 0, .int .i64 0, .int .i64 0] 25)) L g A n c (K + 2) w1.heap.size #[.int .i64 (1 + x1), .int .i64 0, .int .i64 0, .int .i64 0, .int .i64 0] :=
    ⟨gbAlloc G1 _, hs1.alloc _, Rw.new _ _ _, by have := hs1.lt; omega, G1.size, hL, B1.alloc _, by omega, by have := B1.lt; omega⟩
  go_wp2_with fail
  generalize (w1.alloc (.cells #[.int .i64 (1 + x1), .int .i64 0, .int .i64 0, .int .i64 0, .int .i64 0] 25)) = w2 at st ⊢
  generalize w1.heap.size = G at st ⊢
  obtain ⟨s1, hs1'⟩ : ∃ s1, 1 + x1 = s1 := ⟨_, rfl⟩
  rw [hs1'] at st ⊢
  have hsa : 1 ≤ s1 := by omega
  have hsb : s1 ≤ 8 := by omega
  clear hs1 hg1 B1 G1 hs hgl hs1' hx0 hx1
  refine (pick_any L g A n c _ (s1 + 1) _ st.src (by omega) (by omega) (by omega)).mono ?_
  rintro e w3 ⟨m, rfl, hm0, hm1, hs3, hg3⟩
  have st := st.pick hg3 hs3
  clear hs3 hg3
  have f0 := st.box.cell 0
  have f1 := st.box.cell 1
  have f2 := st.box.cell 2
  have z2 := st.box.fz 2
  simp at f0 f1 f2
  have st := st.set_ 2 (.int .i64 m)
  go_wp2_with fail
  generalize w3.setCell ⟨G, 2, none⟩ (.int .i64 m) = w4 at st ⊢
  simp at st
  clear f0 f1 f2 z2
  refine (pick_any L g A n c _ (m + 1) _ st.src (by omega) (by omega) (by omega)).mono ?_
  rintro e w5 ⟨l, rfl, hl0, hl1, hs5, hg5⟩
  have st := st.pick hg5 hs5
  clear hs5 hg5
  have f0 := st.box.cell 0
  have f1 := st.box.cell 1
  have z1 := st.box.fz 1
  simp at f0 f1
  have st := st.set_ 1 (.int .i64 l)
  go_wp2_with fail
  generalize w5.setCell ⟨G, 1, none⟩ (.int .i64 l) = w6 at st ⊢
  simp at st
  clear f0 f1 z1
  refine (pick_any L g A n c _ s1 _ st.src (by omega) (by omega) (by omega)).mono ?_
  rintro e w7 ⟨k, rfl, hk0, hk1, hs7, hg7⟩
  have st := st.pick hg7 hs7
  clear hs7 hg7
  have f0 := st.box.cell 0
  have f3 := st.box.cell 3
  have z3 := st.box.fz 3
  simp at f0 f3
  have st := st.set_ 3 (.int .i64 (1 + k))
  go_wp2_with fail
  generalize w7.setCell ⟨G, 3, none⟩ (.int .i64 (1 + k)) = w8 at st ⊢
  simp at st
  clear f0 f3 z3
  refine (lmin_any 3 s1 _).mono ?_
  rintro e w' ⟨q, rfl, hq, hq1, hq2, rfl⟩
  go_wp2_with fail
  refine (pick_any L g A n c _ q _ st.src (by omega) (by omega) (by omega)).mono ?_
  rintro e w9 ⟨p, rfl, hp0, hp1, hs9, hg9⟩
  have st := st.pick hg9 hs9
  clear hs9 hg9
  have f4 := st.box.cell 4
  have z4 := st.box.fz 4
  simp at f4
  have st := st.set_ 4 (.int .i64 (1 + p))
  go_upto_region 6 with fail
  generalize w9.setCell ⟨G, 4, none⟩ (.int .i64 (1 + p)) = wa at st ⊢
  simp at st
  clear f4 z4
  have f0 := st.box.cell 0
  have f1 := st.box.cell 1
  have f2 := st.box.cell 2
  have f3 := st.box.cell 3
  have f4 := st.box.cell 4
  have r0 := st.res.cell 0
  have r1 := st.res.cell 1
  have r2 := st.res.cell 2
  have r3 := st.res.cell 3
  have r4 := st.res.cell 4
  have z0 := st.res.fz 0
  have z1 := st.res.fz 1
  have z2 := st.res.fz 2
  have z3 := st.res.fz 3
  have z4 := st.res.fz 4
  simp at f0 f1 f2 f3 f4 r0 r1 r2 r3 r4
  have B5 := ((((st.res.set_ 0 (.int .i64 s1)).set_ 1 (.int .i64 l)).set_ 2 (.int .i64 m)).set_ 3 (.int .i64 (1 + k))).set_ 4 (.int .i64 (1 + p))
  have G5 := gbSet (gbSet (gbSet (gbSet (gbSet st.grow (p := ⟨w.heap.size, 0, none⟩) (.inr (Nat.le_refl _)) (.int .i64 s1)) (p := ⟨w.heap.size, 1, none⟩) (.inr (Nat.le_refl _)) (.int .i64 l)) (p := ⟨w.heap.size, 2, none⟩) (.inr (Nat.le_refl _)) (.int .i64 m)) (p := ⟨w.heap.size, 3, none⟩) (.inr (Nat.le_refl _)) (.int .i64 (1 + k))) (p := ⟨w.heap.size, 4, none⟩) (.inr (Nat.le_refl _)) (.int .i64 (1 + p))
  go_wp2
  generalize ((((wa.setCell ⟨w.heap.size, 0, none⟩ (.int .i64 s1)).setCell ⟨w.heap.size, 1, none⟩ (.int .i64 l)).setCell ⟨w.heap.size, 2, none⟩ (.int .i64 m)).setCell ⟨w.heap.size, 3, none⟩ (.int .i64 (1 + k))).setCell ⟨w.heap.size, 4, none⟩ (.int .i64 (1 + p)) = wb at B5 G5 ⊢
  clear f0 f1 f2 f3 f4 r0 r1 r2 r3 r4 z0 z1 z2 z3 z4 st
  simp at B5
  have d0 := B5.cell 0
  have d1 := B5.cell 1
  have d2 := B5.cell 2
  have d3 := B5.cell 3
  have d4 := B5.cell 4
  simp at d0 d1 d2 d3 d4
  refine bodyPost_ret (v := SR.cell ⟨s1, l, m, 1 + k, 1 + p⟩) (by simp [results, Tryd.results18, go_sem, SR.cell, d0, d1, d2, d3, d4]) rfl ⟨⟨s1, l, m, 1 + k, 1 + p⟩, rfl, ⟨hsa, hsb, hl0, by simp only; omega, by simp only; omega, by simp only; omega, by simp only; omega, by simp only; omega, by simp only; omega⟩, G5⟩
end Go.Proofs.YteiofihgpalkiaaDoor
