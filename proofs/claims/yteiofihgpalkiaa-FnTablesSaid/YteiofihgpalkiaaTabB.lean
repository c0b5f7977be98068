/- More walks for the law on tables: rules that are drawn, choices, equal lists, shared counts, a ring. -/
import Derived.Test.YteiofihgpalkiaaTabSpec2
import Derived.Test.YteiofihgpalkiaaTabDraw
import Derived.Test.YteiofihgpalkiaaTabA
namespace Go.Proofs.Yteiofihgpalkiaa
open Go Go.RowKit

theorem cellsR_get (rs : List Rul) : ∀ j, j < rs.length → (cellsR rs)[j * 4]? = some (.int .i64 (ru rs j).fr) ∧ (cellsR rs)[j * 4 + 1]? = some (.int .i64 (ru rs j).to) ∧ (cellsR rs)[j * 4 + 2]? = some (.int .i64 (ru rs j).le) ∧ (cellsR rs)[j * 4 + 3]? = some (.int .i64 (ru rs j).mo) := by
  induction rs with
  | nil => intro j h; simp at h
  | cons r l ih =>
    intro j h
    have e : cellsR (r :: l) = .int .i64 r.fr :: .int .i64 r.to :: .int .i64 r.le :: .int .i64 r.mo :: cellsR l := by simp [cellsR]
    cases j with
    | zero => rw [e]; simp [ru]
    | succ j =>
      obtain ⟨h0, h1, h2, h3⟩ := ih j (by simpa using h)
      have er : ru (r :: l) (j + 1) = ru l j := by simp [ru]
      rw [e, er, show (j + 1) * 4 = j * 4 + 4 by omega, show j * 4 + 4 + 1 = j * 4 + 1 + 4 by omega, show j * 4 + 4 + 2 = j * 4 + 2 + 4 by omega, show j * 4 + 4 + 3 = j * 4 + 3 + 4 by omega]
      simp only [List.getElem?_cons_succ]
      exact ⟨h0, h1, h2, h3⟩

theorem b10Rules_any (A : Option Addr) (n c : Nat) (ev p : Int) (w : World) (hb : Byt w A n) (hn : n ≤ 9223372036854775807) (h1 : 1 ≤ ev) (h2 : ev ≤ 12) (h3 : 1 ≤ p) (h4 : p ≤ 60) :
    Calls Try.prog 21 #[.slice A n c, .int .i64 ev, .int .i64 p] w fun e w' => ∃ (rs : List Rul) (g cap : Nat), e = .returned (.slice (some ⟨g, 0, none⟩) rs.length cap) ∧ rs.length ≤ 4 ∧ (∀ j, j < rs.length → vRul ev p (ru rs j)) ∧ RdR w' g 0 rs ∧ w.heap.size ≤ g ∧ g < w'.heap.size ∧ Below w.heap.size w w' := by
  go_enter Try.func21, Try.ntmps21
  go_wp2_with fail
  refine (from_any A n c w hb hn).mono ?_
  rintro e w1 ⟨g, rfl, hs, hb1, hg1, hg2⟩
  go_wp2_with fail
  refine (drawRules_any w.heap.size g A n c 0 ev p w1 hs (by omega) h1 h2 h3 h4 hb1.size).mono ?_
  rintro e w2 ⟨rs, v, rfl, hl, hv, hown, hne, hgr⟩
  rcases hown.2 with ⟨rfl, _⟩ | ⟨g', cap, cur, rfl, hb, hh, hnn, hcc, hss, htk⟩
  · exact absurd rfl hne
  go_wp2
  go_ret
  refine ⟨rs, g', cap, rfl, hl, hv, fun j hj => ?_, by have := hb1.size; omega, heap_lt hh, hb1.grown hgr hb1.size (fun k hk => by injection hk with hk; omega)⟩
  have hc : ∀ (i : Nat) (u : Value), (cellsR rs)[i]? = some u → w2.cell? ⟨g', 0 + i, none⟩ = some u := fun i u hu => by
    have := hown.cells (g := g') rfl i u hu
    rw [addLit] at this
    exact this
  obtain ⟨c0, c1, c2, c3⟩ := cellsR_get rs j hj
  exact ⟨hc _ _ c0, hc _ _ c1, hc _ _ c2, hc _ _ c3⟩

theorem b10Long_false (A B : Option Addr) (n c m d : Nat) (w : World) (h1 : n ≤ 1048576) (h2 : m ≤ 1048576) :
    Calls Try.prog 19 #[.slice A n c, .slice B m d] w fun e w' => e = .returned (.bool false) ∧ w = w' := by
  have e1 : decide ((1048576 : Int) < (n : Int)) = false := by simp; omega
  have e2 : decide ((1048576 : Int) < (m : Int)) = false := by simp; omega
  go_enter Try.func19, Try.ntmps19
  go_wp2
  go_ret
  exact ⟨rfl, rfl⟩
theorem b10Long_true (A B : Option Addr) (n c m d : Nat) (w : World) (hn : n ≤ 9223372036854775807) (hm : m ≤ 9223372036854775807) (h : 1048576 < n ∨ 1048576 < m) :
    Calls Try.prog 19 #[.slice A n c, .slice B m d] w fun e w' => e = .returned (.bool true) ∧ w = w' := by
  by_cases h1 : 1048576 < n
  · have e1 : decide ((1048576 : Int) < (n : Int)) = true := by simp; omega
    go_enter Try.func19, Try.ntmps19
    go_wp2
    go_ret
    exact ⟨rfl, rfl⟩
  · have e1 : decide ((1048576 : Int) < (n : Int)) = false := by simp; omega
    have e2 : decide ((1048576 : Int) < (m : Int)) = true := by simp; omega
    go_enter Try.func19, Try.ntmps19
    go_wp2
    go_ret
    exact ⟨rfl, rfl⟩

theorem b10At_any (A : Option Addr) (n c : Nat) (i m : Int) (w : World) (hb : Byt w A n) (hi : 0 ≤ i) (hi2 : i ≤ 1000) (h1 : 1 ≤ m) (h2 : m ≤ 1000000) :
    Calls Try.prog 20 #[.slice A n c, .int .i64 i, .int .i64 m] w fun e w' => ∃ x : Int, e = .returned (.int .i64 x) ∧ 0 ≤ x ∧ x < m ∧ w = w' := by
  by_cases hm : m ≤ 1
  · go_enter Try.func20, Try.ntmps20
    go_wp2
    go_ret
    exact ⟨0, rfl, by omega, by omega, rfl⟩
  · have hmod : ∀ y : Int, 0 ≤ y → 0 ≤ y % m ∧ y % m < m := fun y hy => ⟨Int.emod_nonneg _ (by omega), Int.emod_lt_of_pos _ (by omega)⟩
    have Hm := Lib.hid hmod
    clear hmod
    have hmz : ¬ m = 0 := by omega
    by_cases hlt : i < n
    · have hlt2 : i.toNat < n := by omega
      rcases hb with hb | ⟨b, o, rfl, hb⟩
      · omega
      obtain ⟨x, hx, hx0, hx1⟩ := hb _ hlt2
      clear hb
      go_enter Try.func20, Try.ntmps20
      go_wp2
      go_ret
      exact ⟨_, rfl, (Hm.out x hx0).1, (Hm.out x hx0).2, rfl⟩
    · go_enter Try.func20, Try.ntmps20
      go_wp2
      go_ret
      exact ⟨_, rfl, (Hm.out (i * 37 + 11) (by omega)).1, (Hm.out (i * 37 + 11) (by omega)).2, rfl⟩

theorem b10Ints_true (b o c b2 o2 c2 : Nat) (l : List Int) (w : World) (h1 : RdI w b o l) (h2 : RdI w b2 o2 l) (hl : l.length ≤ 1000000) :
    Calls Try.prog 33 #[.slice (some ⟨b, o, none⟩) l.length c, .slice (some ⟨b2, o2, none⟩) l.length c2] w fun e w' => e = .returned (.bool true) ∧ Drew w w' := by
  have e0 : ((l.length : Int) != (l.length : Int)) = false := by simp
  go_enter Try.func33, Try.ntmps33
  go_wp2
  go_loopg [13] l.length (fun gk s13 wr => ∃ (k : Nat), gk = l.length - k ∧ k ≤ l.length ∧ s13 = .int .i64 k ∧ Drew w wr)
  case atStart => exact ⟨0, rfl, by omega, rfl, Drew.refl w⟩
  case round =>
    obtain ⟨k, hg, hk, rfl, hd⟩ := hrel
    have HG := Lib.hid hg
    clear hg
    by_cases hlt : k < l.length
    · have c0 := (h1.fr (C := fun _ => False) hd.fr (fun h => h)) k hlt
      have c1 := (h2.fr (C := fun _ => False) hd.fr (fun h => h)) k hlt
      have k0 : (0 : Int) ≤ (k : Int) := by omega
      have k1 : (k : Int) < (l.length : Int) := by omega
      have e1 : (gi l k != gi l k) = false := by simp
      go_wp2
      go_quiet (fail)
      go_wp2
      go_roundg (l.length - (k + 1))
      case measure => have := HG.out; omega
      case rel => exact ⟨k + 1, rfl, by omega, by go_num, hd.more _⟩
    · go_wp2
      go_ret
      exact ⟨rfl, hd⟩

theorem equalRules_true (b o c : Nat) (rs : List Rul) (w : World) (hR : RdR w b o rs) (hl : rs.length ≤ 1000000) :
    Calls Try.prog 76 #[.slice (some ⟨b, o, none⟩) rs.length c, .slice (some ⟨b, o, none⟩) rs.length c] w fun e w' => e = .returned (.bool true) ∧ Drew w w' := by
  have e0 : ((rs.length : Int) != (rs.length : Int)) = false := by simp
  go_enter Try.func76, Try.ntmps76
  go_wp2
  go_loopg [13] rs.length (fun gk s13 wr => ∃ (k : Nat), gk = rs.length - k ∧ k ≤ rs.length ∧ s13 = .int .i64 k ∧ Drew w wr)
  case atStart => exact ⟨0, rfl, by omega, rfl, Drew.refl w⟩
  case round =>
    obtain ⟨k, hg, hk, rfl, hd⟩ := hrel
    have HG := Lib.hid hg
    clear hg
    by_cases hlt : k < rs.length
    · obtain ⟨c0, c1, c2, c3⟩ := (hR.fr (C := fun _ => False) hd.fr (fun h => h)) k hlt
      have k0 : (0 : Int) ≤ (k : Int) := by omega
      have k1 : (k : Int) < (rs.length : Int) := by omega
      generalize ru rs k = r at *
      go_wp2
      go_quiet (fail)
      go_wp2
      go_roundg (rs.length - (k + 1))
      case measure => have := HG.out; omega
      case rel => exact ⟨k + 1, rfl, by omega, by go_num, hd.more _⟩
    · go_wp2
      go_ret
      exact ⟨rfl, hd⟩

theorem shared_any (p m rb ro rc mb mc : Nat) (k : Int) (rs : List Rul) (w : World)
    (hR : RdR w rb ro rs) (hr : ∀ j, j < rs.length → vRul ((m + 1 : Nat) : Int) p (ru rs j)) (hp : 1 ≤ p) (hp2 : p ≤ 60) (hm : m + 1 ≤ 12) (hpow : p ^ m ≤ 4096) (hl : rs.length ≤ 32) (hRb : rb < w.heap.size)
    (hm0 : w.cell? ⟨mb, 0, none⟩ = some (.slice (some ⟨rb, ro, none⟩) rs.length rc)) (hm1 : w.cell? ⟨mb, 1, none⟩ = some (.slice (some ⟨rb, ro, none⟩) rs.length rc)) (hk : 1 ≤ k) (hk2 : k ≤ 8) :
    Calls Try.prog 26 #[.int .i64 ((m : Int) + 1), .slice (some ⟨mb, 0, none⟩) 2 mc, .int .i64 (p : Int), .int .i64 k] w fun e w' =>
      ∃ v, e = .returned (.tuple #[v, .bool true]) ∧ NewI w' w.heap.size v [(runT (keptB p m rs) nxCount 0 (p ^ m) : Nat), (runT (keptB p m rs) nxCount 0 (p ^ m) : Nat)] ∧ Below w.heap.size w w' := by
  have hct := fun W (hb : Below w.heap.size w W) => count_any p m rb ro rc rs W (hR.below hb) hr hp hp2 hm hpow hl (Nat.lt_of_lt_of_le hRb hb.size)
  have Hct := Lib.hid hct
  clear hct hr hpow
  generalize hcc : ((runT (keptB p m rs) nxCount 0 (p ^ m) : Nat) : Int) = cc at Hct ⊢
  clear hcc
  have hmb := lt_of_cell hm0
  have hcell : ∀ k, k < 2 → w.cell? ⟨mb, k, none⟩ = some (.slice (some ⟨rb, ro, none⟩) rs.length rc) := fun k hk => by
    match k, hk with
    | 0, _ => exact hm0
    | 1, _ => exact hm1
  clear hm0 hm1
  go_enter Try.func26, Try.ntmps26
  go_wp2
  go_loopg [10, 26] 2 (fun gk s10 s26 wr => ∃ (k : Nat), gk = 2 - k ∧ k ≤ 2 ∧ s26 = .int .i64 k ∧ OwnI wr w.heap.size s10 (List.replicate k cc) ∧ s10 ≠ .slice none 0 0 ∧ Below w.heap.size w wr)
  case atStart => exact ⟨0, rfl, by omega, rfl, OwnI.made w _ (Nat.le_refl _), by simp, (Below.refl _ _).alloc (Nat.le_refl _) _⟩
  case round =>
    obtain ⟨k, hg, hk, rfl, hown, hne, hb⟩ := hrel
    have HG := Lib.hid hg
    clear hg
    obtain ⟨hbc, hbf⟩ := bcell hb
    by_cases hlt : k < 2
    · have c0 := hcell k hlt
      have hsn : List.replicate (k + 1) cc = List.replicate k cc ++ [cc] := List.replicate_succ'
      have HS := Lib.hid hsn
      clear hsn hcell
      go_wp2_with fail
      refine (Hct.out _ hb).mono ?_
      rintro e w1 ⟨rfl, hb1⟩
      have hbw1 := hb.trans (hb1.mono hb.size)
      have hown1 : OwnI w1 w.heap.size u10 (List.replicate k cc) := ownKeep hown (gbBelow hb1 none) (by simp)
      clear hbc hbf hb hown hb1
      go_wp2_with (at_builtin; refine wpList_app rfl _ _ rfl w.heap.size u10 (List.replicate k cc) [cc] rfl (hown1.alloc _) w1.heap.size 0 1 1 rfl rfl (RdI.new1 _ _ _) (by simp; omega) (by have := hbw1.size; simp; omega) ?_; intro v' w2 hown2 hg2 hn2)
      have hne' : v' ≠ .slice none 0 0 := by first | exact hn2 | exact fun e => hne (hn2.1 e).1
      have hb2 : Below w.heap.size w w2 := (hbw1.alloc hbw1.size _).grown hg2 (by have := hbw1.size; simp; omega) (fun k hk => (hown1.lt k hk).1)
      go_wp2
      go_roundg (2 - (k + 1))
      case measure => have := HG.out; omega
      case rel => exact ⟨k + 1, rfl, by omega, by go_num, by rw [HS.out]; exact hown2, hne', hb2⟩
    · obtain rfl : k = 2 := by omega
      go_wp2
      go_ret2
      exact ⟨_, rfl, hown.new hne, hb⟩

/-- the ring of two rules in the law: the waits around it -/
theorem mk2 (W : World) : (Instr.makeSlice 65 (.int .i64 2) (.int .i64 2)).run Try.prog W = .ok (.slice (some ⟨W.heap.size, 0, none⟩) 2 2) (W.alloc (.cells #[.bool false, .bool false] 4)) := by kernel_rfl
set_option maxRecDepth 100000 in
theorem ring_any (b1 b2 b3 c1 c2 c3 : Nat) (w : World)
    (hR : RdR w b1 0 [⟨0, 1, 1, 2⟩, ⟨1, 0, 2, 3⟩]) (hI : RdI w b2 0 [0, 1]) (hA0 : w.cell? ⟨b3, 0, none⟩ = some (.bool true)) (hA1 : w.cell? ⟨b3, 1, none⟩ = some (.bool true)) :
    Calls Try.prog 36 #[.slice (some ⟨b1, 0, none⟩) 2 c1, .int .i64 4, .slice (some ⟨b2, 0, none⟩) 2 c2, .slice (some ⟨b3, 0, none⟩) 2 c3] w fun e w' =>
      e = .returned (.tuple #[.int .i64 4, .int .i64 4, .bool true]) ∧ Below w.heap.size w w' := by
  have hb1 := lt_of_cell (hR 0 (by simp)).1
  have hb2 := lt_of_cell (hI 0 (by simp))
  have hb3 := lt_of_cell hA0
  obtain ⟨r0, r1, r2, r3⟩ := hR 0 (by simp)
  obtain ⟨t0, t1, t2, t3⟩ := hR 1 (by simp)
  have i0 := hI 0 (by simp)
  have i1 := hI 1 (by simp)
  simp [ru, gi] at r0 r1 r2 r3 t0 t1 t2 t3 i0 i1
  have hmk := mk2
  have har := areRules_true 12 4 b1 0 c1 [⟨0, 1, 1, 2⟩, ⟨1, 0, 2, 3⟩] w hR (by intro j hj; match j, hj with | 0, _ => simp [ru, vRul] | 1, _ => simp [ru, vRul]) (by omega) (by omega) (by omega) (by omega) (by simp)
  have ham := fun W (hb : Below w.heap.size w W) => areMany_true b2 0 c2 [0, 1] 1 32 0 1 W (hI.below hb) (by simp) (by simp) (by simp) (by intro j hj; match j, hj with | 0, _ => simp [gi] | 1, _ => simp [gi])
  have Ham := Lib.hid ham
  clear ham hR hI
  go_enter Try.func36, Try.ntmps36
  go_wp2_with fail
  refine har.mono ?_
  rintro e w1 ⟨rfl, hbel1⟩
  clear har
  go_wp2_with fail
  refine (Ham.out _ hbel1).mono ?_
  rintro e w1' ⟨rfl, rfl⟩
  obtain ⟨hbc, hbf⟩ := bcell hbel1
  go_wp2
  have hU0 : (w1.alloc (.cells #[.bool false, .bool false] 4)).heap[w1.heap.size]? = some (.cells #[.bool false, .bool false] 4 (0, 0)) := heap_alloc_new w1 _
  have hbelU : Below w.heap.size w (w1.alloc (.cells #[.bool false, .bool false] 4)) := hbel1.alloc hbel1.size _
  have hUlt : w.heap.size ≤ w1.heap.size := hbel1.size
  generalize w1.heap.size = U at hU0 hUlt ⊢
  clear hbc hbf hmk Ham
  go_loopg [12, 13, 14, 15, 47] 2 (fun gk s12 s13 s14 s15 s47 wr => Below w.heap.size w wr ∧ ((gk = 2 ∧ s47 = .int .i64 0 ∧ s12 = .int .i64 0 ∧ s13 = .int .i64 0 ∧ s14 = .int .i64 (-1) ∧ s15 = .int .i64 (-1) ∧ wr.heap[U]? = some (.cells #[.bool false, .bool false] 4 (0, 0))) ∨
      (gk = 1 ∧ s47 = .int .i64 1 ∧ s12 = .int .i64 1 ∧ s13 = .int .i64 2 ∧ s14 = .int .i64 0 ∧ s15 = .int .i64 1 ∧ wr.heap[U]? = some (.cells #[.bool true, .bool false] 4 (0, 0))) ∨ (gk = 0 ∧ s47 = .int .i64 2 ∧ s12 = .int .i64 3 ∧ s13 = .int .i64 5 ∧ s14 = .int .i64 0 ∧ s15 = .int .i64 0)))
  case atStart => exact ⟨hbelU, .inl ⟨rfl, rfl, rfl, rfl, rfl, rfl, hU0⟩⟩
  case round =>
    clear hU0 hbelU hbel1
    obtain ⟨hb, h | h | h⟩ := hrel
    · obtain ⟨hg, rfl, rfl, rfl, rfl, rfl, hU⟩ := h
      obtain ⟨hbc, hbf⟩ := bcell hb
      have HG := Lib.hid hg
      clear hg
      have u0 := cell_of_row wr U 0 _ _ _ hU
      have u1 := cell_of_row wr U 1 _ _ _ hU
      simp at u0 u1
      have f0 : ∀ i, wr.frozen? ⟨U, i, none⟩ = false := fun i => by simp [World.frozen?, hU]
      have hUw := heap_lt hU
      have hb3w : b3 < wr.heap.size := by have := hb.size; omega
      have hb2w : b2 < wr.heap.size := by have := hb.size; omega
      have HU := Lib.hid hU
      clear hU
      go_wp2
      go_quiet (fail)
      go_wp2
      go_roundg 1
      case measure => have := HG.out; omega
      case rel =>
        refine ⟨?_, .inr (.inl ⟨rfl, rfl, rfl, rfl, rfl, rfl, ?_⟩)⟩
        · exact (bdrewN (hb.alloc hb.size _) _).setCell (by omega) _
        · have h1 : ((wr.alloc (.cells #[.int .i64 0, .int .i64 1, .int .i64 1, .int .i64 2] 56)).drewN nq).heap[U]? = some (.cells #[.bool false, .bool false] 4 (0, 0)) := (Below.heap_alloc wr _ U hUw).trans HU.out
          have := heap_set (i := 0) (.bool true) h1
          simpa using this
    · obtain ⟨hg, rfl, rfl, rfl, rfl, rfl, hU⟩ := h
      obtain ⟨hbc, hbf⟩ := bcell hb
      have HG := Lib.hid hg
      clear hg
      have u0 := cell_of_row wr U 0 _ _ _ hU
      have u1 := cell_of_row wr U 1 _ _ _ hU
      simp at u0 u1
      have f0 : ∀ i, wr.frozen? ⟨U, i, none⟩ = false := fun i => by simp [World.frozen?, hU]
      have hUw := heap_lt hU
      have hb3w : b3 < wr.heap.size := by have := hb.size; omega
      have hb2w : b2 < wr.heap.size := by have := hb.size; omega
      have HU := Lib.hid hU
      clear hU
      go_wp2
      go_quiet (fail)
      go_wp2
      go_roundg 0
      case measure => have := HG.out; omega
      case rel =>
        exact ⟨(bdrewN (hb.alloc hb.size _) _).setCell (by omega) _, .inr (.inr ⟨rfl, rfl, rfl, rfl, rfl, rfl⟩)⟩
    · obtain ⟨hg, rfl, rfl, rfl, rfl, rfl⟩ := h
      go_wp2
      go_ret3
      exact ⟨rfl, hb⟩
end Go.Proofs.Yteiofihgpalkiaa
