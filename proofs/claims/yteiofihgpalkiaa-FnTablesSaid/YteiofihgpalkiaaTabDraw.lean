/- The rules that are drawn are valid. -/
import Derived.Test.YteiofihgpalkiaaSrc
import Derived.OwnWalk
import Derived.Deep.RegionHeld3
import Derived.Deep.AppendLies
namespace Go.Proofs.Yteiofihgpalkiaa
open Go Go.RowKit

theorem infoRule : (Try.prog.info? 56).map (fun i => (i.zero, i.size, i.bytes)) = some (some (.agg #[.int .i64 0, .int .i64 0, .int .i64 0, .int .i64 0]), 4, 32) := by kernel_rfl

def cellsR (l : List Rul) : List Value := l.flatMap fun r => [.int .i64 r.fr, .int .i64 r.to, .int .i64 r.le, .int .i64 r.mo]

/-- where the drawing of rules stands: what is gathered, what the source is, and the rule that is being filled, in block G -/
structure St (w wx : World) (L g : Nat) (A : Option Addr) (n c : Nat) (K : Int) (v : Value) (rs : List Rul) (G : Nat) (cs : Array Value) : Prop where
  own : wx.ownsRow w.heap.size 56 4 v rs.length (cellsR rs)
  grow : w.grownBy wx (some g)
  src : SrcB wx L g A n c K
  box : wx.heap[G]? = some (.cells cs 56 (0, 0))
  far : ∀ k, v.ownBlock = some k → k ≠ G
  up : w.heap.size ≤ G

section
variable {w wx w' : World} {L g : Nat} {A : Option Addr} {n c : Nat} {K K' : Int} {v : Value} {rs : List Rul} {G : Nat} {cs : Array Value}
theorem St.gNe (h : St w wx L g A n c K v rs G cs) : G ≠ g := by
  obtain ⟨_, _, hh, _⟩ := h.src.src
  rintro rfl
  have := h.box.symm.trans hh
  injection this with this
  injection this with _ ht
  exact absurd ht (by decide)
theorem St.vNe (h : St w wx L g A n c K v rs G cs) : ∀ k, v.ownBlock = some k → k ≠ g := by
  obtain ⟨_, _, hh, _⟩ := h.src.src
  exact ownNe h.own hh (by decide)
theorem St.pick (h : St w wx L g A n c K v rs G cs) (hg : wx.grownBy w' (some g)) (hs : SrcB w' L g A n c K') : St w w' L g A n c K' v rs G cs :=
  ⟨ownKeep h.own hg (fun k hk e => h.vNe k hk (by injection e)), gbTrans h.grow hg, hs, (hg.block G (heap_lt h.box) (fun e => h.gNe (by injection e))).trans h.box, h.far, h.up⟩
theorem St.drew (h : St w wx L g A n c K v rs G cs) : St w wx.drew L g A n c K v rs G cs :=
  have hg : wx.grownBy wx.drew (some g) := ⟨rfl, rfl, rfl, Nat.le_refl _, fun _ _ _ => rfl⟩
  h.pick hg h.src.drew
theorem St.set_ (h : St w wx L g A n c K v rs G cs) (hL : L ≤ w.heap.size) (i : Nat) (u : Value) : St w (wx.setCell ⟨G, i, none⟩ u) L g A n c K v rs G (cs.setIfInBounds i u) := by
  have hg : wx.grownBy (wx.setCell ⟨G, i, none⟩ u) (some G) := gbSet (gbRefl wx _) (.inl rfl) u
  have hg2 : w.grownBy (wx.setCell ⟨G, i, none⟩ u) (some g) := gbSet h.grow (.inr h.up) u
  exact ⟨ownKeep h.own hg (fun k hk e => h.far k hk (by injection e)), hg2, h.src.keep hg (by simp; exact h.gNe) (fun k e => by injection e; subst k; have := h.up; omega), heap_set u h.box, h.far, h.up⟩
theorem St.cell (h : St w wx L g A n c K v rs G cs) (i : Nat) : wx.cell? ⟨G, i, none⟩ = cs[i]? := cell_of_row wx G i cs _ (0, 0) h.box
theorem St.fr (h : St w wx L g A n c K v rs G cs) (i : Nat) : wx.frozen? ⟨G, i, none⟩ = false := by
  have := h.box
  simp [World.frozen?, this]
theorem St.new (hown : wx.ownsRow w.heap.size 56 4 v rs.length (cellsR rs)) (hgr : w.grownBy wx (some g)) (hs : SrcB wx L g A n c K) (cs : Array Value) :
    St w (wx.alloc (.cells cs 56)) L g A n c K v rs wx.heap.size cs :=
  ⟨hown.alloc _, gbAlloc hgr _, hs.alloc _, heap_alloc_new wx _, fun k hk => by have := (hown.lt k hk).2; omega, hgr.size⟩
end

theorem cellsR_snoc (rs : List Rul) (r : Rul) : cellsR (rs ++ [r]) = cellsR rs ++ [.int .i64 r.fr, .int .i64 r.to, .int .i64 r.le, .int .i64 r.mo] := by simp [cellsR]
theorem ru_snoc (rs : List Rul) (r : Rul) (P : Rul → Prop) (h : ∀ j, j < rs.length → P (ru rs j)) (hr : P r) : ∀ j, j < (rs ++ [r]).length → P (ru (rs ++ [r]) j) := by
  intro j hj
  simp at hj
  unfold ru
  by_cases hlt : j < rs.length
  · have := h j hlt
    unfold ru at this
    simpa [List.getElem?_append_left hlt] using this
  · obtain rfl : j = rs.length := by omega
    simpa using hr

set_option maxRecDepth 100000 in
set_option maxHeartbeats 1000000 in
theorem drawRules_any (L g : Nat) (A : Option Addr) (n c : Nat) (K ev p : Int) (w : World) (hs : SrcB w L g A n c K) (hK : K ≤ 1000) (h1 : 1 ≤ ev) (h2 : ev ≤ 12) (h3 : 1 ≤ p) (h4 : p ≤ 60) (hL : L ≤ w.heap.size) :
    Calls Try.prog 65 #[.pointer (some ⟨g, 0, none⟩), .int .i64 ev, .int .i64 p] w fun e w' => ∃ (rs : List Rul) (v : Value), e = .returned v ∧ rs.length ≤ 4 ∧ (∀ j, j < rs.length → vRul ev p (ru rs j)) ∧
      w'.ownsRow w.heap.size 56 4 v rs.length (cellsR rs) ∧ v ≠ .slice none 0 0 ∧ w.grownBy w' (some g) := by
  obtain ⟨i0, hi0, iz0, iz1, iz2⟩ := info_parts infoRule
  go_enter Try.func65, Try.ntmps65
  go_wp2_with fail
  refine (pick_any L g A n c K 5 _ (hs.alloc _) (by omega) (by omega) (by omega)).mono ?_
  rintro e w1 ⟨x, rfl, hx0, hx1, hs1, hg1⟩
  go_wp2
  go_loopw [7, 8] (fun v m wr => ∃ (rs : List Rul) (k : Int), m = .int .i64 k ∧ 0 ≤ k ∧ rs.length + k ≤ 4 ∧ (∀ j, j < rs.length → vRul ev p (ru rs j)) ∧ wr.ownsRow w.heap.size 56 4 v rs.length (cellsR rs) ∧ v ≠ .slice none 0 0 ∧ w.grownBy wr (some g) ∧ SrcB wr L g A n c (K + 2 + 8 * rs.length)) (fun _ m _ => (intOf m).toNat)
  case atStart =>
    have ho : (w.alloc (.cells #[] 56)).ownsRow w.heap.size 56 4 (.slice (some ⟨w.heap.size, 0, none⟩) 0 0) 0 [] := World.ownsRow_made w #[] 0 (Nat.le_refl _) (by simp [maxLen]) (by simp)
    exact ⟨[], x, rfl, hx0, by simp; omega, by simp, ownKeep ho hg1 (fun k hk e => by simp [Value.ownBlock] at hk; injection e with e; have := hs.lt; omega), by simp, gbTrans (gbAlloc (gbRefl w _) _) hg1, hs1.more (by simp)⟩
  case round =>
    obtain ⟨rs, k, rfl, hk0, hk1, hv, hown, hne, hgr, hsr⟩ := hrel
    by_cases hk : 0 < k
    · by_cases he : 1 < ev
      · go_wp2_with fail
        refine (pick_any L g A n c (K + 2 + 8 * rs.length) ev _ hsr (by omega) (by omega) (by omega)).mono ?_
        rintro e w2 ⟨y, rfl, hy0, hy1, hs2, hg2⟩
        obtain ⟨_, _, hbx, _⟩ := hsr.src
        have st2 : St w (w2.alloc (.cells #[.int .i64 y, .int .i64 0, .int .i64 0, .int .i64 0] 56)) L g A n c (K + 2 + 8 * rs.length + 2) u7 rs w2.heap.size #[.int .i64 y, .int .i64 0, .int .i64 0, .int .i64 0] :=
          St.new (ownKeep hown hg2 (fun k hk e => ownNe hown hbx (by decide) k hk (by injection e))) (gbTrans hgr hg2) hs2 _
        clear hown hgr hsr hg2 hs2 hbx hs1 hg1
        go_wp2_with fail
        have hz := st2.gNe
        have q0 : ¬ ev = 0 := by omega
        have q1 : IntKind.i64.wrap (ev - 1) = ev - 1 := IntWalk.i64_in _ (by omega)
        have q2 : IntKind.i64.wrap (y + 1) = y + 1 := IntWalk.i64_in _ (by omega)
        go_region_held3 (fun w' => w'.cell? ⟨w2.heap.size, 0, none⟩ = some (.int .i64 y)) (((try dsimp only); (first | (simp; done) | exact (st4.cell 0) | exact ((st4.set_ hL 1 _).cell 0)))) ((go_at_call 51; refine (pick_any L g A n c (K + 2 + 8 * rs.length + 2) (ev - 1) _ (by exact st2.src.drew) (by omega) (by omega) (by omega)).mono ?_; rintro e w4 ⟨z, rfl, hz0, hz1, hs4, hg4⟩; have q3 : IntKind.i64.wrap (y + 1 + z) = y + 1 + z := IntWalk.i64_in _ (by omega); have q4 : (y + 1 + z).tmod ev = (y + 1 + z) % ev := Int.tmod_eq_emod_of_nonneg (by omega); have st4 := st2.drew.pick hg4 hs4; have f1 := st4.cell 1; have f2 := st4.fr 1; simp at f1))
        have st5 := st4.set_ hL 1 (.int .i64 ((y + 1 + z) % ev))
        have b0 : 0 ≤ (y + 1 + z) % ev := Int.emod_nonneg _ (by omega)
        have b1 : (y + 1 + z) % ev < ev := Int.emod_lt_of_pos _ (by omega)
        have b2 : y ≠ (y + 1 + z) % ev := by
          intro e
          by_cases h : y + 1 + z < ev
          · rw [Int.emod_eq_of_lt (by omega) h] at e; omega
          · have : (y + 1 + z) % ev = y + 1 + z - ev := by
              rw [← Int.sub_emod_right, Int.emod_eq_of_lt (by omega) (by omega)]
            omega
        generalize (y + 1 + z) % ev = t at b0 b1 b2 st5 ⊢
        generalize w4.setCell ⟨w2.heap.size, 1, none⟩ (.int .i64 t) = w5 at st5 ⊢
        generalize w2.heap.size = G at st5 hz ⊢
        clear st4 st2 f1 f2 hg4 hs4 q1 q2 q3 q4 q0
        simp at st5
        go_wp2_with fail
        refine (pick_any L g A n c (K + 2 + 8 * rs.length + 2 + 2) p _ st5.src (by omega) (by omega) (by omega)).mono ?_
        rintro e w6 ⟨l, rfl, hl0, hl1, hs6, hg6⟩
        have st6 := st5.pick hg6 hs6
        have f1 := st6.cell 2
        have f2 := st6.fr 2
        simp at f1
        clear st5 hg6 hs6
        go_wp2_with fail
        have st7 := st6.set_ hL 2 (.int .i64 l)
        generalize w6.setCell ⟨G, 2, none⟩ (.int .i64 l) = w7 at st7 ⊢
        clear st6 f1 f2
        simp at st7
        have f0 := st7.cell 2
        simp at f0
        go_region_held3 (fun w' => w'.cell? ⟨G, 2, none⟩ = some (.int .i64 l)) (((try dsimp only); (first | assumption | (simp; assumption) | exact (st9.cell 2) | exact ((st9.set_ hL 3 _).cell 2)))) ((go_at_call 51; refine (pick_any L g A n c (K + 2 + 8 * rs.length + 2 + 2 + 2) p _ (by exact st7.src.drew) (by omega) (by omega) (by omega)).mono ?_; rintro e w9 ⟨m, rfl, hm0, hm1, hs9, hg9⟩; have q3 : IntKind.i64.wrap (l + m) = l + m := IntWalk.i64_in _ (by omega); have st9 := st7.drew.pick hg9 hs9; have f1 := st9.cell 3; have f2 := st9.fr 3; simp at f1))
        have st10 := st9.set_ hL 3 (.int .i64 (l + m))
        generalize w9.setCell ⟨G, 3, none⟩ (.int .i64 (l + m)) = w10 at st10 ⊢
        clear st9 st7 f0 f1 f2 hg9 hs9 q3
        simp at st10
        have f0 := st10.cell 0
        have f1 := st10.cell 1
        have f2 := st10.cell 2
        have f3 := st10.cell 3
        simp at f0 f1 f2 f3
        go_wp2_with (at_builtin; refine wpList_append_own _ rfl _ _ 43 rfl w.heap.size 56 i0 _ 4 32 Try.underlying43 hi0 iz0 iz1 iz2 rfl (by decide) _ _ _ rfl (st10.own.alloc _) ⟨w10.heap.size, 0, none⟩ 1 1 [.int .i64 y, .int .i64 t, .int .i64 l, .int .i64 (l + m)] rfl rfl ?c1 ?c2 ?c3 ?c4 ?c5 ?_)
        case c1 => exact World.news_of_block (cs := #[.int .i64 y, .int .i64 t, .int .i64 l, .int .i64 (l + m)]) (fr := (0, 0)) (heap_alloc_new w10 _)
        case c2 => simp [Value.oneCell']
        case c3 => unfold maxLen; omega
        case c4 => omega
        case c5 => have := st10.grow.size; simp; omega
        intro v' w11 hown' hgrow hnil
        have hs11 : SrcB w11 L g A n c (K + 2 + 8 * rs.length + 2 + 2 + 2 + 2) := (st10.src.alloc _).keep hgrow (fun e => st10.vNe g e rfl) (fun k hk => by have := (st10.own.lt k hk).1; omega)
        have hgr11 : w.grownBy w11 (some g) := by
          have h1 := gbAlloc st10.grow (.cells #[.int .i64 y, .int .i64 t, .int .i64 l, .int .i64 (l + m)] 56)
          exact ⟨hgrow.os.trans h1.os, hgrow.tape.trans h1.tape, hgrow.output.trans h1.output, Nat.le_trans h1.size hgrow.size, fun i hi hne => (hgrow.block i (Nat.lt_of_lt_of_le hi h1.size) (fun e => by have := (st10.own.lt i e.symm).1; omega)).trans (h1.block i hi hne)⟩
        have hne' : v' ≠ .slice none 0 0 := hnil
        have hown'' : w11.ownsRow w.heap.size 56 4 v' (rs ++ [(⟨y, t, l, l + m⟩ : Rul)]).length (cellsR (rs ++ [(⟨y, t, l, l + m⟩ : Rul)])) := by
          rw [cellsR_snoc]; simpa using hown'
        clear st10 hown' hgrow hnil f0 f1 f2 f3
        go_wp2
        go_roundw
        case rel => exact ⟨rs ++ [⟨y, t, l, l + m⟩], k - 1, rfl, by omega, by simp; omega, ru_snoc rs _ _ hv ⟨hy0, hy1, b0, b1, b2, hl0, hl1, by dsimp only; omega, by dsimp only; omega⟩, hown'', hne', hgr11, hs11.more (by simp; omega)⟩
        case measure => simp [intOf]; omega
      · go_wp2
        go_ret
        exact ⟨rs, _, rfl, by omega, hv, hown, hne, hgr⟩
    · go_wp2
      go_ret
      exact ⟨rs, _, rfl, by omega, hv, hown, hne, hgr⟩
end Go.Proofs.Yteiofihgpalkiaa
