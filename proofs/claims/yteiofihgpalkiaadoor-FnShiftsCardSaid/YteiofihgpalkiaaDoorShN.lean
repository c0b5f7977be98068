/- The walks of shifts: the needs that are drawn. -/
import Derived.Test.YteiofihgpalkiaaDoorShT
namespace Go.Proofs.YteiofihgpalkiaaDoor
open Go Go.RowKit
set_option maxRecDepth 100000

theorem r8Below_any (A : Option Addr) (n c : Nat) (N : Nat) (m : Int) (hN : N ≤ 24) (hm : 1 ≤ m) (hm2 : m ≤ 100) (w : World) (hb : Byt w A n) (hn : n ≤ 9223372036854775807) :
    Calls Tryd.prog 14 #[.slice A n c, .int .i64 N, .int .i64 m] w fun e w' => ∃ v l, e = .returned v ∧ l.length = N ∧ (∀ j, j < N → 0 ≤ gi l j ∧ gi l j < m) ∧ NewI w' w.heap.size v l ∧ Below w.heap.size w w' := by
  go_enter Tryd.func14, Tryd.ntmps14
  go_wp2_with fail
  refine (from_any A n c w hb hn).mono ?_
  rintro e w1 ⟨g, rfl, hs, hb1, hg1, hg2⟩
  go_upto_region 3 with fail
  have hs2 := hs.alloc (.cells #[] 2)
  have W2 := hb1.alloc hb1.size (.cells #[] 2)
  have own := OwnI.made w1 w.heap.size hb1.size
  generalize w1.alloc (.cells #[] 2) = w2 at hs2 W2 own ⊢
  generalize hV : Value.slice (some ⟨w1.heap.size, 0, none⟩) 0 0 = v0 at own ⊢
  have hne0 : v0 ≠ .slice none 0 0 := by rw [← hV]; simp
  clear hV hb1 hs
  go_loopg [1, 8] N (fun gk s1 s8 wr => ∃ (v : Value) (l : List Int), v = s8 ∧ gk + l.length = N ∧ s1 = .int .i64 gk ∧ OwnI wr w.heap.size v l ∧ v ≠ .slice none 0 0 ∧ (∀ j, j < l.length → 0 ≤ gi l j ∧ gi l j < m) ∧ SrcB wr w.heap.size g A n c (2 * l.length) ∧ Below w.heap.size w wr)
  case atStart => exact ⟨v0, [], rfl, by simp, rfl, own, hne0, by simp, by simpa using hs2, W2⟩
  case round =>
    obtain ⟨v, l, hv, hlen, rfl, hown, hne, hl, hsr, hbl⟩ := hrel
    subst hv
    have hle : l.length ≤ 24 := by omega
    have hgk : gk ≤ 24 := by omega
    by_cases hpos : 0 < gk
    · have HL := Lib.hid hlen
      have HB := Lib.hid hl
      clear hlen hl
      obtain ⟨h, rfl⟩ : ∃ h, gk = h + 1 := ⟨gk - 1, by omega⟩
      have hwr : IntKind.i64.wrap (((h + 1 : Nat) : Int) - 1) = (h : Int) := by rw [IntWalk.i64_in _ (by omega)]; omega
      have hwr2 : IntKind.i64.wrap ((h : Int) + 1 - 1) = (h : Int) := by rw [IntWalk.i64_in _ (by omega)]; omega
      go_wp2_with fail
      refine (pick_any w.heap.size g A n c (2 * l.length) m _ hsr (by omega) hm (by omega)).mono ?_
      rintro e w3 ⟨x, rfl, hx0, hx1, hs3, hg3⟩
      have nog : ∀ k, v.ownBlock = some k → k ≠ g := by
        obtain ⟨_, _, hh, _⟩ := hsr.src
        exact ownNe hown hh (by decide)
      have own3 : OwnI w3 w.heap.size v l := ownKeep hown hg3 (fun k hk e => nog k hk (by injection e))
      have hb3 := hbl.grown hg3 hbl.size (fun k e => by injection e with e; have := hg1; omega)
      clear hsr hg3 hown hbl
      go_wp2_with (at_builtin; refine wpList_app rfl _ _ rfl w.heap.size v l [x] rfl (own3.alloc _) w3.heap.size 0 1 1 rfl rfl (RdI.new1 _ _ _) (by simp; omega) (by have := hb3.size; simp; omega) ?_; intro v' w4 hown4 hg4 hn4)
      have hne4 : v' ≠ .slice none 0 0 := fun e => hne (hn4.1 e).1
      have hb4 : Below w.heap.size w w4 := (hb3.alloc hb3.size _).grown hg4 (by have := hb3.size; simp; omega) (fun k hk => (own3.lt k hk).1)
      have hs4 : SrcB w4 w.heap.size g A n c (2 * l.length + 2) := (hs3.alloc _).keep hg4 (fun e => nog g e rfl) (fun k hk => (own3.lt k hk).1)
      go_wp2_with fail
      go_roundg h
      case measure => omega
      case rel => exact ⟨v', l ++ [x], rfl, by have := HL.out; simp; omega, by go_num, hown4, hne4, by
          intro j hj
          simp at hj
          by_cases h : j < l.length
          · rw [gi_app_l _ _ _ h]; exact HB.out j h
          · obtain rfl : j = l.length := by omega
            rw [gi_app_r]; exact ⟨hx0, hx1⟩, hs4.more (by rw [List.length_append]; simp only [List.length_singleton]; omega), hb4⟩
    · obtain rfl : gk = 0 := by omega
      clear hpos
      have HL := Lib.hid hlen
      have HB := Lib.hid hl
      clear hlen hl
      go_wp2
      go_ret
      exact ⟨v, l, rfl, by have := HL.out; omega, fun j hj => HB.out j (by have := HL.out; omega), hown.new hne, hbl⟩
end Go.Proofs.YteiofihgpalkiaaDoor
