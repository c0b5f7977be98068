/- The walks of the functions on tables that look at lists of times. -/
import Derived.Test.YteiofihgpalkiaaInts
import Derived.Test.YteiofihgpalkiaaTabWaits
namespace Go.Proofs.Yteiofihgpalkiaa
open Go Go.RowKit

theorem areWithin_true (b o c : Nat) (l : List Int) (lo hi : Int) (w : World) (hr : RdI w b o l) (hl : l.length ≤ 1000000) (h : ∀ j, j < l.length → lo ≤ gi l j ∧ gi l j ≤ hi) :
    Calls Try.prog 62 #[.slice (some ⟨b, o, none⟩) l.length c, .int .i64 lo, .int .i64 hi] w fun e w' => e = .returned (.bool true) ∧ w = w' := by
  go_enter Try.func62, Try.ntmps62
  go_wp2
  go_loop [11] (fun i => ∃ (k : Nat), k ≤ l.length ∧ i = .int .i64 k) (fun i => l.length - (intOf i).toNat)
  case atStart => exact ⟨0, by omega, rfl⟩
  case round =>
    obtain ⟨k, hk, rfl⟩ := hrel
    by_cases hlt : k < l.length
    · have c0 := hr k hlt
      obtain ⟨h1, h2⟩ := h k hlt
      go_wp2
      go_round
      case rel => first | exact ⟨k + 1, by omega, by go_num⟩ | ((repeat apply Exists.intro); exact ⟨⟨k + 1, by omega, by go_num⟩, rfl⟩)
      case measure => simp [intOf]; omega
    · go_wp2
      go_ret
      exact ⟨rfl, rfl⟩

theorem areMany_true (b o c : Nat) (l : List Int) (few many lo hi : Int) (w : World) (hr : RdI w b o l) (hl : l.length ≤ 1000000) (h1 : few ≤ l.length) (h2 : l.length ≤ many) (h : ∀ j, j < l.length → lo ≤ gi l j ∧ gi l j ≤ hi) :
    Calls Try.prog 82 #[.slice (some ⟨b, o, none⟩) l.length c, .int .i64 few, .int .i64 many, .int .i64 lo, .int .i64 hi] w fun e w' => e = .returned (.bool true) ∧ w = w' := by
  go_enter Try.func82, Try.ntmps82
  go_wp2_with (go_at_call 62; refine (areWithin_true b o c l lo hi _ hr hl h).mono ?_; rintro e w' ⟨rfl, rfl⟩)
  go_ret
  exact ⟨rfl, rfl⟩

theorem tableTimes_true (b o c : Nat) (ev p : Int) (l : List Int) (w : World) (hr : RdI w b o l) (ht : vTab ev p l) (h1 : 1 ≤ ev) (h2 : ev ≤ 12) (h3 : 1 ≤ p) (h4 : p ≤ 60) :
    Calls Try.prog 77 #[.slice (some ⟨b, o, none⟩) l.length c, .int .i64 p] w fun e w' => e = .returned (.bool true) ∧ w = w' := by
  obtain ⟨e1, e2⟩ := ht
  have e3 := Lib.hid e1
  have l1 : 1 ≤ (l.length : Int) := by omega
  have l2 : (l.length : Int) ≤ 12 := by omega
  clear e1
  go_enter Try.func77, Try.ntmps77
  go_wp2_with fail
  go_in
  go_wp2_with fail
  go_in
  go_wp2_with fail
  refine (areMany_true b o c l 1 12 0 (p - 1) _ hr (by omega) l1 l2 (fun j hj => by have := e2 j hj; omega)).mono ?_
  rintro e w' ⟨rfl, rfl⟩
  go_wp2
  go_ret
  exact ⟨rfl, rfl⟩

theorem keeps_any (ev p : Int) (b o c : Nat) (t : List Int) (rb ro rc : Nat) (rs : List Rul) (w : World) (hc : RdI w b o t) (ht : vTab ev p t) (hR : RdR w rb ro rs) (hr : ∀ j, j < rs.length → vRul ev p (ru rs j)) (hp : 1 ≤ p) (hp2 : p ≤ 60) (he : 1 ≤ ev) (he2 : ev ≤ 12) (hl : rs.length ≤ 32) :
    Calls Try.prog 31 #[.int .i64 ev, .slice (some ⟨rb, ro, none⟩) rs.length rc, .int .i64 p, .slice (some ⟨b, o, none⟩) t.length c] w fun e w' => e = .returned (.tuple #[.bool (waitsF p t rs 0).2, .bool true]) ∧ Below w.heap.size w w' := by
  have e1 : ((t.length : Int) != ev) = false := by rw [ht.1]; simp
  go_enter Try.func31, Try.ntmps31
  go_wp2_with fail
  refine (areRules_true ev p rb ro rc rs _ hR hr hp hp2 he he2 hl).mono ?_
  rintro e w1 ⟨rfl, hb1⟩
  go_wp2_with fail
  refine (tableTimes_true b o c ev p t _ (hc.below hb1) ht he he2 hp hp2).mono ?_
  rintro e w' ⟨rfl, rfl⟩
  go_wp2_with fail
  refine (waits_any ev p b o c t rb ro rc rs _ (hc.below hb1) ht (hR.below hb1) hr (by omega) hp2 he2 hl).mono ?_
  rintro e w2 ⟨rfl, hb2⟩
  go_wp2
  go_ret2
  exact ⟨rfl, hb1.trans (hb2.mono hb1.size)⟩

/-- times that are turned -/
def turnF (p by_ : Int) (l : List Int) : List Int := l.map fun t => (t + by_) % p

theorem turn_any (b o c : Nat) (ev p d : Int) (l : List Int) (w : World) (hr : RdI w b o l) (ht : vTab ev p l) (h1 : 1 ≤ ev) (h2 : ev ≤ 12) (h3 : 1 ≤ p) (h4 : p ≤ 60) (hd : -1000 ≤ d) (hd2 : d ≤ 1000) (hbl : b < w.heap.size) :
    Calls Try.prog 32 #[.slice (some ⟨b, o, none⟩) l.length c, .int .i64 p, .int .i64 d] w fun e w' => ∃ v, e = .returned (.tuple #[v, .bool true]) ∧ NewI w' w.heap.size v (turnF p d l) ∧ Below w.heap.size w w' := by
  have e3 := Lib.hid ht.1
  go_enter Try.func32, Try.ntmps32
  go_wp2_with fail
  refine (tableTimes_true b o c ev p l _ hr ht h1 h2 h3 h4).mono ?_
  rintro e w' ⟨rfl, rfl⟩
  obtain ⟨_, ht2⟩ := ht
  go_wp2
  go_loopw [8, 23] (fun v i wr => ∃ (k : Nat), k ≤ l.length ∧ i = .int .i64 k ∧ OwnI wr w.heap.size v (turnF p d (l.take k)) ∧ v ≠ .slice none 0 0 ∧ Below w.heap.size w wr) (fun _ i _ => l.length - (intOf i).toNat)
  case atStart => exact ⟨0, by omega, rfl, OwnI.made w _ (Nat.le_refl _), by simp, (Below.refl _ _).alloc (Nat.le_refl _) _⟩
  case round =>
    obtain ⟨k, hk, rfl, hown, hne, hb⟩ := hrel
    obtain ⟨hbc, hbf⟩ := bcell hb
    by_cases hlt : k < l.length
    · have c0 := hr k hlt
      obtain ⟨b1, b2⟩ := ht2 k hlt
      have hlen : (turnF p d (l.take k)).length ≤ 12 := by have := e3.out; simp [turnF]; omega
      have hsn : turnF p d (l.take (k + 1)) = turnF p d (l.take k) ++ [(gi l k + d) % p] := by
        unfold turnF; rw [List.take_succ_eq_append_getElem hlt, List.map_append]; simp [gi, hlt]
      have HS := Lib.hid hsn
      clear hsn ht2
      go_wp2_with (first | (go_at_call 79; refine (floorMod_any _ _ _ (by omega) (by omega) (by omega) (by omega)).mono ?_; rintro e w' ⟨rfl, rfl⟩) | (at_builtin; refine wpList_app rfl _ _ rfl w.heap.size _ (turnF p d (l.take k)) [(gi l k + d) % p] rfl (hown.alloc _) wr.heap.size 0 1 1 rfl rfl (RdI.new1 _ _ _) (by simp; omega) (by have := hb.size; simp; omega) ?_; intro v' w1 hown1 hg1 hn1))
      have hne' : v' ≠ .slice none 0 0 := fun e => hne (hn1.1 e).1
      have hb1 : Below w.heap.size w w1 := (hb.alloc hb.size _).grown hg1 (by have := hb.size; simp; omega) (fun k hk => (hown.lt k hk).1)
      go_wp2
      go_roundw
      case rel => (repeat apply Exists.intro); exact ⟨⟨k + 1, by omega, by go_num, by rw [HS.out]; exact hown1, hne', hb1⟩, rfl⟩
      case measure => simp [intOf]; omega
    · have e1 : k = l.length := by omega
      subst e1
      go_wp2
      go_ret2
      rw [List.take_of_length_le (Nat.le_refl _)] at hown
      exact ⟨_, rfl, hown.new hne, hb⟩
end Go.Proofs.Yteiofihgpalkiaa
