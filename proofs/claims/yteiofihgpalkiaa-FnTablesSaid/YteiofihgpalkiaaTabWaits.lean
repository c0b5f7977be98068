/- A first try -/
import Derived.Test.YteiofihgpalkiaaBase
import Derived.Deep.LoopGhost
import Derived.Deep.QuietTactic
import Derived.BigQuiet
namespace Go.Proofs.Yteiofihgpalkiaa
open Go Go.RowKit

def inB (n a b : Int) : Bool := decide (a ≤ n) && decide (n ≤ b)
theorem within_any (n a b : Int) (w : World) :
    Calls Try.prog 53 #[.int .i64 n, .int .i64 a, .int .i64 b] w fun e w' => e = .returned (.bool (inB n a b)) ∧ w = w' := by
  by_cases h : a ≤ n
  · go_enter Try.func53, Try.ntmps53
    go_wp2
    go_ret
    simp [inB, h]
  · go_enter Try.func53, Try.ntmps53
    go_wp2
    go_ret
    simp [inB]
    omega

theorem floorMod_any (a b : Int) (w : World) (hb : 0 < b) (hb2 : b ≤ 1000000) (_ha : -1000000000 ≤ a) (_ha2 : a ≤ 1000000000) :
    Calls Try.prog 79 #[.int .i64 a, .int .i64 b] w fun e w' => e = .returned (.int .i64 (a % b)) ∧ w = w' := by
  have h1 : -b < a.tmod b := by
    have := Int.lt_tmod_of_pos a hb; omega
  have h2 : a.tmod b < b := Int.tmod_lt_of_pos a hb
  go_enter Try.func79, Try.ntmps79
  go_wp2
  go_ret
  exact ⟨by rw [← emod_eq' a b hb]; rfl, rfl⟩

theorem wait_any (r : Rul) (ev p : Int) (b o : Nat) (c : Nat) (t : List Int) (w : World) (hc : RdI w b o t) (ht : vTab ev p t) (hr : vRul ev p r) (hp : 0 < p) (hp2 : p ≤ 60) (he : ev ≤ 12) :
    Calls Try.prog 127 #[.agg #[.int .i64 r.fr, .int .i64 r.to, .int .i64 r.le, .int .i64 r.mo], .slice (some ⟨b, o, none⟩) t.length c, .int .i64 p] w fun e w' => e = .returned (.int .i64 (wt p t r)) ∧ Below w.heap.size w w' := by
  obtain ⟨h1, h2, h3, h4, h5, h6, h7, h8, h9⟩ := hr
  obtain ⟨ht1, ht2⟩ := ht
  have i1 : r.fr.toNat < t.length := by omega
  have i2 : r.to.toNat < t.length := by omega
  have b1 := ht2 _ i1
  have b2 := ht2 _ i2
  have e1 : 0 ≤ (gi t r.to.toNat - gi t r.fr.toNat - r.le) % p := Int.emod_nonneg _ (by omega)
  have e2 : (gi t r.to.toNat - gi t r.fr.toNat - r.le) % p < p := Int.emod_lt_of_pos _ hp
  have c1 := hc _ i1
  have c2 := hc _ i2
  have l1 : b < w.heap.size := lt_of_cell c1
  clear hc ht1 ht2
  go_enter Try.func127, Try.ntmps127
  go_wp2
  go_quiet ((go_at_call 79; exact Calls.quiet_of_same ((floorMod_any _ _ _ (by omega) (by omega) (by omega) (by omega)).mono fun _ _ h => ⟨h.1, h.2.symm⟩)))
  go_wp2
  go_ret
  exact ⟨rfl, bdrewN ((Below.refl _ _).alloc (Nat.le_refl _) _) _⟩

/-- the sum of waits, where all are kept -/
def waitsF (p : Int) (t : List Int) : List Rul → Int → Int × Bool
  | [], s => (s, true)
  | r :: l, s => if r.mo < wt p t r then (0, false) else waitsF p t l (s + wt p t r)

theorem waits_any (ev p : Int) (b o : Nat) (c : Nat) (t : List Int) (rb ro rc : Nat) (rs : List Rul) (w : World) (hc : RdI w b o t) (ht : vTab ev p t) (hR : RdR w rb ro rs) (hr : ∀ j, j < rs.length → vRul ev p (ru rs j)) (hp : 0 < p) (hp2 : p ≤ 60) (he : ev ≤ 12) (hl : rs.length ≤ 32) :
    Calls Try.prog 78 #[.slice (some ⟨rb, ro, none⟩) rs.length rc, .slice (some ⟨b, o, none⟩) t.length c, .int .i64 p] w fun e w' => e = .returned (.tuple #[.int .i64 (waitsF p t rs 0).1, .bool (waitsF p t rs 0).2]) ∧ Below w.heap.size w w' := by
  go_enter Try.func78, Try.ntmps78
  go_wp2
  go_loopw [8, 14] (fun s i wr => ∃ (k : Nat) (x : Int), k ≤ rs.length ∧ i = .int .i64 k ∧ s = .int .i64 x ∧ 0 ≤ x ∧ x ≤ 120 * k ∧ waitsF p t rs 0 = waitsF p t (rs.drop k) x ∧ Below w.heap.size w wr) (fun _ i _ => rs.length - (intOf i).toNat)
  case atStart => exact ⟨0, 0, by omega, rfl, rfl, by omega, by simp, rfl, Below.refl _ _⟩
  case round =>
    obtain ⟨k, x, hk, rfl, rfl, hx0, hx1, hF, hb⟩ := hrel
    have HF := Lib.hid hF
    clear hF
    obtain ⟨hbc, hbf⟩ := bcell hb
    by_cases hlt : k < rs.length
    · obtain ⟨c0, c1, c2, c3⟩ := hR k hlt
      have hlb := lt_of_cell c0
      have hv := hr k hlt
      have hwb := wt_bd (t := t) hp hv
      have hstep : waitsF p t (rs.drop k) x = if (ru rs k).mo < wt p t (ru rs k) then (0, false) else waitsF p t (rs.drop (k + 1)) (x + wt p t (ru rs k)) := by
        rw [drop_ru rs k hlt]; rfl
      have HS := Lib.hid hstep
      clear hstep
      by_cases hm : (ru rs k).mo < wt p t (ru rs k)
      · go_wp2_with fail
        refine (wait_any (ru rs k) ev p b o c t _ ((hc.below hb).below ((Below.refl _ _).alloc (Nat.le_refl _) _)) ht hv hp hp2 he).mono ?_
        rintro e w1 ⟨rfl, hb1⟩
        obtain ⟨hbc1, hbf1⟩ := bcell hb1
        go_wp2
        go_ret2
        rw [HF.out, HS.out, if_pos hm]
        refine ⟨rfl, ?_⟩
        exact hb.trans (((Below.refl _ _).alloc hb.size _).trans (hb1.mono (by simp; have := hb.size; omega)))
      · go_wp2_with fail
        refine (wait_any (ru rs k) ev p b o c t _ ((hc.below hb).below ((Below.refl _ _).alloc (Nat.le_refl _) _)) ht hv hp hp2 he).mono ?_
        rintro e w1 ⟨rfl, hb1⟩
        obtain ⟨hbc1, hbf1⟩ := bcell hb1
        have hb2 : Below w.heap.size w w1 := hb.trans (((Below.refl _ _).alloc hb.size _).trans (hb1.mono (by simp; have := hb.size; omega)))
        go_wp2
        go_roundw
        case rel => exact ⟨k + 1, x + wt p t (ru rs k), by omega, by go_num, rfl, by omega, by omega, by rw [HF.out, HS.out, if_neg (by omega)], hb2⟩
        case measure => simp [intOf]; omega
    · have e1 : k = rs.length := by omega
      subst e1
      go_wp2
      go_ret2
      have hd : rs.drop rs.length = [] := List.drop_eq_nil_of_le (Nat.le_refl _)
      rw [HF.out, hd]
      exact ⟨rfl, hb⟩

theorem areRules_true (ev p : Int) (rb ro rc : Nat) (rs : List Rul) (w : World) (hR : RdR w rb ro rs) (hr : ∀ j, j < rs.length → vRul ev p (ru rs j)) (hp : 1 ≤ p) (hp2 : p ≤ 60) (he : 1 ≤ ev) (he2 : ev ≤ 12) (hl : rs.length ≤ 32) :
    Calls Try.prog 27 #[.int .i64 ev, .slice (some ⟨rb, ro, none⟩) rs.length rc, .int .i64 p] w fun e w' => e = .returned (.bool true) ∧ Below w.heap.size w w' := by
  go_enter Try.func27, Try.ntmps27
  go_wp2
  go_loopw [24] (fun i wr => ∃ (k : Nat), k ≤ rs.length ∧ i = .int .i64 k ∧ Below w.heap.size w wr) (fun i _ => rs.length - (intOf i).toNat)
  case atStart => exact ⟨0, by omega, rfl, Below.refl _ _⟩
  case round =>
    obtain ⟨k, hk, rfl, hb⟩ := hrel
    obtain ⟨hbc, hbf⟩ := bcell hb
    by_cases hlt : k < rs.length
    · obtain ⟨c0, c1, c2, c3⟩ := hR k hlt
      have hlb := lt_of_cell c0
      obtain ⟨v1, v2, v3, v4, v5, v6, v7, v8, v9⟩ := hr k hlt
      have v5' : ((ru rs k).fr == (ru rs k).to) = false := beq_eq_false_iff_ne.2 v5
      have v9' : (ru rs k).mo ≤ (ru rs k).le + p - 1 := by omega
      go_wp2
      go_roundw
      case rel => (repeat apply Exists.intro); exact ⟨⟨k + 1, by omega, by go_num, hb.alloc hb.size _⟩, rfl, rfl, rfl⟩
      case measure => simp [intOf]; omega
    · go_wp2
      go_ret
      exact ⟨rfl, hb⟩

theorem powered_any (p : Nat) (m : Nat) (w : World) (hp : 1 ≤ p) (hp2 : p ≤ 60) (hm : m ≤ 12) (hpow : p ^ m ≤ 65536) :
    Calls Try.prog 123 #[.int .i64 p, .int .i64 m] w fun e w' => e = .returned (.int .i64 ((p ^ m : Nat) : Int)) ∧ w = w' := by
  go_enter Try.func123, Try.ntmps123
  go_wp2
  go_loop [5, 7] (fun s i => ∃ (k : Nat), k ≤ m ∧ i = .int .i64 k ∧ s = .int .i64 ((p ^ k : Nat) : Int)) (fun _ i => m - (intOf i).toNat)
  case atStart => exact ⟨0, by omega, rfl, by simp⟩
  case round =>
    obtain ⟨k, hk, rfl, rfl⟩ := hrel
    by_cases hlt : k < m
    · have h1 : p ^ (k + 1) ≤ p ^ m := Nat.pow_le_pow_right (by omega) (by omega)
      have h2 : p ^ (k + 1) = p ^ k * p := Nat.pow_succ _ _
      have h3 : ((p ^ k : Nat) : Int) * (p : Int) = ((p ^ (k + 1) : Nat) : Int) := by rw [h2]; simp
      have HP := Lib.hid hpow
      have h4 : p ^ (k + 1) ≤ 65536 := by omega
      clear h1 h2 hpow
      generalize p ^ k = x at *
      generalize hy : p ^ (k + 1) = y at *
      have HY := Lib.hid hy
      clear hy
      go_wp2
      go_round
      case rel => exact ⟨k + 1, by omega, by go_num, by rw [HY.out]⟩
      case measure => simp [intOf]; omega
    · have e1 : k = m := by omega
      subst e1
      go_wp2
      go_ret
      exact ⟨rfl, rfl⟩
end Go.Proofs.Yteiofihgpalkiaa
