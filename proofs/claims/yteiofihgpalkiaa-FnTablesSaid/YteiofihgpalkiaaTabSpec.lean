/- The reference's tables: the same numbers. -/
import Derived.Test.YteiofihgpalkiaaTabImpl
namespace Go.Proofs.Yteiofihgpalkiaa
open Go Go.RowKit

theorem specWait_any (r : Rul) (ev p : Int) (q rb b o c : Nat) (t : List Int) (w : World) (hc : RdI w b o t) (ht : vTab ev p t) (hr : vRul ev p r) (hp : 0 < p) (hp2 : p ≤ 60) (he : ev ≤ 12)
    (r0 : w.cell? ⟨rb, q, none⟩ = some (.int .i64 r.fr)) (r1 : w.cell? ⟨rb, q + 1, none⟩ = some (.int .i64 r.to)) (r2 : w.cell? ⟨rb, q + 2, none⟩ = some (.int .i64 r.le)) :
    Calls Try.prog 126 #[.pointer (some ⟨rb, q, none⟩), .int .i64 p, .slice (some ⟨b, o, none⟩) t.length c] w fun e w' => e = .returned (.int .i64 (wt p t r)) ∧ Drew w w' := by
  have hw : wt p t r = r.le + (gi t r.to.toNat - gi t r.fr.toNat - r.le) % p := rfl
  obtain ⟨h1, h2, h3, h4, h5, h6, h7, h8, h9⟩ := hr
  obtain ⟨ht1, ht2⟩ := ht
  have i1 : r.fr.toNat < t.length := by omega
  have i2 : r.to.toNat < t.length := by omega
  have i3 : r.fr < t.length := by omega
  have i4 : r.to < t.length := by omega
  have b1 := ht2 _ i1
  have b2 := ht2 _ i2
  have c1 := hc _ i1
  have c2 := hc _ i2
  clear hc ht1 ht2
  generalize gi t r.fr.toNat = x at *
  generalize gi t r.to.toNat = y at *
  have q1 : IntKind.i64.wrap (y - x) = y - x := IntWalk.i64_in _ (by omega)
  have q2 : IntKind.i64.wrap (y - x - r.le) = y - x - r.le := IntWalk.i64_in _ (by omega)
  have m1 : -p < (y - x - r.le).tmod p := by have := Int.lt_tmod_of_pos (y - x - r.le) hp; omega
  have m2 : (y - x - r.le).tmod p < p := Int.tmod_lt_of_pos _ hp
  have q3 : IntKind.i64.wrap ((y - x - r.le).tmod p + p) = (y - x - r.le).tmod p + p := IntWalk.i64_in _ (by omega)
  have e1 : 0 ≤ (y - x - r.le) % p := Int.emod_nonneg _ (by omega)
  have e2 : (y - x - r.le) % p < p := Int.emod_lt_of_pos _ hp
  have q4 : ((y - x - r.le).tmod p + p).tmod p = (y - x - r.le) % p := by rw [Int.tmod_eq_emod_of_nonneg (by omega), emod_eq' _ _ hp]
  have q5 : IntKind.i64.wrap (r.le + (y - x - r.le) % p) = r.le + (y - x - r.le) % p := IntWalk.i64_in _ (by omega)
  have q6 : ¬ p = 0 := by omega
  have HW := Lib.hid hw
  clear hw m1 m2 e1 e2
  go_enter Try.func126, Try.ntmps126
  go_wp2
  go_quiet (fail)
  go_wp2
  go_quiet (fail)
  go_wp2
  go_ret
  exact ⟨by rw [HW.out]; rfl, ((Drew.refl w).more _).more _⟩

/-- are all rules kept -/
def keepsL (p : Int) (t : List Int) (rs : List Rul) : Bool := rs.all fun r => decide (wt p t r ≤ r.mo)
def sumL (p : Int) (t : List Int) : List Rul → Int
  | [] => 0
  | r :: l => wt p t r + sumL p t l
theorem waitsF_eq (p : Int) (t : List Int) (rs : List Rul) : ∀ s, waitsF p t rs s = if keepsL p t rs then (s + sumL p t rs, true) else (0, false) := by
  induction rs with
  | nil => intro s; simp [waitsF, keepsL, sumL]
  | cons r l ih =>
    intro s
    simp only [waitsF]
    by_cases h : r.mo < wt p t r
    · rw [if_pos h]
      have : keepsL p t (r :: l) = false := by simp [keepsL]; intro h2; omega
      rw [this]; rfl
    · rw [if_neg h, ih]
      have h' : wt p t r ≤ r.mo := by omega
      have : keepsL p t (r :: l) = keepsL p t l := by simp [keepsL, h']
      rw [this]
      split
      · simp only [sumL]; congr 1; omega
      · rfl

theorem specKeeps_any (ev p : Int) (b o c : Nat) (t : List Int) (rb ro rc : Nat) (rs : List Rul) (w : World) (hc : RdI w b o t) (ht : vTab ev p t) (hR : RdR w rb ro rs) (hr : ∀ j, j < rs.length → vRul ev p (ru rs j)) (hp : 0 < p) (hp2 : p ≤ 60) (he : ev ≤ 12) (hl : rs.length ≤ 32) :
    Calls Try.prog 125 #[.slice (some ⟨rb, ro, none⟩) rs.length rc, .int .i64 p, .slice (some ⟨b, o, none⟩) t.length c] w fun e w' => e = .returned (.bool (keepsL p t rs)) ∧ Drew w w' := by
  go_enter Try.func125, Try.ntmps125
  go_wp2
  go_loopg [10] rs.length (fun gk s10 wr => ∃ (k : Nat), gk = rs.length - k ∧ k ≤ rs.length ∧ s10 = .int .i64 k ∧ Drew w wr ∧ keepsL p t rs = keepsL p t (rs.drop k))
  case atStart => exact ⟨0, rfl, by omega, rfl, Drew.refl w, rfl⟩
  case round =>
    obtain ⟨k, hg, hk, rfl, hd, hF⟩ := hrel
    have HF := Lib.hid hF
    have HG := Lib.hid hg
    clear hF hg
    by_cases hlt : k < rs.length
    · obtain ⟨c0, c1, c2, c3⟩ := (hR.fr (C := fun _ => False) hd.fr (fun h => h)) k hlt
      have hv := hr k hlt
      have hstep : keepsL p t (rs.drop k) = (decide (wt p t (ru rs k) ≤ (ru rs k).mo) && keepsL p t (rs.drop (k + 1))) := by
        rw [drop_ru rs k hlt]; rfl
      have HS := Lib.hid hstep
      have hsw := fun W h0 h1 h2 h3 => specWait_any (ru rs k) ev p (ro + k * 4) rb b o c t W h0 ht hv hp hp2 he h1 h2 h3
      have HW := Lib.hid hsw
      have hc' := hc.fr (C := fun _ => False) hd.fr (fun h => h)
      clear hstep hsw
      have k0 : (0 : Int) ≤ (k : Int) := by omega
      have k1 : (k : Int) < (rs.length : Int) := by omega
      by_cases hm : (ru rs k).mo < wt p t (ru rs k)
      · go_wp2
        go_quiet ((go_at_call 126; exact Calls.quiet_of (HW.out _ hc' c0 c1 c2)))
        go_wp2
        go_ret
        refine ⟨?_, hd.more _⟩
        rw [HF.out, HS.out]
        have : decide (wt p t (ru rs k) ≤ (ru rs k).mo) = false := by simp; omega
        rw [this]
        rfl
      · go_wp2
        go_quiet ((go_at_call 126; exact Calls.quiet_of (HW.out _ hc' c0 c1 c2)))
        go_wp2
        go_roundg (rs.length - (k + 1))
        case measure => have := HG.out; omega
        case rel =>
          refine ⟨k + 1, rfl, by omega, by go_num, hd.more _, ?_⟩
          rw [HF.out, HS.out]
          have : decide (wt p t (ru rs k) ≤ (ru rs k).mo) = true := by simp; omega
          rw [this]
          rfl
    · have e1 : k = rs.length := by omega
      subst e1
      have hd0 : rs.drop rs.length = [] := List.drop_eq_nil_of_le (Nat.le_refl _)
      go_wp2
      go_ret
      exact ⟨by rw [HF.out, hd0]; rfl, hd⟩

theorem specIn_true (n a b : Int) (w : World) (h1 : a ≤ n) (h2 : n ≤ b) :
    Calls Try.prog 103 #[.int .i64 n, .int .i64 a, .int .i64 b] w fun e w' => e = .returned (.bool true) ∧ w' = w := by
  go_enter Try.func103, Try.ntmps103
  go_wp2
  go_ret
  exact ⟨rfl, rfl⟩

theorem specRules_true (ev p : Int) (rb ro rc : Nat) (rs : List Rul) (w : World) (hR : RdR w rb ro rs) (hr : ∀ j, j < rs.length → vRul ev p (ru rs j)) (hp : 1 ≤ p) (hp2 : p ≤ 60) (he : 1 ≤ ev) (he2 : ev ≤ 12) (hl : rs.length ≤ 32) :
    Calls Try.prog 68 #[.int .i64 ev, .slice (some ⟨rb, ro, none⟩) rs.length rc, .int .i64 p] w fun e w' => e = .returned (.bool true) ∧ Drew w w' := by
  go_enter Try.func68, Try.ntmps68
  go_wp2
  go_loopg [24] rs.length (fun gk s24 wr => ∃ (k : Nat), gk = rs.length - k ∧ k ≤ rs.length ∧ s24 = .int .i64 k ∧ Drew w wr)
  case atStart => exact ⟨0, rfl, by omega, rfl, Drew.refl w⟩
  case round =>
    obtain ⟨k, hg, hk, rfl, hd⟩ := hrel
    have HG := Lib.hid hg
    clear hg
    by_cases hlt : k < rs.length
    · obtain ⟨c0, c1, c2, c3⟩ := (hR.fr (C := fun _ => False) hd.fr (fun h => h)) k hlt
      obtain ⟨v1, v2, v3, v4, v5, v6, v7, v8, v9⟩ := hr k hlt
      have v5' : ((ru rs k).fr == (ru rs k).to) = false := beq_eq_false_iff_ne.2 v5
      have k0 : (0 : Int) ≤ (k : Int) := by omega
      have k1 : (k : Int) < (rs.length : Int) := by omega
      have q1 : IntKind.i64.wrap (ev - 1) = ev - 1 := IntWalk.i64_in _ (by omega)
      have q2 : IntKind.i64.wrap (p - 1) = p - 1 := IntWalk.i64_in _ (by omega)
      have q3 : IntKind.i64.wrap ((ru rs k).le + p) = (ru rs k).le + p := IntWalk.i64_in _ (by omega)
      have q4 : IntKind.i64.wrap ((ru rs k).le + p - 1) = (ru rs k).le + p - 1 := IntWalk.i64_in _ (by omega)
      have n1 : ¬ (ru rs k).fr = (ru rs k).to := v5
      go_wp2
      go_quiet ((go_at_call 103; exact Calls.quiet_of_same (specIn_true _ _ _ _ (by omega) (by omega))))
      go_wp2
      go_roundg (rs.length - (k + 1))
      case measure => have := HG.out; omega
      case rel => exact ⟨k + 1, rfl, by omega, by go_num, hd.more _⟩
    · go_wp2
      go_ret
      exact ⟨rfl, hd⟩

theorem kept_eq (p m : Nat) (rs : List Rul) (k : Nat) : keepsL p (tab p m k) rs = keptB p m rs k := by
  unfold keptB
  rw [waitsF_eq]
  cases keepsL p (tab p m k) rs <;> rfl
theorem sumT_eq (p m : Nat) (rs : List Rul) (k : Nat) (h : keptB p m rs k = true) : sumT p m rs k = sumL p (tab p m k) rs := by
  rw [← kept_eq] at h
  unfold sumT
  rw [waitsF_eq, if_pos h]
  simp
theorem sumL_take (p : Int) (t : List Int) (rs : List Rul) (k : Nat) (h : k < rs.length) : sumL p t (rs.take (k + 1)) = sumL p t (rs.take k) + wt p t (ru rs k) := by
  induction rs generalizing k with
  | nil => simp at h
  | cons r l ih =>
    cases k with
    | zero => simp [sumL, ru]
    | succ k =>
      have := ih k (by simpa using h)
      have e : ru (r :: l) (k + 1) = ru l k := by simp [ru]
      simp only [List.take_succ_cons, sumL, this, e]
      omega
theorem sumL_bd (ev p : Int) (t : List Int) (rs : List Rul) (hp : 0 < p) (hr : ∀ j, j < rs.length → vRul ev p (ru rs j)) : ∀ k, k ≤ rs.length → 0 ≤ sumL p t (rs.take k) ∧ sumL p t (rs.take k) ≤ 2 * p * k := by
  intro k
  induction k with
  | zero => intro _; simp [sumL]
  | succ k ih =>
    intro hk
    have h1 := ih (by omega)
    have h2 := wt_bd (t := t) hp (hr k (by omega))
    rw [sumL_take _ _ _ _ (by omega)]
    have h3 : 2 * p * ((k + 1 : Nat) : Int) = 2 * p * (k : Int) + 2 * p := by rw [Int.natCast_add, Int.mul_add]; simp
    omega

/-- the four cells of what is found -/
def G4 (w : World) (G : Nat) (a b : Int) (c d : Value) : Prop := w.heap[G]? = some (.cells #[.int .i64 a, .int .i64 b, c, d] 100 (0, 0))
section
variable {w w' : World} {G : Nat} {a b : Int} {c d : Value} {C : Nat → Prop}
theorem G4.cells (h : G4 w G a b c d) : w.cell? ⟨G, 0, none⟩ = some (.int .i64 a) ∧ w.cell? ⟨G, 1, none⟩ = some (.int .i64 b) ∧ w.cell? ⟨G, 2, none⟩ = some c ∧ w.cell? ⟨G, 3, none⟩ = some d := by
  have h0 := cell_of_row w G 0 _ _ _ h
  have h1 := cell_of_row w G 1 _ _ _ h
  have h2 := cell_of_row w G 2 _ _ _ h
  have h3 := cell_of_row w G 3 _ _ _ h
  exact ⟨by simpa using h0, by simpa using h1, by simpa using h2, by simpa using h3⟩
theorem G4.fro (h : G4 w G a b c d) (i : Nat) : w.frozen? ⟨G, i, none⟩ = false := by
  unfold G4 at h
  simp [World.frozen?, h]
theorem G4.fr (h : G4 w G a b c d) (hf : Fr C w w') (hn : ¬ C G) : G4 w' G a b c d := hf.heap h hn
theorem G4.lt (h : G4 w G a b c d) : G < w.heap.size := heap_lt h
theorem G4.set0 (h : G4 w G a b c d) (x : Int) : G4 (w.setCell ⟨G, 0, none⟩ (.int .i64 x)) G x b c d := by
  have := heap_set (i := 0) (.int .i64 x) h
  simpa [G4] using this
theorem G4.set1 (h : G4 w G a b c d) (x : Int) : G4 (w.setCell ⟨G, 1, none⟩ (.int .i64 x)) G a x c d := by
  have := heap_set (i := 1) (.int .i64 x) h
  simpa [G4] using this
theorem G4.set2 (h : G4 w G a b c d) (x : Value) : G4 (w.setCell ⟨G, 2, none⟩ x) G a b x d := by
  have := heap_set (i := 2) x h
  simpa [G4] using this
theorem G4.set3 (h : G4 w G a b c d) (x : Value) : G4 (w.setCell ⟨G, 3, none⟩ x) G a b c x := by
  have := heap_set (i := 3) x h
  simpa [G4] using this
end
end Go.Proofs.Yteiofihgpalkiaa
