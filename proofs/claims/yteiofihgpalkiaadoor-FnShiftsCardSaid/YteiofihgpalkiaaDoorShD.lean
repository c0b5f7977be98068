/- The walks of shifts: how many there are behind a state. -/
import Derived.Test.YteiofihgpalkiaaDoorShM
namespace Go.Proofs.YteiofihgpalkiaaDoor
open Go Go.RowKit

/-- a state that the rule allows -/
structure St.In (r : SR) (s : St) : Prop where
  a0 : 0 ≤ s.slot
  a1 : s.slot ≤ r.slots
  b0 : 0 ≤ s.worked
  b1 : s.worked ≤ r.most
  c0 : 0 ≤ s.row
  c1 : s.row ≤ r.row
  d0 : 0 ≤ s.pause
  d1 : s.pause ≤ r.pause
theorem St.In.ok {r : SR} {s : St} (h : s.In r) (hr : r.Ok) : s.Ok := by
  obtain ⟨a0, a1, b0, b1, c0, c1, d0, d1⟩ := h
  obtain ⟨s1, s8, l0, lm, ms, r1, rs, p1, ps⟩ := hr
  exact ⟨a0, by omega, b0, by omega, c0, by omega, d0, by omega⟩
theorem St.In.nxt {r : SR} {s t : St} {b : Bool} (h : s.In r) (hr : r.Ok) (e : nxt r s b = some t) : t.In r ∧ t.slot = s.slot + 1 := by
  obtain ⟨a0, a1, b0, b1, c0, c1, d0, d1⟩ := h
  obtain ⟨s1, s8, l0, lm, ms, r1, rs, p1, ps⟩ := hr
  unfold Go.Proofs.YteiofihgpalkiaaDoor.nxt at e
  split at e
  · cases e
  rename_i hs
  split at e
  · split at e
    · cases e
    · rename_i hn
      simp only [Option.some.injEq] at e
      subst e
      have n1 : s.row ≠ r.row := fun h => hn (.inr (.inl h))
      have n2 : s.worked ≠ r.most := fun h => hn (.inr (.inr h))
      exact ⟨⟨by simp only; omega, by simp only; omega, by simp only; omega, by simp only; omega, by simp only; omega, by simp only; omega, by simp only; omega, by simp only; omega⟩, rfl⟩
  · simp only [Option.some.injEq] at e
    subst e
    exact ⟨⟨by simp only; omega, by simp only; omega, by simp only; omega, by simp only; omega, by simp only; omega, by simp only; omega, by simp only; omega, by simp only; omega⟩, rfl⟩
theorem st0_in {r : SR} (hr : r.Ok) : (⟨0, 0, 0, 0, false⟩ : St).In r := by
  obtain ⟨s1, s8, l0, lm, ms, r1, rs, p1, ps⟩ := hr
  exact ⟨by simp, by simp only; omega, by simp, by simp only; omega, by simp, by simp only; omega, by simp, by simp only; omega⟩

/-- how many there are with the next slot b -/
def cn (r : SR) (n : Nat) (s : St) (b : Bool) : Nat := match nxt r s b with | none => 0 | some t => (lst r n t).length
theorem lst_cn (r : SR) (n : Nat) (s : St) : (lst r (n + 1) s).length = cn r n s false + cn r n s true := by
  unfold lst cn
  cases nxt r s false <;> cases nxt r s true <;> simp
theorem lst_le (r : SR) : ∀ (n : Nat) (s : St), (lst r n s).length ≤ 2 ^ n := by
  intro n
  induction n with
  | zero => intro s; unfold lst; split <;> simp
  | succ n ih =>
    intro s
    have hc : ∀ b, cn r n s b ≤ 2 ^ n := fun b => by
      unfold cn
      cases nxt r s b with
      | none => simp
      | some t => exact ih t
    have h0 := hc false
    have h1 := hc true
    rw [lst_cn, Nat.pow_succ]
    omega
theorem cn_le (r : SR) (n : Nat) (s : St) (b : Bool) : cn r n s b ≤ 2 ^ n := by
  unfold cn
  cases nxt r s b with
  | none => simp
  | some t => exact lst_le r n t

def shCell (r : SR) (b : Nat) : Value := .agg #[.int .i64 r.slots, .int .i64 r.least, .int .i64 r.most, .int .i64 r.row, .int .i64 r.pause, .map (some b)]

theorem asShifts_any (r : SR) (w : World) : Calls Tryd.prog 19 #[r.cell] w fun e w' => ∃ b, e = .returned (shCell r b) ∧ w.heap.size ≤ b ∧ Memo r w' b ∧ Below w.heap.size w w' := by
  obtain ⟨s0, l, m, k, p⟩ := r
  unfold SR.cell shCell
  simp only
  have hmm := @run_makeMap Tryd.prog
  have hmem := Memo.new ⟨s0, l, m, k, p⟩ ((w.alloc (.cells #[.int .i64 s0, .int .i64 l, .int .i64 m, .int .i64 k, .int .i64 p] 25)).alloc (.cells #[.int .i64 s0, .int .i64 l, .int .i64 m, .int .i64 k, .int .i64 p, .map (some (w.heap.size + 1 + 1))] 53))
  rw [World.size_alloc, World.size_alloc] at hmem
  go_enter Tryd.func19, Tryd.ntmps19
  go_wp2
  exact bodyPost_ret (v := shCell ⟨s0, l, m, k, p⟩ (w.heap.size + 1 + 1)) (by simp [results, Tryd.results19, go_sem, shCell]) rfl ⟨w.heap.size + 1 + 1, rfl, by omega, hmem, (((Below.refl _ _).alloc (Nat.le_refl _) _).alloc (by simp) _).alloc (by simp; omega) _⟩

def sm (r : SR) (n : Nat) (s : St) (k : Nat) : Nat := (if 1 ≤ k then cn r n s false else 0) + (if 2 ≤ k then cn r n s true else 0)

set_option maxHeartbeats 2000000 in
theorem count_any (r : SR) (hr : r.Ok) : ∀ (n : Nat) (s : St) (w : World) (b : Nat), s.slot + n = r.slots → s.In r → Memo r w b →
    Calls Tryd.prog 20 #[shCell r b, s.cell] w fun e w' => e = .returned (.int .i64 ((lst r n s).length : Nat)) ∧ Memo r w' b ∧ Fr (fun k => k = b) w w' := by
  intro n
  induction n with
  | zero =>
    intro s w b hn hs hm
    have hmw : ∀ o1 o2 : Obj, Memo r ((w.alloc o1).alloc o2) b ∧ Fr (fun k => k = b) w ((w.alloc o1).alloc o2) := fun o1 o2 =>
      ⟨hm.fr (C := fun _ => False) (((Fr.refl w).alloc o1).alloc o2) (fun h => h), ((Fr.refl w).alloc o1).alloc o2⟩
    obtain ⟨s0, l, m, k, p⟩ := r
    obtain ⟨t0, t1, t2, t3, t4⟩ := s
    simp only [Int.natCast_zero, Int.add_zero] at hn
    subst hn
    unfold shCell St.cell
    simp only
    by_cases c : l ≤ t1
    · have e1 : decide (l ≤ t1) = true := by simpa
      have hx : (lst ⟨t0, l, m, k, p⟩ 0 ⟨t0, t1, t2, t3, t4⟩).length = 1 := by simp [lst, c]
      have HX := Lib.hid hx
      clear hx
      go_enter Tryd.func20, Tryd.ntmps20
      go_wp2
      go_ret
      exact ⟨by rw [HX.out]; rfl, hmw _ _⟩
    · have e1 : decide (l ≤ t1) = false := by simpa using c
      have hx : (lst ⟨t0, l, m, k, p⟩ 0 ⟨t0, t1, t2, t3, t4⟩).length = 0 := by simp [lst, c]
      have HX := Lib.hid hx
      clear hx
      go_enter Tryd.func20, Tryd.ntmps20
      go_wp2
      go_ret
      exact ⟨by rw [HX.out]; rfl, hmw _ _⟩
  | succ n ih =>
    intro s w b hn hs hm
    have hw2 : ∃ W, W = (w.alloc (.cells #[.int .i64 r.slots, .int .i64 r.least, .int .i64 r.most, .int .i64 r.row, .int .i64 r.pause, .map (some b)] 53)).alloc (.cells #[.int .i64 s.slot, .int .i64 s.worked, .int .i64 s.row, .int .i64 s.pause, .bool s.begun] 57) := ⟨_, rfl⟩
    obtain ⟨W, hW⟩ := hw2
    have B0 : Rw W w.heap.size 53 #[.int .i64 r.slots, .int .i64 r.least, .int .i64 r.most, .int .i64 r.row, .int .i64 r.pause, .map (some b)] := by rw [hW]; exact (Rw.new _ _ _).alloc _
    have B1 : Rw W (w.heap.size + 1) 57 #[.int .i64 s.slot, .int .i64 s.worked, .int .i64 s.row, .int .i64 s.pause, .bool s.begun] := by
      rw [hW]; have := Rw.new (w.alloc (.cells #[.int .i64 r.slots, .int .i64 r.least, .int .i64 r.most, .int .i64 r.row, .int .i64 r.pause, .map (some b)] 53)) 57 #[.int .i64 s.slot, .int .i64 s.worked, .int .i64 s.row, .int .i64 s.pause, .bool s.begun]
      rwa [World.size_alloc] at this
    have F0 : Fr (fun _ => False) w W := by rw [hW]; exact ((Fr.refl w).alloc _).alloc _
    have hmW := hm.fr F0 (fun h => h)
    have hbl := hm.lt
    have hsz : w.heap.size + 1 < W.heap.size := B1.lt
    have hl := run_lookSt r s (n + 1) b W hmW hn
    have e0 : (s.slot == r.slots) = false := by simp; omega
    unfold shCell
    have sc0 : s.cell = .agg #[.int .i64 s.slot, .int .i64 s.worked, .int .i64 s.row, .int .i64 s.pause, .bool s.begun] := rfl
    rw [sc0] at hl ⊢
    clear sc0
    have HN := Lib.hid hn
    clear hn hm
    go_enter Tryd.func20, Tryd.ntmps20
    go_upto_region 5 with fail
    rw [← hW]
    clear hW
    have f0 := B0.cell 0
    have f1 := B0.cell 1
    have f2 := B0.cell 2
    have f3 := B0.cell 3
    have f4 := B0.cell 4
    have f5 := B0.cell 5
    have g0 := B1.cell 0
    have g1 := B1.cell 1
    have g2 := B1.cell 2
    have g3 := B1.cell 3
    have g4 := B1.cell 4
    simp at f0 f1 f2 f3 f4 f5 g0 g1 g2 g3 g4
    have hle := lst_le r (n + 1) s
    have hle2 : (2 : Nat) ^ (n + 1) ≤ 256 := Nat.pow_le_pow_right (by omega) (show n + 1 ≤ 8 by have := HN.out; have := hs.a0; have := hr.s8; omega)
    rcases hl with hl | hl
    · have h2 := lst_cn r n s
      have HL := Lib.hid h2
      have hcf := cn_le r n s false
      have hct := cn_le r n s true
      have hsm0 : (sm r n s 0 : Nat) = 0 := by simp [sm]
      have hsm2 : sm r n s 2 = (lst r (n + 1) s).length := by rw [h2]; simp [sm]
      have HS0 := Lib.hid hsm0
      have HS2 := Lib.hid hsm2
      rw [Nat.pow_succ] at hle2
      clear h2 hsm0 hsm2 f0 f1 f2 f3 f4 g0 g1 g2 g3 g4
      have g0 := B1.cell 0
      have g1 := B1.cell 1
      have g2 := B1.cell 2
      have g3 := B1.cell 3
      have g4 := B1.cell 4
      simp at g0 g1 g2 g3 g4
      go_upto_region 10 with fail
      have B2 := Rw.new W 4 #[.bool false, .bool true]
      have B0' := B0.alloc (.cells #[.bool false, .bool true] 4)
      have B1' := B1.alloc (.cells #[.bool false, .bool true] 4)
      have hmW' := hmW.fr (C := fun _ => False) ((Fr.refl W).alloc (.cells #[.bool false, .bool true] 4)) (fun h => h)
      have F1 := F0.alloc (.cells #[.bool false, .bool true] 4)
      have hW1 : W.heap.size < (W.alloc (.cells #[.bool false, .bool true] 4)).heap.size := by simp
      generalize W.alloc (.cells #[.bool false, .bool true] 4) = W1 at B2 B0' B1' hmW' F1 hW1 ⊢
      clear B0 B1 hmW F0 hl f5 g0 g1 g2 g3 g4
      generalize hG2 : W.heap.size = G2 at *
      clear hG2
      go_loopg [7, 35] 2 (fun gk s7 s35 wr => ∃ k : Nat, gk = 2 - k ∧ k ≤ 2 ∧ s35 = .int .i64 k ∧ s7 = .int .i64 (sm r n s k : Nat) ∧ Memo r wr b ∧ Fr (fun k => k = b) W1 wr)
      case atStart => exact ⟨0, rfl, by omega, rfl, by rw [HS0.out]; rfl, hmW', Fr.refl _⟩
      case round =>
        obtain ⟨k, hgk, hk, rfl, rfl, hmr, hfr⟩ := hrel
        have HG := Lib.hid hgk
        clear hgk
        have B0 := B0'.fr hfr (by omega)
        have B1 := B1'.fr hfr (by omega)
        have hszr := hfr.size
        by_cases hlt : k < 2
        · obtain ⟨β, hβ, hstep⟩ : ∃ β : Bool, W1.cell? ⟨G2, k, none⟩ = some (.bool β) ∧ sm r n s k + cn r n s β = sm r n s (k + 1) := by
            have : k = 0 ∨ k = 1 := by omega
            rcases this with rfl | rfl
            · exact ⟨false, by have := B2.cell 0; simpa using this, by simp [sm]⟩
            · exact ⟨true, by have := B2.cell 1; simpa using this, by simp [sm]⟩
          have hbd : sm r n s k ≤ 256 := by
            have : sm r n s k ≤ cn r n s false + cn r n s true := by unfold sm; split <;> split <;> omega
            omega
          have hbd2 : cn r n s β ≤ 256 := Nat.le_trans (cn_le r n s β) (by omega)
          have c9 := hfr.cell hβ (by show ¬ G2 = b; omega)
          have HST := Lib.hid hstep
          clear hstep hβ
          have f0 := B0.cell 0
          have f1 := B0.cell 1
          have f2 := B0.cell 2
          have f3 := B0.cell 3
          have f4 := B0.cell 4
          have f5 := B0.cell 5
          have g0 := B1.cell 0
          have g1 := B1.cell 1
          have g2 := B1.cell 2
          have g3 := B1.cell 3
          have g4 := B1.cell 4
          simp at f0 f1 f2 f3 f4 f5 g0 g1 g2 g3 g4
          go_wp2_with fail
          refine (next_state r s β wr hr (hs.ok hr)).mono ?_
          rintro e wa ⟨t, rfl, ht, hb1⟩
          unfold St.cell
          have Ba := B0.below hb1
          have Ma := hmr.fr (C := fun _ => False) (Fr.ofBelow hb1) (fun h => h)
          have Fa := hfr.trans (Fr.ofBelow (C := fun k => k = b) hb1)
          have hsza := hb1.size
          clear f0 f1 f2 f3 f4 f5 g0 g1 g2 g3 g4 c9 hb1
          cases hx : nxt r s β with
          | none =>
            have hc0 : cn r n s β = 0 := by unfold cn; rw [hx]
            have hst2 : sm r n s (k + 1) = sm r n s k := by have := HST.out; omega
            have HST2 := Lib.hid hst2
            clear hx hc0 ht hst2
            simp only [Option.isSome_none]
            go_wp2_with fail
            go_roundg (2 - (k + 1))
            case measure => have := HG.out; omega
            case rel => exact ⟨k + 1, rfl, by omega, by go_num, by rw [HST2.out], Ma.fr (C := fun _ => False) ((Fr.refl _).alloc _) (fun h => h), Fa.trans ((Fr.refl _).alloc _)⟩
          | some t' =>
            obtain rfl := ht t' hx
            have hc0 : cn r n s β = (lst r n t).length := by unfold cn; rw [hx]
            obtain ⟨hin, hsl⟩ := hs.nxt hr hx
            have hsl2 : t.slot + (n : Int) = r.slots := by have := HN.out; omega
            have HC := Lib.hid hc0
            have HSL := Lib.hid hsl2
            rw [hc0] at hbd2
            clear hx hc0 ht hsl hsl2
            simp only [Option.isSome_some]
            have Bd := Ba.alloc (.cells #[.int .i64 t.slot, .int .i64 t.worked, .int .i64 t.row, .int .i64 t.pause, .bool t.begun] 57)
            have f0 := Bd.cell 0
            have f1 := Bd.cell 1
            have f2 := Bd.cell 2
            have f3 := Bd.cell 3
            have f4 := Bd.cell 4
            have f5 := Bd.cell 5
            simp at f0 f1 f2 f3 f4 f5
            have Md := Ma.fr (C := fun _ => False) ((Fr.refl _).alloc (.cells #[.int .i64 t.slot, .int .i64 t.worked, .int .i64 t.row, .int .i64 t.pause, .bool t.begun] 57)) (fun h => h)
            have Fd := Fa.trans ((Fr.refl _).alloc (.cells #[.int .i64 t.slot, .int .i64 t.worked, .int .i64 t.row, .int .i64 t.pause, .bool t.begun] 57))
            go_wp2_with fail
            refine (ih t _ b HSL.out hin Md).mono ?_
            rintro e wb ⟨rfl, hmb, hfb⟩
            clear f0 f1 f2 f3 f4 f5
            go_wp2_with fail
            go_roundg (2 - (k + 1))
            case measure => have := HG.out; omega
            case rel => exact ⟨k + 1, rfl, by omega, by go_num, by rw [← HST.out, HC.out]; go_num, hmb, Fd.trans hfb⟩
        · obtain rfl : k = 2 := by omega
          have f5 := B0.cell 5
          have g0 := B1.cell 0
          have g1 := B1.cell 1
          have g2 := B1.cell 2
          have g3 := B1.cell 3
          have g4 := B1.cell 4
          simp at f5 g0 g1 g2 g3 g4
          rw [HS2.out]
          obtain ⟨wz, hz, hmz, hfz⟩ := run_fillSt r s (n + 1) b wr hmr HN.out
          unfold St.cell at hz
          go_wp2
          go_ret
          exact ⟨rfl, hmz, ((F1.mono (D := fun k => k = b) (fun _ _ h => h.elim)).trans hfr).trans hfz⟩
    · have hr1 := F0.mono (D := fun k => k = b) (fun _ _ h => h.elim)
      go_wp2
      go_ret
      exact ⟨rfl, hmW, hr1⟩
end Go.Proofs.YteiofihgpalkiaaDoor
