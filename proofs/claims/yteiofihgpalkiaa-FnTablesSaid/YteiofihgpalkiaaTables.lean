/- The walk of tables: all tables in their order, with a function that is called for those that keep all rules. -/
import Derived.Test.YteiofihgpalkiaaInts
import Derived.Test.YteiofihgpalkiaaTabWaits
import Derived.Test.YteiofihgpalkiaaTabLaw
import Derived.Deep.LoopGhost
import Derived.Deep.OwnRows
namespace Go.Proofs.Yteiofihgpalkiaa
open Go Go.RowKit

theorem rowIs_fr {C : Nat → Prop} {w w' : World} {b t n : Nat} {f : Nat → Value} (h : w.rowIs b t n f) (hf : Fr C w w') (hn : ¬ C b) : w'.rowIs b t n f := h.of_block (hf.block b h.lt hn)
theorem rdI_tab {w : World} {T p m k : Nat} (h : w.rowIs T 2 (m + 1) (fun j => .int .i64 (tv p m k j))) : RdI w T 0 (tab p m k) := by
  intro j hj
  rw [tab_len] at hj
  have := h.cell hj
  rw [gi_tab _ _ _ _ hj, Nat.zero_add]
  exact this

def keptB (p m : Nat) (rs : List Rul) (k : Nat) : Bool := (waitsF p (tab p m k) rs 0).2
def sumT (p m : Nat) (rs : List Rul) (k : Nat) : Int := (waitsF p (tab p m k) rs 0).1

set_option maxRecDepth 100000 in
set_option maxHeartbeats 1000000 in
theorem tables_any {S : Type} (Inv : Nat → S → World → Prop) (nx : S → Nat → S) (s0 : S) (cont : Bool) (f : Nat) (caps : Array Value) (C : Nat → Prop) (p m rb ro rc : Nat) (rs : List Rul) (w : World)
    (hcf : ∀ (args : Array Value) (W : World), (callFunc f args).run Try.prog W = .ok (.enter f args) W)
    (hR : RdR w rb ro rs) (hr : ∀ j, j < rs.length → vRul ((m + 1 : Nat) : Int) p (ru rs j)) (hp : 1 ≤ p) (hp2 : p ≤ 60) (hm : m + 1 ≤ 12) (hpow : p ^ m ≤ 4096) (hl : rs.length ≤ 32)
    (hC : ∀ k, C k → k < w.heap.size) (hCR : ¬ C rb)
    (hst : ∀ T s W W', Inv T s W → Fr (fun k => k = T) W W' → Inv T s W')
    (h0 : ∀ T W', w.heap.size ≤ T → Fr (fun _ => False) w W' → Inv T s0 W')
    (hcb : ∀ T s W k cap, w.heap.size ≤ T → k < p ^ m → Inv T s W → W.rowIs T 2 (m + 1) (fun j => .int .i64 (tv p m k j)) → keptB p m rs k = true →
      s = runT (keptB p m rs) nx s0 k → (cont = false → ∀ j, j < k → keptB p m rs j = false) →
      Calls Try.prog f (#[.slice (some ⟨T, 0, none⟩) (m + 1) cap, .int .i64 (sumT p m rs k)] ++ caps) W fun e W' => e = .returned (.bool cont) ∧ Inv T (nx s k) W' ∧ Fr C W W')
    (hstop : cont = false → ∀ k n, k < n → keptB p m rs k = true → (∀ j, j < k → keptB p m rs j = false) → runT (keptB p m rs) nx s0 n = runT (keptB p m rs) nx s0 (k + 1)) :
    Calls Try.prog 66 #[.int .i64 ((m : Int) + 1), .slice (some ⟨rb, ro, none⟩) rs.length rc, .int .i64 (p : Int), .func (.func f) #[] caps] w fun e w' =>
      e = .returned (.bool true) ∧ ∃ T, w.heap.size ≤ T ∧ Inv T (runT (keptB p m rs) nx s0 (p ^ m)) w' ∧ Fr C w w' := by
  have Hpow := Lib.hid hpow
  have Hstop := Lib.hid hstop
  have Hcb := Lib.hid hcb
  have H0 := Lib.hid h0
  have Hst := Lib.hid hst
  clear hpow hstop hcb h0 hst
  have hmk := run_make_row' (P := Try.prog) 27 2 (.int .i64 0) 8 Try.underlying27 infoI64 rfl .i64 .i64 (m + 1) (by omega) (by omega)
  have ec : ((m + 1 : Nat) : Int) = (m : Int) + 1 := by omega
  rw [ec] at hmk
  have HR := Lib.hid hr
  clear hr ec
  go_enter Try.func66, Try.ntmps66
  go_wp2_with fail
  refine (areRules_true ((m : Int) + 1) p rb ro rc rs _ hR (by have := HR.out; simpa using this) (by omega) (by omega) (by omega) (by omega) hl).mono ?_
  rintro e w1 ⟨rfl, hb1⟩
  have hpd := fun W => powered_any p m W hp hp2 (by omega) (by have := Hpow.out; omega)
  have hpe := Hpow.out
  generalize hN : p ^ m = N at hpd hpe Hcb ⊢
  have HN := Lib.hid hN
  have HPd := Lib.hid hpd
  clear hN hpd
  go_wp2_with fail
  refine (HPd.out _).mono ?_
  rintro e w' ⟨rfl, rfl⟩
  go_wp2
  have hT := hb1.size
  generalize hTe : w1.heap.size = T at hT ⊢
  have hfr1 : Fr C w w1 := Fr.ofBelow hb1
  have hI1 := H0.out T (w1.alloc (.cells (madeCells #[.int .i64 0] (m + 1)) 2)) hT ((Fr.ofBelow hb1).alloc _)
  have hrow1 : (w1.alloc (.cells (madeCells #[.int .i64 0] (m + 1)) 2)).rowIs T 2 (m + 1) (fun j => .int .i64 (tv p m 0 j)) := by
    rw [← hTe]
    exact (World.rowIs_made w1 _ _ _).congr (fun i _ => by rw [tv_zero])
  have HT := Lib.hid hTe
  clear hTe
  go_loopg [12] N (fun gk s12 wr => ∃ k, gk = N - k ∧ k < N ∧ wr.rowIs T 2 (m + 1) (fun j => .int .i64 (tv p m k j)) ∧ Inv T (runT (keptB p m rs) nx s0 k) wr ∧ Fr C w wr ∧ (cont = false → ∀ j, j < k → keptB p m rs j = false))
  case atStart => exact ⟨0, by omega, by have := HN.out; have := Nat.pow_pos (n := m) hp; omega, hrow1, hI1, (hfr1.alloc _), fun _ j hj => absurd hj (by omega)⟩
  case round =>
    obtain ⟨k, hgk, hkN, hrow, hI, hfr, hno⟩ := hrel
    have HNo := Lib.hid hno
    have HGk := Lib.hid hgk
    clear hno hgk hrow1 hI1
    have hw : Calls Try.prog 78 #[.slice (some ⟨rb, ro, none⟩) rs.length rc, .slice (some ⟨T, 0, none⟩) (m + 1) (m + 1), .int .i64 p] wr fun e w' => e = .returned (.tuple #[.int .i64 (sumT p m rs k), .bool (keptB p m rs k)]) ∧ Below wr.heap.size wr w' := by
      have := waits_any ((m + 1 : Nat) : Int) p T 0 (m + 1) (tab p m k) rb ro rc rs wr (rdI_tab hrow) (vTab_tab p m k (by omega)) (hR.fr hfr hCR) HR.out (by omega) (by omega) (by omega) hl
      rw [tab_len] at this
      exact this
    go_wp2_with fail
    refine hw.mono ?_
    clear hw
    rintro e w2 ⟨rfl, hb2⟩
    have hfr2 : Fr (fun k => k = T) wr w2 := Fr.ofBelow hb2
    have hI2 := Hst.out T _ wr w2 hI hfr2
    have hrow2 := hrow.of_block (w' := w2) (hb2.block T hrow.lt)
    have hfrw2 : Fr C w w2 := hfr.trans (Fr.ofBelow hb2)
    clear hI hrow hfr hb2 hfr2
    have hTC : ¬ C T := fun h => by have := hC T h; omega
    cases hkp : keptB p m rs k
    case' false =>
      have hI3 : Inv T (runT (keptB p m rs) nx s0 (k + 1)) w2 := by
        simp only [runT, hkp]
        exact hI2
      have hrow3 := hrow2
      have hfrw3 := hfrw2
      have HNo' : Hid (cont = false → ∀ j, j < k + 1 → keptB p m rs j = false) := fun hc j hj => by
        rcases Nat.lt_succ_iff_lt_or_eq.1 hj with h | rfl
        · exact HNo.out hc j h
        · exact hkp
      have HKp := Lib.hid hkp
      clear hI2 hrow2 hfrw2 hkp HNo
      go_wp2
    case' true =>
      have hI3' := fun W (h : Inv T (nx (runT (keptB p m rs) nx s0 k) k) W) => show Inv T (runT (keptB p m rs) nx s0 (k + 1)) W by
        simp only [runT, hkp]
        exact h
      have HCall := (Hcb.out T _ w2 k (m + 1) hT hkN hI2 hrow2 hkp rfl HNo.out)
      have HKp := Lib.hid hkp
      clear hkp
      go_wp2_with fail
      refine HCall.mono ?_
      rintro e w3 ⟨rfl, hI3, hfr3⟩
      replace hI3 := hI3' _ hI3
      have hrow3 := rowIs_fr hrow2 hfr3 hTC
      have hfrw3 : Fr C w w3 := hfrw2.trans hfr3
      clear hI2 hrow2 hfrw2 hI3' HCall
      cases hco : cont
      case' false =>
        have e1 := Hstop.out hco k N hkN HKp.out (HNo.out hco)
        have HE := Lib.hid e1
        clear hco e1
        go_wp2
        go_ret
        exact ⟨rfl, T, hT, by rw [HN.out, HE.out]; exact hI3, hfrw3⟩
      case' true =>
        have HNo' : Hid (cont = false → ∀ j, j < k + 1 → keptB p m rs j = false) := fun hc j hj => by rw [hco] at hc; cases hc
        clear HNo hco
        go_wp2
    all_goals
      clear HKp
      go_loopg [12] m (fun gj s12 wx => s12 = .int .i64 gj ∧ gj ≤ m ∧ Low p m k gj ∧ wx.rowIs T 2 (m + 1) (fun i => .int .i64 (if gj < i then 0 else tv p m k i)) ∧ Inv T (runT (keptB p m rs) nx s0 (k + 1)) wx ∧ Fr C w wx)
      case atStart => exact ⟨rfl, Nat.le_refl _, low_start p m k, hrow3.congr (fun i hi => by rw [if_neg (by omega)]), hI3, hfrw3⟩
      case round =>
        obtain ⟨rfl, hjm, hlow, hrow, hI, hfr⟩ := hrel
        obtain ⟨j, hj0⟩ : ∃ j, j = gk := ⟨_, rfl⟩
        subst hj0
        have hTlt := hrow.lt
        have hcell : j < m + 1 → wr.cell? ⟨T, j, none⟩ = some (.int .i64 (tv p m k j)) := fun h => by
          have := hrow.cell h
          simpa using this
        have hbd := tv_bd p m k j (by omega)
        by_cases h0 : 0 < j
        · have c0 := hcell (by omega)
          have f0 := hrow.frozen j
          clear hcell
          by_cases hd : tv p m k j = (p : Int) - 1
          · have hd' : (tv p m k j == (p : Int) - 1) = true := by rw [hd]; simp
            have hlow' := low_step p m k j (by omega) h0 hjm hlow hd
            have hrow' : (wr.setCell ⟨T, j, none⟩ (.int .i64 0)).rowIs T 2 (m + 1) (fun i => .int .i64 (if j - 1 < i then 0 else tv p m k i)) := (hrow.set j (.int .i64 0)).congr (fun i hi => by
              by_cases e : i = j
              · subst e; rw [if_pos rfl, if_pos (by omega)]
              · rw [if_neg e]
                by_cases e2 : j < i
                · rw [if_pos e2, if_pos (by omega)]
                · rw [if_neg e2, if_neg (by omega)])
            have hI' := Hst.out T _ wr (wr.setCell ⟨T, j, none⟩ (.int .i64 0)) hI (Fr.set_ (C := fun k => k = T) (Fr.refl wr) (p := ⟨T, j, none⟩) (fun _ => rfl) _)
            have hfr' : Fr C w (wr.setCell ⟨T, j, none⟩ (.int .i64 0)) := hfr.set_ (fun h => by have h' : T < w.heap.size := h; omega) _
            have HD := Lib.hid hd
            clear hd
            go_wp2
            go_roundg (j - 1)
            case measure => omega
            case rel => exact ⟨by go_num, by omega, hlow', hrow', hI', hfr'⟩
          · have hd' : (tv p m k j == (p : Int) - 1) = false := beq_eq_false_iff_ne.2 hd
            have hkN1 : k + 1 < N ∨ k + 1 = N := by omega
            have hnext : ∀ i, i < m + 1 → tv p m (k + 1) i = if i = j then tv p m k j + 1 else if j < i then 0 else tv p m k i := fun i hi => next_tab p m k j i (by omega) h0 hjm (by omega) hlow (by omega)
            have hrow' : (wr.setCell ⟨T, j, none⟩ (.int .i64 (tv p m k j + 1))).rowIs T 2 (m + 1) (fun i => .int .i64 (tv p m (k + 1) i)) := (hrow.set j (.int .i64 (tv p m k j + 1))).congr (fun i hi => by
              rw [hnext i hi]
              by_cases e : i = j
              · subst e; rw [if_pos rfl, if_pos rfl]
              · rw [if_neg e, if_neg e])
            have hI' := Hst.out T _ wr (wr.setCell ⟨T, j, none⟩ (.int .i64 (tv p m k j + 1))) hI (Fr.set_ (C := fun k => k = T) (Fr.refl wr) (p := ⟨T, j, none⟩) (fun _ => rfl) _)
            have hfr' : Fr C w (wr.setCell ⟨T, j, none⟩ (.int .i64 (tv p m k j + 1))) := hfr.set_ (fun h => by have h' : T < w.heap.size := h; omega) _
            have hj0 : ((j : Int) == 0) = false := by simp; omega
            have hlt : k + 1 < N := by
              have := not_last p m k j (by omega) h0 hjm hlow (by omega)
              rw [HN.out] at this
              omega
            clear hnext hkN1 hI hfr hrow
            go_wp2
            go_roundg (N - (k + 1))
            case measure => have := HGk.out; omega
            case rel => exact ⟨k + 1, rfl, hlt, hrow', hI', hfr', HNo'.out⟩
        · have hj0 : j = 0 := by omega
          subst hj0
          have hlast := low_end p m k (by rw [HN.out]; exact hkN) hlow
          have HL := Lib.hid hlast
          clear hlast hcell hlow hbd
          go_wp2
          go_ret
          exact ⟨rfl, T, hT, by rw [← HL.out]; exact hI, hfr⟩
end Go.Proofs.Yteiofihgpalkiaa
