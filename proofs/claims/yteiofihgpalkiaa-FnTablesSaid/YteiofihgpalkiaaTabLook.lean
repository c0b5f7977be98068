/- The walk of the reference's look at all tables. -/
import Derived.Test.YteiofihgpalkiaaTabSpec
namespace Go.Proofs.Yteiofihgpalkiaa
open Go Go.RowKit

theorem foundInfo : (Try.prog.info? 100).map (fun i => (i.zero, i.size)) = some (some (.agg #[.int .i64 0, .int .i64 0, .slice none 0 0, .slice none 0 0]), 4) := by kernel_rfl

theorem NewI.mono {w : World} {B B' : Nat} {v : Value} {l : List Int} (h : NewI w B v l) (hB : B' ≤ B) : NewI w B' v l := by
  obtain ⟨g, c, rfl, h1, h2, h3⟩ := h
  exact ⟨g, c, rfl, by omega, h2, h3⟩
theorem count_first (kept : Nat → Bool) : ∀ n, runT kept nxCount 0 n = 0 ↔ runT kept nxFirst none n = none := by
  intro n
  induction n with
  | zero => simp [runT]
  | succ n ih =>
    simp only [runT]
    split
    · cases h : runT kept nxFirst none n <;> simp [nxCount, nxFirst]
    · exact ih
theorem best_first (kept : Nat → Bool) (sum : Nat → Int) : ∀ n, runT kept (nxBest sum) none n = none ↔ runT kept nxFirst none n = none := by
  intro n
  induction n with
  | zero => simp [runT]
  | succ n ih =>
    simp only [runT]
    split
    · cases h : runT kept nxFirst none n <;> cases h2 : runT kept (nxBest sum) none n <;> simp [nxFirst, nxBest]
      split <;> simp
      split <;> simp
    · exact ih

/-- where the look stands behind the first k tables -/
structure Lk (w wr : World) (p m k : Nat) (rs : List Rul) (v1 v2 : Value) : Prop where
  g4 : G4 wr (w.heap.size + 1) (runT (keptB p m rs) nxCount 0 k : Nat) (bestSum (sumT p m rs) (runT (keptB p m rs) (nxBest (sumT p m rs)) none k)) v1 v2
  r4 : G4 wr w.heap.size 0 0 (.slice none 0 0) (.slice none 0 0)
  h1 : HoldsT wr (w.heap.size + 2) p m v1 (runT (keptB p m rs) nxFirst none k)
  h2 : HoldsT wr (w.heap.size + 2) p m v2 (runT (keptB p m rs) (nxBest (sumT p m rs)) none k)
  below : Below w.heap.size w wr

theorem Lk.fr {w wr w' : World} {p m k : Nat} {rs : List Rul} {v1 v2 : Value} (h : Lk w wr p m k rs v1 v2) {C : Nat → Prop} (hf : Fr C wr w') (hC : ∀ i, i < wr.heap.size → ¬ C i) : Lk w w' p m k rs v1 v2 := by
  have l1 := h.g4.lt
  have l2 := h.r4.lt
  have hf' : Fr (fun _ => False) wr w' := hf.mono (fun i hi hc => hC i hi hc)
  exact ⟨h.g4.fr hf' (fun h => h), h.r4.fr hf' (fun h => h), h.h1.fr hf' (fun _ _ h => h), h.h2.fr hf' (fun _ _ h => h), h.below.trans (hf'.toBelow (by have := h.below.size; omega) (fun _ _ h => h))⟩

/-- a table that is not kept changes nothing -/
theorem Lk.skip {w wr : World} {p m k : Nat} {rs : List Rul} {v1 v2 : Value} (h : Lk w wr p m k rs v1 v2) (hk : keptB p m rs k = false) : Lk w wr p m (k + 1) rs v1 v2 := by
  refine ⟨?_, h.r4, ?_, ?_, h.below⟩
  · have := h.g4; simp only [runT, hk]; exact this
  · have := h.h1; simp only [runT, hk]; exact this
  · have := h.h2; simp only [runT, hk]; exact this

set_option maxRecDepth 100000 in
set_option maxHeartbeats 2000000 in
theorem look_any (p m rb ro rc : Nat) (rs : List Rul) (w : World)
    (hR : RdR w rb ro rs) (hr : ∀ j, j < rs.length → vRul ((m + 1 : Nat) : Int) p (ru rs j)) (hp : 1 ≤ p) (hp2 : p ≤ 60) (hm : m + 1 ≤ 12) (hpow : p ^ m ≤ 4096) (hl : rs.length ≤ 32) :
    Calls Try.prog 69 #[.int .i64 ((m : Int) + 1), .slice (some ⟨rb, ro, none⟩) rs.length rc, .int .i64 (p : Int)] w fun e w' =>
      ∃ v1 v2, e = .returned (.tuple #[.agg #[.int .i64 (runT (keptB p m rs) nxCount 0 (p ^ m) : Nat), .int .i64 (bestSum (sumT p m rs) (runT (keptB p m rs) (nxBest (sumT p m rs)) none (p ^ m))), v1, v2], .bool true]) ∧
        HoldsT w' w.heap.size p m v1 (runT (keptB p m rs) nxFirst none (p ^ m)) ∧ HoldsT w' w.heap.size p m v2 (runT (keptB p m rs) (nxBest (sumT p m rs)) none (p ^ m)) ∧ Below w.heap.size w w' := by
  have hmk := run_make_row' (P := Try.prog) 27 2 (.int .i64 0) 8 Try.underlying27 infoI64 rfl .i64 .i64 (m + 1) (by omega) (by omega)
  have ec : ((m + 1 : Nat) : Int) = (m : Int) + 1 := by omega
  rw [ec] at hmk
  have HR := Lib.hid hr
  have Hpow := Lib.hid hpow
  clear hr ec hpow
  go_enter Try.func69, Try.ntmps69
  go_wp2
  obtain ⟨w0, hw0⟩ : ∃ w0, w0 = (w.alloc (.cells #[.int .i64 0, .int .i64 0, .slice none 0 0, .slice none 0 0] 100)).alloc (.cells #[.int .i64 0, .int .i64 0, .slice none 0 0, .slice none 0 0] 100) := ⟨_, rfl⟩
  have hG0 : G4 w0 (w.heap.size + 1) 0 0 (.slice none 0 0) (.slice none 0 0) := by
    rw [hw0]
    have := heap_alloc_new (w.alloc (.cells #[.int .i64 0, .int .i64 0, .slice none 0 0, .slice none 0 0] 100)) (.cells #[.int .i64 0, .int .i64 0, .slice none 0 0, .slice none 0 0] 100)
    simpa [G4] using this
  have hR0 : G4 w0 w.heap.size 0 0 (.slice none 0 0) (.slice none 0 0) := by
    rw [hw0]
    exact G4.fr (w := w.alloc _) (C := fun _ => False) (heap_alloc_new w _) ((Fr.refl _).alloc _) (fun h => h)
  have hb0 : Below w.heap.size w w0 := by
    rw [hw0]
    exact ((Below.refl _ _).alloc (Nat.le_refl _) _).alloc (by simp) _
  rw [← hw0]
  clear hw0
  go_loopg [9, 10] m (fun gk s9 s10 wr => ∃ i : Nat, gk = m + 1 - i ∧ 1 ≤ i ∧ i ≤ m + 1 ∧ s10 = .int .i64 i ∧ s9 = .int .i64 ((p ^ (i - 1) : Nat) : Int) ∧ w0 = wr)
  case atStart => exact ⟨1, by omega, by omega, by omega, rfl, by simp, rfl⟩
  case round =>
    obtain ⟨i, hg, hi1, hi2, rfl, rfl, rfl⟩ := hrel
    have HG := Lib.hid hg
    clear hg
    by_cases hlt : i < m + 1
    · have h1 : p ^ i ≤ p ^ m := Nat.pow_le_pow_right (by omega) (by omega)
      have h2 : p ^ i = p ^ (i - 1) * p := by
        obtain ⟨e, rfl⟩ : ∃ e, i = e + 1 := ⟨i - 1, by omega⟩
        rw [Nat.add_sub_cancel, Nat.pow_succ]
      have h3 : ((p ^ (i - 1) : Nat) : Int) * (p : Int) = ((p ^ i : Nat) : Int) := by rw [h2]; simp
      have h4 : p ^ i ≤ 4096 := by have := Hpow.out; omega
      clear h1 h2
      generalize p ^ (i - 1) = x at *
      generalize hy : p ^ i = y at *
      have HY := Lib.hid hy
      clear hy
      go_wp2
      go_roundg (m + 1 - (i + 1))
      case measure => have := HG.out; omega
      case rel => exact ⟨i + 1, rfl, by omega, by omega, by go_num, by rw [Nat.add_sub_cancel, HY.out], rfl⟩
    · obtain rfl : i = m + 1 := by omega
      have hN := Hpow.out
      rw [Nat.add_sub_cancel]
      generalize hNe : p ^ m = N at hN ⊢
      have HN := Lib.hid hNe
      clear hNe hlt hi1 hi2 HG
      go_wp2
      have hL0 : Lk w w0 p m 0 rs (.slice none 0 0) (.slice none 0 0) := ⟨hG0, hR0, rfl, rfl, hb0⟩
      clear hG0 hR0 hb0
      go_loopg [11] N (fun gk s11 wr => ∃ (k : Nat) (v1 v2 : Value), gk = N - k ∧ k ≤ N ∧ s11 = .int .i64 k ∧ Lk w wr p m k rs v1 v2)
      case atStart => exact ⟨0, _, _, rfl, by omega, rfl, hL0⟩
      case round =>
        clear hL0
        obtain ⟨k, v1, v2, hg, hkN, rfl, hL⟩ := hrel
        have HG := Lib.hid hg
        clear hg
        by_cases hlt : k < N
        · go_wp2
          obtain ⟨w9, rfl⟩ : ∃ w9, w9 = wr := ⟨_, rfl⟩
          have hfa : Fr (fun _ => False) w9 (w9.alloc (.cells (madeCells #[.int .i64 0] (m + 1)) 2)) := (Fr.refl w9).alloc _
          have hrow := World.rowIs_made w9 (.int .i64 0) (m + 1) 2
          have hTG : w.heap.size + 2 ≤ w9.heap.size := by have := hL.g4.lt; omega
          generalize w9.alloc (.cells (madeCells #[.int .i64 0] (m + 1)) 2) = wa at hfa hrow ⊢
          generalize hT : w9.heap.size = T at hrow hTG ⊢
          have HT := Lib.hid hT
          clear hT
          go_loopg [13, 14] m (fun gi s13 s14 wx => s14 = .int .i64 gi ∧ s13 = .int .i64 ((k / p ^ (m - gi) : Nat) : Int) ∧ gi ≤ m ∧ wx.rowIs T 2 (m + 1) (fun j => .int .i64 (if gi < j then tv p m k j else 0)) ∧ Fr (fun _ => False) w9 wx)
          case atStart => exact ⟨rfl, by simp, Nat.le_refl _, hrow.congr (fun i hi => by rw [if_neg (by omega)]), hfa⟩
          case round =>
            clear hrow hfa
            obtain ⟨rfl, rfl, him, hrow, hf⟩ := hrel
            obtain ⟨i, hi0⟩ : ∃ i, i = gk := ⟨_, rfl⟩
            subst hi0
            have hTlt := hrow.lt
            by_cases h0 : 0 < i
            · have c0 : wr.cell? ⟨T, i, none⟩ = some (.int .i64 0) := by
                have := hrow.cell (i := i) (by omega)
                simpa using this
              have f0 := hrow.frozen i
              have hx1 : k / p ^ (m - i) / p = k / p ^ (m - (i - 1)) := by
                rw [Nat.div_div_eq_div_mul, ← Nat.pow_succ]
                congr 2
                omega
              have hx2 : tv p m k i = ((k / p ^ (m - i) % p : Nat) : Int) := by unfold tv; rw [if_neg (by omega)]
              have hrow' : (wr.setCell ⟨T, i, none⟩ (.int .i64 (tv p m k i))).rowIs T 2 (m + 1) (fun j => .int .i64 (if i - 1 < j then tv p m k j else 0)) := (hrow.set i (.int .i64 (tv p m k i))).congr (fun j hj => by
                by_cases e : j = i
                · subst e; rw [if_pos rfl, if_pos (by omega)]
                · rw [if_neg e]
                  by_cases e2 : i < j
                  · rw [if_pos e2, if_pos (by omega)]
                  · rw [if_neg e2, if_neg (by omega)])
              have hf' : Fr (fun _ => False) w9 (wr.setCell ⟨T, i, none⟩ (.int .i64 (tv p m k i))) := hf.set_ (fun h => by have := HT.out; have h' : T < w9.heap.size := h; omega) _
              rw [hx2] at hrow' hf'
              have HX1 := Lib.hid hx1
              have hxk : k / p ^ (m - i) ≤ 4096 := Nat.le_trans (Nat.div_le_self _ _) (by omega)
              clear hx1 hx2 hrow hf
              generalize k / p ^ (m - i) = x at *
              have hpz : ¬ (p : Int) = 0 := by omega
              have hxm : ((x % p : Nat) : Int) = (x : Int) % p := by simp
              rw [hxm] at hrow' hf'
              clear hxm
              go_wp2
              go_roundg (i - 1)
              case measure => omega
              case rel => exact ⟨by go_num, congrArg (Value.int .i64) (by rw [← HX1.out, IntWalk.wrap64_in _ (by have h1 : 0 ≤ (x : Int) / p := Int.ediv_nonneg (by omega) (by omega); have h2 : (x : Int) / p ≤ x := Int.ediv_le_self _ (by omega); omega)]; exact (Int.natCast_ediv x p).symm), by omega, hrow', hf'⟩
            · obtain rfl : i = 0 := by omega
              have hrow1 : wr.rowIs T 2 (m + 1) (fun j => .int .i64 (tv p m k j)) := hrow.congr (fun j hj => by
                by_cases e : j = 0
                · subst e; rw [if_neg (by omega)]; simp [tv]
                · rw [if_pos (by omega)])
              have hRr : RdR wr rb ro rs := hR.below (hL.below.trans (hf.toBelow (by have := hL.below.size; omega) (fun _ _ h => h)))
              have hkeep : Calls Try.prog 125 #[.slice (some ⟨rb, ro, none⟩) rs.length rc, .int .i64 p, .slice (some ⟨T, 0, none⟩) (m + 1) (m + 1)] wr fun e w' => e = .returned (.bool (keptB p m rs k)) ∧ Drew wr w' := by
                have := specKeeps_any ((m + 1 : Nat) : Int) p T 0 (m + 1) (tab p m k) rb ro rc rs wr (rdI_tab hrow1) (vTab_tab p m k (by omega)) hRr HR.out (by omega) (by omega) (by omega) hl
                rw [tab_len] at this
                rw [kept_eq] at this
                exact this
              clear hrow
              go_wp2_with fail
              refine hkeep.mono ?_
              rintro e w3 ⟨rfl, hd3⟩
              clear hkeep
              have hf3 : Fr (fun _ => False) w9 w3 := hf.trans hd3.fr
              have hrow3 := hrow1.of_block (w' := w3) (by obtain ⟨n, rfl⟩ := hd3; rfl)
              have hR3 : RdR w3 rb ro rs := hRr.fr (C := fun _ => False) hd3.fr (fun h => h)
              clear hf hrow1 hRr hd3 hTlt him
              cases hkp : keptB p m rs k
              · have hL3 := (hL.fr hf3 (fun _ _ h => h)).skip hkp
                clear hL hf3 hrow3 hR3 hkp
                go_wp2
                go_roundg (N - (k + 1))
                case measure => have := HG.out; omega
                case rel => exact ⟨k + 1, v1, v2, rfl, by omega, by go_num, hL3⟩
              · have HKp := Lib.hid hkp
                clear hkp
                have hRd := rdI_tab hrow3
                have hsd := sumL_bd ((m + 1 : Nat) : Int) p (tab p m k) rs (by omega) HR.out
                have HSd := Lib.hid hsd
                clear hsd
                go_wp2
                go_loopg [15, 59] rs.length (fun gi s15 s59 wx => ∃ j : Nat, gi = rs.length - j ∧ j ≤ rs.length ∧ s59 = .int .i64 j ∧ s15 = .int .i64 (sumL p (tab p m k) (rs.take j)) ∧ Drew w3 wx)
                case atStart => exact ⟨0, rfl, by omega, rfl, rfl, Drew.refl w3⟩
                case round =>
                  obtain ⟨j, hg, hj, rfl, rfl, hd⟩ := hrel
                  have HGj := Lib.hid hg
                  clear hg
                  by_cases hjl : j < rs.length
                  · obtain ⟨c0, c1, c2, c3⟩ := (hR3.fr (C := fun _ => False) hd.fr (fun h => h)) j hjl
                    have hv := HR.out j hjl
                    have hsw := specWait_any (ru rs j) ((m + 1 : Nat) : Int) p (ro + j * 4) rb T 0 (m + 1) (tab p m k) wr (hRd.fr (C := fun _ => False) hd.fr (fun h => h)) (vTab_tab p m k (by omega)) hv (by omega) (by omega) (by omega) c0 c1 c2
                    rw [tab_len] at hsw
                    have hb1 := HSd.out j (by omega)
                    have hb2 := wt_bd (t := tab p m k) (show (0 : Int) < p by omega) hv
                    have hst := sumL_take p (tab p m k) rs j hjl
                    have HSt := Lib.hid hst
                    have hpj : 2 * (p : Int) * (j : Int) ≤ 120 * 32 := Int.mul_le_mul (by omega) (by omega) (by omega) (by omega)
                    clear hst c0 c1 c2 c3 hv
                    generalize sumL p (tab p m k) (rs.take j) = sj at *
                    generalize wt p (tab p m k) (ru rs j) = wj at *
                    have e1 : 0 ≤ sj := hb1.1
                    have e2 : sj ≤ 3840 := by omega
                    clear hb1
                    have k0 : (0 : Int) ≤ (j : Int) := by omega
                    have k1 : (j : Int) < (rs.length : Int) := by omega
                    go_wp2_with fail
                    refine hsw.mono ?_
                    rintro e w5 ⟨rfl, hd5⟩
                    have hd6 := hd.trans hd5
                    clear hsw hd hd5
                    go_wp2
                    go_roundg (rs.length - (j + 1))
                    case measure => have := HGj.out; omega
                    case rel => exact ⟨j + 1, rfl, by omega, by go_num, by rw [HSt.out], hd6⟩
                  · obtain rfl : j = rs.length := by omega
                    have hf6 : Fr (fun _ => False) w9 wr := hf3.trans hd.fr
                    have hrow6 := hrow3.of_block (w' := wr) (by obtain ⟨n, rfl⟩ := hd; rfl)
                    have hL6 := hL.fr hf6 (fun _ _ h => h)
                    have hsumk : sumL p (tab p m k) (rs.take rs.length) = sumT p m rs k := by rw [List.take_of_length_le (Nat.le_refl _), sumT_eq _ _ _ _ HKp.out]
                    rw [hsumk]
                    clear hL hf3 hf6 hrow3 hR3 hRd HSd hd hj HGj hjl hsumk h0
                    have hTl := hrow6.lt
                    have hcl := runCount_le (keptB p m rs) k
                    obtain ⟨g0, g1, g2, g3⟩ := hL6.g4.cells
                    have q0 := hL6.g4.fro 0
                    have q1 := hL6.g4.fro 1
                    have q2 := hL6.g4.fro 2
                    have q3 := hL6.g4.fro 3
                    have hsl : ∀ W, W.rowIs T 2 (m + 1) (fun j => .int .i64 (tv p m k j)) → NewI W (w.heap.size + 2) (.slice (some ⟨T, 0, none⟩) (m + 1) (m + 1)) (tab p m k) := fun W h => ⟨T, m + 1, by rw [tab_len], hTG, h.lt, rdI_tab h⟩
                    have hadv1 : runT (keptB p m rs) nxCount 0 (k + 1) = runT (keptB p m rs) nxCount 0 k + 1 := by simp only [runT, HKp.out]; rfl
                    have hadv2 : runT (keptB p m rs) nxFirst none (k + 1) = nxFirst (runT (keptB p m rs) nxFirst none k) k := by simp only [runT, HKp.out]; rfl
                    have hadv3 : runT (keptB p m rs) (nxBest (sumT p m rs)) none (k + 1) = nxBest (sumT p m rs) (runT (keptB p m rs) (nxBest (sumT p m rs)) none k) k := by simp only [runT, HKp.out]; rfl
                    have hcf := count_first (keptB p m rs) k
                    have hbf := best_first (keptB p m rs) (sumT p m rs) k
                    have HA1 := Lib.hid hadv1
                    have HA2 := Lib.hid hadv2
                    have HA3 := Lib.hid hadv3
                    clear hadv1 hadv2 hadv3
                    have hGlt := hL6.g4.lt
                    cases hfs : runT (keptB p m rs) nxFirst none k with
                    | none =>
                      have hb0 := hbf.2 hfs
                      have hc0 := hcf.2 hfs
                      rw [hc0] at g0
                      have HFs := Lib.hid hfs
                      have HB0 := Lib.hid hb0
                      have HC0 := Lib.hid hc0
                      clear hfs hb0 hc0 hcf hbf hcl
                      have hL7 := hL6
                      clear hL6
                      go_wp2
                      have hf7 := (((Fr.one wr (w.heap.size + 1) 2 (.slice (some ⟨T, 0, none⟩) (m + 1) (m + 1))).trans (Fr.one _ (w.heap.size + 1) 3 (.slice (some ⟨T, 0, none⟩) (m + 1) (m + 1)))).trans (Fr.one _ (w.heap.size + 1) 1 (.int .i64 (sumT p m rs k)))).trans (Fr.one _ (w.heap.size + 1) 0 (.int .i64 1))
                      have hg7 := (((hL7.g4.set2 (.slice (some ⟨T, 0, none⟩) (m + 1) (m + 1))).set3 (.slice (some ⟨T, 0, none⟩) (m + 1) (m + 1))).set1 (sumT p m rs k)).set0 1
                      generalize (((wr.setCell ⟨w.heap.size + 1, 2, none⟩ (.slice (some ⟨T, 0, none⟩) (m + 1) (m + 1))).setCell ⟨w.heap.size + 1, 3, none⟩ (.slice (some ⟨T, 0, none⟩) (m + 1) (m + 1))).setCell ⟨w.heap.size + 1, 1, none⟩ (.int .i64 (sumT p m rs k))).setCell ⟨w.heap.size + 1, 0, none⟩ (.int .i64 1) = w7 at hf7 hg7 ⊢
                      have hrow7 := rowIs_fr hrow6 hf7 (by omega)
                      go_roundg (N - (k + 1))
                      case measure => have := HG.out; omega
                      case rel =>
                        refine ⟨k + 1, .slice (some ⟨T, 0, none⟩) (m + 1) (m + 1), .slice (some ⟨T, 0, none⟩) (m + 1) (m + 1), rfl, by omega, by go_num, ⟨?_, hL7.r4.fr hf7 (by omega), ?_, ?_, hL7.below.trans (hf7.toBelow (by have := hL7.below.size; omega) (fun i hi e => by omega))⟩⟩
                        · rw [HA1.out, HA3.out, HB0.out, HC0.out]; exact hg7
                        · rw [HA2.out, HFs.out]; exact hsl _ hrow7
                        · rw [HA3.out, HB0.out]; exact hsl _ hrow7
                    | some j =>
                      have hc0 : ¬ runT (keptB p m rs) nxCount 0 k = 0 := fun h => by rw [hcf.1 h] at hfs; cases hfs
                      cases hbs : runT (keptB p m rs) (nxBest (sumT p m rs)) none k with
                      | none => rw [hbf.1 hbs] at hfs; cases hfs
                      | some i =>
                        rw [hbs] at g1
                        generalize hcc : runT (keptB p m rs) nxCount 0 k = cc at g0 hc0 hcl
                        have HCC := Lib.hid hcc
                        have HFs := Lib.hid hfs
                        have HBs := Lib.hid hbs
                        have hcz : (((cc : Nat) : Int) == 0) = false := by simp; omega
                        clear hfs hbs hcc hcf hbf hc0
                        simp only [bestSum] at g1
                        have hL7 := hL6
                        clear hL6
                        by_cases hsm : sumT p m rs k < sumT p m rs i
                        · go_wp2
                          have hf7 := ((Fr.one wr (w.heap.size + 1) 3 (.slice (some ⟨T, 0, none⟩) (m + 1) (m + 1))).trans (Fr.one _ (w.heap.size + 1) 1 (.int .i64 (sumT p m rs k)))).trans (Fr.one _ (w.heap.size + 1) 0 (.int .i64 ((cc : Int) + 1)))
                          have hg7 := ((hL7.g4.set3 (.slice (some ⟨T, 0, none⟩) (m + 1) (m + 1))).set1 (sumT p m rs k)).set0 ((cc : Int) + 1)
                          generalize ((wr.setCell ⟨w.heap.size + 1, 3, none⟩ (.slice (some ⟨T, 0, none⟩) (m + 1) (m + 1))).setCell ⟨w.heap.size + 1, 1, none⟩ (.int .i64 (sumT p m rs k))).setCell ⟨w.heap.size + 1, 0, none⟩ (.int .i64 ((cc : Int) + 1)) = w7 at hf7 hg7 ⊢
                          have hrow7 := rowIs_fr hrow6 hf7 (by omega)
                          have hh1 := hL7.h1
                          rw [HFs.out] at hh1
                          go_roundg (N - (k + 1))
                          case measure => have := HG.out; omega
                          case rel =>
                            refine ⟨k + 1, v1, .slice (some ⟨T, 0, none⟩) (m + 1) (m + 1), rfl, by omega, by go_num, ⟨?_, hL7.r4.fr hf7 (by omega), ?_, ?_, hL7.below.trans (hf7.toBelow (by have := hL7.below.size; omega) (fun i hi e => by omega))⟩⟩
                            · rw [HA1.out, HA3.out, HBs.out, HCC.out]
                              simp only [nxBest, if_pos hsm, bestSum]
                              exact hg7
                            · rw [HA2.out, HFs.out]; exact hh1.fr hf7 (fun i hi e => by omega)
                            · rw [HA3.out, HBs.out]
                              simp only [nxBest, if_pos hsm]
                              exact hsl _ hrow7
                        · go_wp2
                          have hf7 := Fr.one wr (w.heap.size + 1) 0 (.int .i64 ((cc : Int) + 1))
                          have hg7 := hL7.g4.set0 ((cc : Int) + 1)
                          generalize wr.setCell ⟨w.heap.size + 1, 0, none⟩ (.int .i64 ((cc : Int) + 1)) = w7 at hf7 hg7 ⊢
                          have hh1 := hL7.h1
                          rw [HFs.out] at hh1
                          have hh2 := hL7.h2
                          rw [HBs.out] at hh2
                          rw [HBs.out] at hg7
                          go_roundg (N - (k + 1))
                          case measure => have := HG.out; omega
                          case rel =>
                            refine ⟨k + 1, v1, v2, rfl, by omega, by go_num, ⟨?_, hL7.r4.fr hf7 (by omega), ?_, ?_, hL7.below.trans (hf7.toBelow (by have := hL7.below.size; omega) (fun i hi e => by omega))⟩⟩
                            · rw [HA1.out, HA3.out, HBs.out, HCC.out]
                              simp only [nxBest, if_neg (show ¬ sumT p m rs k < sumT p m rs i by omega)]
                              exact hg7
                            · rw [HA2.out, HFs.out]; exact hh1.fr hf7 (fun i hi e => by omega)
                            · rw [HA3.out, HBs.out]
                              simp only [nxBest, if_neg (show ¬ sumT p m rs k < sumT p m rs i by omega)]
                              exact hh2.fr hf7 (fun i hi e => by omega)
        · obtain rfl : k = N := by omega
          have hc := hL.g4.cells
          obtain ⟨g0, g1, g2, g3⟩ := hc
          obtain ⟨r0, r1, r2, r3⟩ := hL.r4.cells
          have q0 := hL.r4.fro 0
          have q1 := hL.r4.fro 1
          have q2 := hL.r4.fro 2
          have q3 := hL.r4.fro 3
          have hh1 := hL.h1
          have hh2 := hL.h2
          have hb := hL.below
          have hbf := best_first (keptB p m rs) (sumT p m rs) k
          have hr4 := hL.r4
          clear hL
          cases hfs : runT (keptB p m rs) nxFirst none k with
          | none =>
            have hbs := hbf.2 hfs
            rw [hfs] at hh1
            rw [hbs] at hh2 g1
            obtain rfl : v1 = .slice none 0 0 := hh1
            obtain rfl : v2 = .slice none 0 0 := hh2
            simp only [bestSum] at g1
            have HFs := Lib.hid hfs
            have HBs := Lib.hid hbs
            clear hfs hbs hbf
            go_wp2
            have hf7 := (((Fr.one wr w.heap.size 0 (.int .i64 (runT (keptB p m rs) nxCount 0 k : Nat))).trans (Fr.one _ w.heap.size 1 (.int .i64 0))).trans (Fr.one _ w.heap.size 2 (.slice none 0 0))).trans (Fr.one _ w.heap.size 3 (.slice none 0 0))
            have hg7 := (((hr4.set0 (runT (keptB p m rs) nxCount 0 k : Nat)).set1 0).set2 (.slice none 0 0)).set3 (.slice none 0 0)
            generalize (((wr.setCell ⟨w.heap.size, 0, none⟩ (.int .i64 (runT (keptB p m rs) nxCount 0 k : Nat))).setCell ⟨w.heap.size, 1, none⟩ (.int .i64 0)).setCell ⟨w.heap.size, 2, none⟩ (.slice none 0 0)).setCell ⟨w.heap.size, 3, none⟩ (.slice none 0 0) = w7 at hf7 hg7 ⊢
            obtain ⟨d0, d1, d2, d3⟩ := hg7.cells
            have hb7 : Below w.heap.size w w7 := hb.trans (hf7.toBelow (by have := hb.size; omega) (fun i hi e => by omega))
            refine bodyPost_ret (v := .tuple #[.agg #[.int .i64 (runT (keptB p m rs) nxCount 0 k : Nat), .int .i64 0, .slice none 0 0, .slice none 0 0], .bool true]) (by simp [results, Try.results69, go_sem, d0, d1, d2, d3]) rfl ⟨.slice none 0 0, .slice none 0 0, ?_, ?_, ?_, hb7⟩
            · rw [HN.out, HBs.out]; rfl
            · rw [HN.out, HFs.out]; rfl
            · rw [HN.out, HBs.out]; rfl
          | some j =>
            cases hbs : runT (keptB p m rs) (nxBest (sumT p m rs)) none k with
            | none => rw [hbf.1 hbs] at hfs; cases hfs
            | some i =>
              rw [hfs] at hh1
              rw [hbs] at hh2 g1
              obtain ⟨ga, ca, rfl, ha1, ha2, ha3⟩ := hh1
              obtain ⟨gb, cb, rfl, hb1, hb2, hb3⟩ := hh2
              simp only [bestSum] at g1
              have HFs := Lib.hid hfs
              have HBs := Lib.hid hbs
              clear hfs hbs hbf
              go_wp2
              have hf7 := (((Fr.one wr w.heap.size 0 (.int .i64 (runT (keptB p m rs) nxCount 0 k : Nat))).trans (Fr.one _ w.heap.size 1 (.int .i64 (sumT p m rs i)))).trans (Fr.one _ w.heap.size 2 (.slice (some ⟨ga, 0, none⟩) (tab p m j).length ca))).trans (Fr.one _ w.heap.size 3 (.slice (some ⟨gb, 0, none⟩) (tab p m i).length cb))
              have hg7 := (((hr4.set0 (runT (keptB p m rs) nxCount 0 k : Nat)).set1 (sumT p m rs i)).set2 (.slice (some ⟨ga, 0, none⟩) (tab p m j).length ca)).set3 (.slice (some ⟨gb, 0, none⟩) (tab p m i).length cb)
              generalize (((wr.setCell ⟨w.heap.size, 0, none⟩ (.int .i64 (runT (keptB p m rs) nxCount 0 k : Nat))).setCell ⟨w.heap.size, 1, none⟩ (.int .i64 (sumT p m rs i))).setCell ⟨w.heap.size, 2, none⟩ (.slice (some ⟨ga, 0, none⟩) (tab p m j).length ca)).setCell ⟨w.heap.size, 3, none⟩ (.slice (some ⟨gb, 0, none⟩) (tab p m i).length cb) = w7 at hf7 hg7 ⊢
              obtain ⟨d0, d1, d2, d3⟩ := hg7.cells
              have hb7 : Below w.heap.size w w7 := hb.trans (hf7.toBelow (by have := hb.size; omega) (fun i hi e => by omega))
              refine bodyPost_ret (v := .tuple #[.agg #[.int .i64 (runT (keptB p m rs) nxCount 0 k : Nat), .int .i64 (sumT p m rs i), .slice (some ⟨ga, 0, none⟩) (tab p m j).length ca, .slice (some ⟨gb, 0, none⟩) (tab p m i).length cb], .bool true]) (by simp [results, Try.results69, go_sem, d0, d1, d2, d3]) rfl ⟨.slice (some ⟨ga, 0, none⟩) (tab p m j).length ca, .slice (some ⟨gb, 0, none⟩) (tab p m i).length cb, ?_, ?_, ?_, hb7⟩
              · rw [HN.out, HBs.out]; rfl
              · rw [HN.out, HFs.out]; exact NewI.mono (NewI.fr ⟨ga, ca, rfl, ha1, ha2, ha3⟩ hf7 (fun i hi e => by omega)) (by omega)
              · rw [HN.out, HBs.out]; exact NewI.mono (NewI.fr ⟨gb, cb, rfl, hb1, hb2, hb3⟩ hf7 (fun i hi e => by omega)) (by omega)
end Go.Proofs.Yteiofihgpalkiaa
