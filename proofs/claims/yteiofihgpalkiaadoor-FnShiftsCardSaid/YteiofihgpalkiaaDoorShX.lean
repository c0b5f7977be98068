/- The walks of shifts: how many work in each slot. -/
import Derived.Test.YteiofihgpalkiaaDoorShW
import Derived.Test.YteiofihgpalkiaaDoorShP
import Derived.Deep.OwnRows
import Derived.Deep.LoopGhost
import Derived.Deep.CutRange
namespace Go.Proofs.YteiofihgpalkiaaDoor
open Go Go.RowKit
set_option maxRecDepth 100000

/-- block T holds these integers and no more -/
def RwL (w : World) (T : Nat) (l : List Int) : Prop := w.rowIs T 2 l.length (fun j => .int .i64 (gi l j))
section
variable {w w' : World} {T : Nat} {l : List Int}
theorem gi_set (l : List Int) (j : Nat) (x : Int) (i : Nat) (hi : i < l.length) : gi (l.set j x) i = if i = j then x else gi l i := by
  unfold gi
  by_cases h : i = j
  · subst h
    rw [if_pos rfl]
    simp [hi]
  · rw [if_neg h]
    simp [List.getElem?_set_ne (Ne.symm h)]
theorem RwL.cell (h : RwL w T l) {j : Nat} (hj : j < l.length) : w.cell? ⟨T, j, none⟩ = some (.int .i64 (gi l j)) := World.rowIs.cell h hj
theorem RwL.fz (h : RwL w T l) (j : Nat) : w.frozen? ⟨T, j, none⟩ = false := World.rowIs.frozen h j
theorem RwL.lt (h : RwL w T l) : T < w.heap.size := World.rowIs.lt h
theorem RwL.set_ (h : RwL w T l) (j : Nat) (x : Int) : RwL (w.setCell ⟨T, j, none⟩ (.int .i64 x)) T (l.set j x) := by
  unfold RwL
  rw [List.length_set]
  refine (World.rowIs.set h j (.int .i64 x)).congr (fun i hi => ?_)
  rw [gi_set l j x i hi]
  split <;> rfl
theorem RwL.fr {C : Nat → Prop} (h : RwL w T l) (hf : Fr C w w') (hn : ¬ C T) : RwL w' T l := World.rowIs.of_block h (hf.block T (World.rowIs.lt h) hn)
theorem RwL.below (h : RwL w T l) (hb : Below w.heap.size w w') : RwL w' T l := World.rowIs.of_block h (hb.block T (World.rowIs.lt h))
theorem RwL.made (w : World) (n : Nat) : RwL (w.alloc (.cells (madeCells #[.int .i64 0] n) 2)) w.heap.size (List.replicate n 0) := by
  unfold RwL
  rw [List.length_replicate]
  refine (World.rowIs_made w (.int .i64 0) n 2).congr (fun i hi => ?_)
  simp [gi, hi]
theorem RwL.rd (h : RwL w T l) : RdI w T 0 l := fun j hj => by rw [Nat.zero_add]; exact h.cell hj
end
theorem gs_fT (S : List (List Bool)) (j : Nat) (h : j < S.length) : gs (fT ByteArray.empty S) j = bts (S.getD j []) := by
  have e : ∀ u, ByteArray.empty ++ bts u = bts u := fun u => by simp
  simp [gs, fT, h, e]
theorem take_cov (S : List (List Bool)) (C : List Int) (i k : Nat) (hS : i < S.length) (hC : i < C.length) : cov (S.take (i + 1)) (C.take (i + 1)) k = cov (S.take i) (C.take i) k + (if (S.getD i []).getD k false = true then gi C i else 0) := by
  have e1 : S.take (i + 1) = S.take i ++ [S.getD i []] := by rw [List.take_succ_eq_append_getElem hS]; simp [hS]
  have e2 : C.take (i + 1) = C.take i ++ [gi C i] := by rw [List.take_succ_eq_append_getElem hC]; simp [gi, hC]
  rw [e1, e2, cov_snoc _ _ _ _ _ (by simp; omega)]

set_option maxHeartbeats 1000000 in
theorem coverOf_any (S : List (List Bool)) (C : List Int) (N n : Nat) (bs cs bc cc : Nat) (w : World) (hS : RdS w bs 0 (fT ByteArray.empty S)) (hC : RdI w bc 0 C) (hSn : S.length = n) (hCn : C.length = n) (h1 : 1 ≤ n) (h64 : n ≤ 64) (hN1 : 1 ≤ N) (hN : N ≤ 24) (hl : ∀ j, j < n → (S.getD j []).length = N) (hc : ∀ j, j < n → 0 ≤ gi C j ∧ gi C j ≤ 1000) :
    Calls Tryd.prog 16 #[.slice (some ⟨bs, 0, none⟩) n cs, .slice (some ⟨bc, 0, none⟩) n cc] w fun e w' => ∃ v O, e = .returned (.tuple #[v, .bool true]) ∧ NewI w' w.heap.size v O ∧ O.length = N ∧ (∀ k, k < N → gi O k = cov S C k) ∧ Below w.heap.size w w' := by
  have c1 := areMany_true bc cc C n 0 1000 w hC (by omega) hCn (by rw [hCn]; exact hc)
  rw [hCn] at c1
  have hcs := fun j (hj : j < n) => by have := hS j (by rw [fT_len]; omega); rw [gs_fT S j (by omega), Nat.zero_add] at this; exact this
  have hs0 := hcs 0 (by omega)
  have hsz0 : (bts (S.getD 0 [])).size = N := by rw [bts_size]; exact hl 0 (by omega)
  have hbS := lt_of_cell hs0
  have hbC : bc < w.heap.size := lt_of_cell (hC 0 (by omega))
  have hcc := fun j (hj : j < n) => by have := hC j (by omega); rw [Nat.zero_add] at this; exact this
  have hwk := fun j (hj : j < n) w => isWork_true (S.getD j []) (by rw [hl j hj]; omega) w
  have hmk := run_make_row' (P := Tryd.prog) 33 2 (.int .i64 0) 8 Tryd.underlying33 infoI64 rfl .i64 .i64 N (by omega) (by omega)
  have htk := fun i k (hi : i < n) => take_cov S C i k (by omega) (by omega)
  have HTK := Lib.hid htk
  have C1 := Lib.hid c1
  have HCS := Lib.hid hcs
  have HCC := Lib.hid hcc
  have HL := Lib.hid hl
  have HC := Lib.hid hc
  have HSn := Lib.hid hSn
  have HCn := Lib.hid hCn
  have HWK := Lib.hid hwk
  clear c1 hcs hcc hl hc hSn hCn hS hC hwk htk
  generalize hs0e : S.getD 0 [] = t0 at hs0 hsz0
  clear hs0e
  have e1 : decide ((n : Int) < 1) = false := by simp; omega
  have e2 : decide ((64 : Int) < (n : Int)) = false := by simp; omega
  have e3 : decide ((1 : Int) ≤ (N : Int)) = true := by simp; omega
  have e4 : decide ((N : Int) ≤ 24) = true := by simp; omega
  go_enter Tryd.func16, Tryd.ntmps16
  go_wp2_with fail
  (with_reducible refine C1.out.mono ?_)
  rintro e w' ⟨rfl, rfl⟩
  go_wp2_with fail
  go_in
  go_upto_region 5 with fail
  have hT := RwL.made w N
  have W1 : Below w.heap.size w (w.alloc (.cells (madeCells #[.int .i64 0] N) 2)) := (Below.refl _ _).alloc (Nat.le_refl _) _
  generalize w.alloc (.cells (madeCells #[.int .i64 0] N) 2) = w1 at hT W1 ⊢
  generalize hTe : w.heap.size = T at hT ⊢
  have HTe := Lib.hid hTe
  have h0 : ∀ k, k < N → gi (List.replicate N 0) k = cov (S.take 0) (C.take 0) k ∧ 0 ≤ gi (List.replicate N 0) k ∧ gi (List.replicate N 0) k ≤ 1000 * (0 : Nat) := by
    intro k hk
    have e : gi (List.replicate N 0) k = 0 := by simp [gi, hk]
    rw [e]
    simp [cov]
  have H0 := Lib.hid h0
  have Hlen0 := Lib.hid (show (List.replicate N (0 : Int)).length = N by simp)
  clear h0 hTe hs0 hsz0
  go_loopg [42] n (fun gk s42 wr => ∃ (i : Nat) (O : List Int), gk = n - i ∧ i ≤ n ∧ s42 = .int .i64 i ∧ O.length = N ∧ RwL wr T O ∧ (∀ k, k < N → gi O k = cov (S.take i) (C.take i) k ∧ 0 ≤ gi O k ∧ gi O k ≤ 1000 * i) ∧ Below T w wr)
  case atStart => exact ⟨0, _, rfl, by omega, rfl, Hlen0.out, hT, H0.out, by rw [← HTe.out]; exact W1⟩
  case round =>
    obtain ⟨i, O, hgk, hi, rfl, hlen, hO, hcov, hbel⟩ := hrel
    have HG := Lib.hid hgk
    have HLEN := Lib.hid hlen
    have HCOV := Lib.hid hcov
    clear hgk hlen hcov
    by_cases hlt : i < n
    · have hbw : ∀ p u, p.block < T → w.cell? p = some u → wr.cell? p = some u := fun p u hp hu => by rw [hbel.cell hp]; exact hu
      have ct := hbw _ _ (by rw [← HTe.out]; exact lt_of_cell (HCS.out i hlt)) (HCS.out i hlt)
      have htl := HL.out i hlt
      have hwk := HWK.out i hlt
      have htk := fun k => HTK.out i k hlt
      generalize S.getD i [] = t at ct htl hwk htk
      obtain ⟨x, hx⟩ : ∃ x, gi C i = x := ⟨_, rfl⟩
      rw [hx] at htk
      obtain ⟨hx0, hx1⟩ := HC.out i hlt
      rw [hx] at hx0 hx1
      have cx := HCC.out i hlt
      rw [hx] at cx
      have cx1 := hbw _ _ (by rw [← HTe.out]; exact hbC) cx
      have hts : (bts t).size = N := by rw [bts_size]; exact htl
      have HX := Lib.hid hx
      have HTL := Lib.hid htl
      have HTK1 := Lib.hid htk
      have HWK1 := Lib.hid hwk
      clear hx htl htk hbw cx hwk
      have bnT : bc ≠ T := by have := HTe.out; omega
      go_wp2_with fail
      refine (HWK1.out _).mono ?_
      rintro e w2 ⟨rfl, hb2⟩
      have hO2 := hO.below hb2
      have cx2 : w2.cell? ⟨bc, i, none⟩ = some (.int .i64 x) := by rw [hb2.cell (lt_of_cell cx1)]; exact cx1
      have bel2 : Below T w w2 := hbel.trans (hb2.mono (by have := hO.lt; omega))
      clear ct cx1 hO hb2 hbel
      go_upto_region 10 with fail
      obtain ⟨wq, rfl⟩ : ∃ wq : World, wq = w2 := ⟨_, rfl⟩
      have hlen := HLEN.out
      go_loopg [59] N (fun gk2 s59 wx => ∃ (k : Nat) (O2 : List Int), gk2 = N - k ∧ k ≤ N ∧ s59 = .int .i64 k ∧ O2.length = N ∧ RwL wx T O2 ∧ (∀ q, q < N → gi O2 q = gi O q + (if q < k ∧ t.getD q false = true then x else 0)) ∧ Fr (fun b => b = T) wq wx)
      case atStart => exact ⟨0, O, rfl, by omega, rfl, HLEN.out, hO2, fun q _ => by simp, Fr.refl _⟩
      case round =>
        obtain ⟨k, O2, hgk2, hk, rfl, hlen2, hO3, hcov2, hfr⟩ := hrel
        have HG2 := Lib.hid hgk2
        have HLEN2 := Lib.hid hlen2
        have HCOV2 := Lib.hid hcov2
        clear hgk2 hlen2 hcov2
        have cx3 := hfr.cell cx2 bnT
        by_cases hlt2 : k < N
        · have ck := hO3.cell (j := k) (by rw [HLEN2.out]; exact hlt2)
          have zk := hO3.fz k
          have hkt : k < t.length := by rw [HTL.out]; exact hlt2
          have hix := run_at_bts t k t[k] (by simp [hkt]) (by rw [HTL.out]; omega)
          have hgt : t.getD k false = t[k] := by simp [hkt]
          have hok := HCOV.out k hlt2
          have hok2 := HCOV2.out k hlt2
          rw [if_neg (by omega), Int.add_zero] at hok2
          have hset := RwL.set_ hO3 k (gi O2 k + x)
          have hgs := fun q (hq : q < N) => gi_set O2 k (gi O2 k + x) q (by rw [HLEN2.out]; exact hq)
          generalize t[k] = β at hix hgt
          obtain ⟨y, hy⟩ : ∃ y, gi O2 k = y := ⟨_, rfl⟩
          rw [hy] at ck hset hok2 hgs
          rw [← hok2] at hok
          obtain ⟨hok0, hok1, hok3⟩ := hok
          have HY := Lib.hid hy
          have HGT := Lib.hid hgt
          have HOK2 := Lib.hid hok2
          have HGS := Lib.hid hgs
          clear hy hgt hok2 hok0 hgs
          cases β
          · simp only [Bool.false_eq_true, if_false] at hix
            go_wp2_with fail
            go_roundg (N - (k + 1))
            case measure => have := HG2.out; omega
            case rel => exact ⟨k + 1, O2, rfl, by omega, by go_num, HLEN2.out, hO3, fun q hq => by
                rw [HCOV2.out q hq]
                congr 1
                by_cases e : q = k
                · subst e; rw [HGT.out]; simp
                · by_cases e2 : q < k
                  · simp [e2, show q < k + 1 by omega]
                  · simp [e2, show ¬ q < k + 1 by omega], hfr⟩
          · simp only [if_true] at hix
            have hw1 : IntKind.i64.wrap (y + x) = y + x := IntWalk.i64_in _ (by omega)
            go_upto_region 13 with fail
            go_region
            go_wp2_with fail
            go_roundg (N - (k + 1))
            case measure => have := HG2.out; omega
            case rel => exact ⟨k + 1, O2.set k (y + x), rfl, by omega, by go_num, by rw [List.length_set]; exact HLEN2.out, hset, fun q hq => by
                rw [HGS.out q hq]
                by_cases e : q = k
                · subst e
                  rw [if_pos rfl, HOK2.out, HGT.out, if_pos ⟨by omega, rfl⟩]
                · rw [if_neg e, HCOV2.out q hq]
                  congr 1
                  by_cases e2 : q < k
                  · simp [e2, show q < k + 1 by omega]
                  · simp [e2, show ¬ q < k + 1 by omega], (hfr.set_ (p := ⟨T, k, none⟩) (fun _ => rfl) _).drew⟩
        · obtain rfl : k = N := by omega
          have bel3 : Below T w wr := bel2.trans (hfr.toBelow (by have := hO2.lt; omega) (fun i hi e => by omega))
          go_wp2_with fail
          go_roundg (n - (i + 1))
          case measure => have := HG.out; omega
          case rel => exact ⟨i + 1, O2, rfl, by omega, by go_num, HLEN2.out, hO3, fun q hq => by
              have h1 := HCOV2.out q hq
              obtain ⟨h2, h3, h4⟩ := HCOV.out q hq
              rw [HTK1.out q, h1, h2]
              rw [h2] at h3 h4
              by_cases e : t.getD q false = true
              · rw [if_pos ⟨hq, e⟩, if_pos e]; exact ⟨rfl, by omega, by omega⟩
              · rw [if_neg (fun h => e h.2), if_neg e]; exact ⟨rfl, by omega, by omega⟩, bel3⟩
    · obtain rfl : i = n := by omega
      have hfin : ∀ k, k < N → gi O k = cov S C k := fun k hk => by
        have h1 := (HCOV.out k hk).1
        rw [List.take_of_length_le (by rw [HSn.out]; omega), List.take_of_length_le (by rw [HCn.out]; omega)] at h1
        exact h1
      have HF := Lib.hid hfin
      clear hfin
      go_wp2
      go_ret2
      exact ⟨_, O, rfl, ⟨T, N, by rw [HLEN.out]; rfl, by rw [HTe.out]; omega, hO.lt, hO.rd⟩, HLEN.out, HF.out, by rw [HTe.out]; exact hbel⟩
end Go.Proofs.YteiofihgpalkiaaDoor
