/- The walk of the law of tables. -/
import Derived.Test.YteiofihgpalkiaaTabP
import Derived.Deep.CutRange
import Derived.Deep.RegionHeld3
namespace Go.Proofs.Yteiofihgpalkiaa
open Go Go.RowKit
set_option maxRecDepth 100000

set_option maxHeartbeats 4000000 in
theorem tables_short (A B : Option Addr) (n c m0 d : Nat) (w : World) (hA : Byt w A n) (hB : Byt w B m0) (hn : n ≤ 1048576) (hm : m0 ≤ 1048576) :
    Calls Try.prog 4 #[.slice A n c, .slice B m0 d] w fun e w' => e = .returned (.bool true) ∧ Below w.heap.size w w' := by
  go_enter Try.func4, Try.ntmps4
  go_wp2_with fail
  refine (b10Long_false A B n c m0 d w hn hm).mono ?_
  rintro e w' ⟨rfl, rfl⟩
  go_wp2_with fail
  refine (b10At_any B m0 d 0 4 w hB (by omega) (by omega) (by omega) (by omega)).mono ?_
  rintro e w' ⟨x, rfl, hx0, hx1, rfl⟩
  go_wp2_with fail
  refine (b10At_any B m0 d 1 8 w hB (by omega) (by omega) (by omega) (by omega)).mono ?_
  rintro e w' ⟨y, rfl, hy0, hy1, rfl⟩
  go_upto_region 5 with fail
  obtain ⟨m, hm⟩ : ∃ m : Nat, 1 + x = (m : Int) + 1 := ⟨x.toNat, by omega⟩
  obtain ⟨p, hp⟩ : ∃ p : Nat, 2 + y = (p : Int) := ⟨(2 + y).toNat, by omega⟩
  rw [hm, hp]
  have hm3 : m ≤ 3 := by omega
  have hp2 : 2 ≤ p := by omega
  have hp9 : p ≤ 9 := by omega
  clear hm hp hx0 hx1 hy0 hy1
  have hpow : p ^ m ≤ 4096 := Nat.le_trans (Nat.pow_le_pow_left hp9 m) (Nat.le_trans (Nat.pow_le_pow_right (by omega) hm3) (by decide))
  go_wp2_with fail
  refine (b10Rules_any A n c ((m : Int) + 1) p w hA (by omega) (by omega) (by omega) (by omega) (by omega)).mono ?_
  rintro e w1 ⟨rs, g, cap, rfl, hl, hv, hR, hg1, hg2, hb1⟩
  have S1 : LS w w1 B m0 g rs := ⟨hB.bl hb1, hR, hg2, hb1⟩
  clear hR hb1
  have hv' : ∀ j, j < rs.length → vRul ((m + 1 : Nat) : Int) p (ru rs j) := hv
  have cCount := fun W (S : LS w W B m0 g rs) => count_any p m g 0 cap rs W S.rul hv' (by omega) (by omega) (by omega) hpow (by omega) S.lt
  have cTold := fun W (S : LS w W B m0 g rs) => specCount_any p m g 0 cap rs W S.rul hv' (by omega) (by omega) (by omega) hpow (by omega)
  have cFirst := fun W (S : LS w W B m0 g rs) => first_any p m g 0 cap rs W S.rul hv' (by omega) (by omega) (by omega) hpow (by omega) S.lt
  have cBest := fun W (S : LS w W B m0 g rs) => best_any p m g 0 cap rs W S.rul hv' (by omega) (by omega) (by omega) hpow (by omega) S.lt
  have cShared := fun W mb mc k (S : LS w W B m0 g rs) => shared_any p m g 0 cap mb mc k rs W S.rul hv' (by omega) (by omega) (by omega) hpow (by omega) S.lt
  have cWant := fun W (S : LS w W B m0 g rs) => specFirst_any p m g 0 cap rs W S.rul hv' (by omega) (by omega) (by omega) hpow (by omega)
  have cRight := fun W (S : LS w W B m0 g rs) => specBest_any p m g 0 cap rs W S.rul hv' (by omega) (by omega) (by omega) hpow (by omega)
  have cAre := fun W (S : LS w W B m0 g rs) => areRules_true ((m : Int) + 1) p g 0 cap rs W S.rul hv (by omega) (by omega) (by omega) (by omega) (by omega)
  have cEq := fun W (S : LS w W B m0 g rs) => equalRules_true g 0 cap rs W S.rul (by omega)
  clear hpow hA hB hn hm
  have kF := runFirst_kept (keptB p m rs) (p ^ m)
  have kB := runBest_kept (keptB p m rs) (sumT p m rs) (p ^ m)
  have kC := count_first (keptB p m rs) (p ^ m)
  have kD := best_first (keptB p m rs) (sumT p m rs) (p ^ m)
  generalize hF : runT (keptB p m rs) nxFirst none (p ^ m) = F at *
  generalize hT : runT (keptB p m rs) (nxBest (sumT p m rs)) none (p ^ m) = T at *
  generalize hC : runT (keptB p m rs) nxCount 0 (p ^ m) = C at *
  obtain ⟨X, hX⟩ : ∃ X : Int, (C : Int) = X := ⟨_, rfl⟩
  simp only [hX] at cCount cTold cShared
  clear hF hT hC
  cases F with
  | none =>
    have hT : T = none := by simpa using kD
    have hC : C = 0 := by simpa using kC
    subst hT hC
    obtain rfl : X = 0 := by omega
    clear kF kB kC kD hX cWant cRight
    simp only [Option.isSome_none, HoldsT, bestSum] at cFirst cBest
    go_wp2_with fail
    refine (cCount _ S1).mono ?_
    rintro e w2 ⟨rfl, hb2⟩
    have S2 := S1.go hb2
    clear hb2
    go_wp2_with fail
    refine (cTold _ S2).mono ?_
    rintro e w3 ⟨rfl, hb3⟩
    have S3 := S2.go hb3
    clear hb3
    go_wp2_with fail
    refine (cFirst _ S3).mono ?_
    rintro e w4 ⟨v4, rfl, rfl, hb4⟩
    have S4 := S3.go hb4
    clear hb4
    go_wp2_with fail
    refine (cBest _ S4).mono ?_
    rintro e w5 ⟨v5, rfl, rfl, hb5⟩
    have S5 := S4.go hb5
    clear hb5
    go_wp2_with fail
    have S5' := S5.go ((Below.refl _ _).alloc (Nat.le_refl _) (.cells #[.slice (some ⟨g, 0, none⟩) rs.length cap, .slice (some ⟨g, 0, none⟩) rs.length cap] 43))
    refine (b10At_any B m0 d 2 8 _ S5'.byt (by omega) (by omega) (by omega) (by omega)).mono ?_
    rintro e w' ⟨z, rfl, hz0, hz1, rfl⟩
    go_wp2_with fail
    refine (cShared _ _ _ _ S5' ?_ ?_ (by omega) (by omega)).mono ?_
    · simp
    · simp
    rintro e w6 ⟨v6, rfl, ⟨g6, c6, rfl, hg6, hg6', hn6⟩, hb6⟩
    have S6 := S5'.go hb6
    have h60 := hn6 0 (by simp)
    have h61 := hn6 1 (by simp)
    simp [gi] at h60 h61
    clear hb6 hn6
    go_wp2_with fail
    refine (cAre _ S6).mono ?_
    rintro e w7 ⟨rfl, hb7⟩
    have S7 := S6.go hb7
    clear hb7
    go_wp2_with fail
    go_in
    go_wp2_with fail
    refine (cEq _ S7).mono ?_
    rintro e w8 ⟨rfl, hd8⟩
    have S8 := S7.go hd8.below
    clear hd8
    go_wp2_with fail
    go_ret
    exact ⟨rfl, S8.bel⟩
  | some k1 =>
    obtain ⟨k2, rfl⟩ : ∃ k2, T = some k2 := by
      cases T with
      | none => simp at kD
      | some k2 => exact ⟨k2, rfl⟩
    have hC : 0 < X := by
      have : C ≠ 0 := fun e => by simp [e] at kC
      omega
    have e0 : decide (0 < X) = true := by simpa using hC
    obtain ⟨kf, lf⟩ := kF k1 rfl
    obtain ⟨kb, lb⟩ := kB k2 rfl
    clear kF kB kC kD hX
    simp only [Option.isSome_some, HoldsT, bestSum] at cFirst cBest cWant cRight
    obtain ⟨Y, hY⟩ : ∃ Y : Int, sumT p m rs k2 = Y := ⟨_, rfl⟩
    simp only [hY] at cBest cRight
    have HY := Lib.hid hY
    have Hf := Lib.hid kf
    have Hb := Lib.hid kb
    clear hY kf kb
    go_wp2_with fail
    refine (cCount _ S1).mono ?_
    rintro e w2 ⟨rfl, hb2⟩
    have S2 := S1.go hb2
    clear hb2
    go_wp2_with fail
    refine (cTold _ S2).mono ?_
    rintro e w3 ⟨rfl, hb3⟩
    have S3 := S2.go hb3
    clear hb3
    go_wp2_with fail
    refine (cFirst _ S3).mono ?_
    rintro e w4 ⟨v4, rfl, ⟨g4, c4, rfl, hg4, hg4', hn4⟩, hb4⟩
    have S4 := S3.go hb4
    have L1 : vTab ((m : Int) + 1) p (tab p m k1) := vTab_tab' p m k1 (by omega)
    have L2 : vTab ((m : Int) + 1) p (tab p m k2) := vTab_tab' p m k2 (by omega)
    clear hb4
    go_wp2_with fail
    refine (cBest _ S4).mono ?_
    rintro e w5 ⟨v5, rfl, ⟨g5, c5, rfl, hg5, hg5', hn5⟩, hb5⟩
    have R5 := ((RS.nil w5).add hn5).add (hn4.below hb5)
    have N4 : g4 < w5.heap.size := Nat.lt_of_lt_of_le hg4' hb5.size
    clear hn5 hn4 hg4'
    have S5 := S4.go hb5
    clear hb5
    go_wp2_with fail
    have R5' := R5.go ((Below.refl _ _).alloc (Nat.le_refl _) (.cells #[.slice (some ⟨g, 0, none⟩) rs.length cap, .slice (some ⟨g, 0, none⟩) rs.length cap] 43))
    have S5' := S5.go ((Below.refl _ _).alloc (Nat.le_refl _) (.cells #[.slice (some ⟨g, 0, none⟩) rs.length cap, .slice (some ⟨g, 0, none⟩) rs.length cap] 43))
    refine (b10At_any B m0 d 2 8 _ S5'.byt (by omega) (by omega) (by omega) (by omega)).mono ?_
    rintro e w' ⟨z, rfl, hz0, hz1, rfl⟩
    go_wp2_with fail
    refine (cShared _ _ _ _ S5' ?_ ?_ (by omega) (by omega)).mono ?_
    · simp
    · simp
    rintro e w6 ⟨v6, rfl, ⟨g6, c6, rfl, hg6, hg6', hn6⟩, hb6⟩
    have S6 := S5'.go hb6
    have R6 := R5'.go hb6
    have N5 : g5 < w6.heap.size := Nat.lt_of_lt_of_le hg5' (Nat.le_trans (by simp) hb6.size)
    have N4 : g4 < w6.heap.size := Nat.lt_of_lt_of_le N4 (Nat.le_trans (by simp) hb6.size)
    clear S5' R5' hg5' cCount cTold cFirst cBest cShared S2 S3 S4 S5 R5
    have h60 := hn6 0 (by simp)
    have h61 := hn6 1 (by simp)
    simp [gi] at h60 h61
    clear hb6 hn6
    go_wp2_with fail
    refine (cAre _ S6).mono ?_
    rintro e w7 ⟨rfl, hb7⟩
    have S7 := S6.go hb7
    have R7 := R6.go hb7
    have N5 : g5 < w7.heap.size := Nat.lt_of_lt_of_le N5 hb7.size
    clear hb7
    go_wp2_with fail
    go_in
    go_wp2_with fail
    refine (cEq _ S7).mono ?_
    rintro e w8 ⟨rfl, hd8⟩
    have S8 := S7.go hd8.below
    have R8 := R7.go hd8.below
    have N5 : g5 < w8.heap.size := Nat.lt_of_lt_of_le N5 (Drew.below (B := 0) hd8).size
    clear hd8
    clear S6 R6 S7 R7 h60 h61 hg6 hg6' cAre cEq
    have cK1 := fun W c (S : LS w W B m0 g rs) (R : RS W [(g4, tab p m k1), (g5, tab p m k2)]) => keeps_any ((m : Int) + 1) p g4 0 c (tab p m k1) g 0 cap rs W R.hd L1 S.rul hv (by omega) (by omega) (by omega) (by omega) (by omega)
    simp only [show (waitsF p (tab p m k1) rs 0).2 = true from Hf.out] at cK1
    have cK2 := fun W c b d (S : LS w W B m0 g rs) (R : RdI W b 0 (turnF p d (tab p m k2))) => keeps_any ((m : Int) + 1) p b 0 c (turnF p d (tab p m k2)) g 0 cap rs W R (vTab_turn L2 (by omega)) S.rul hv (by omega) (by omega) (by omega) (by omega) (by omega)
    have hkt := fun d => keeps_turn (d := d) L2 hv (by omega) Hb.out
    simp only [hkt] at cK2
    clear hkt
    go_wp2_with fail
    refine (cWant _ S8).mono ?_
    rintro e w9 ⟨v9, rfl, ⟨g9, c9, rfl, hg9, hg9', hn9⟩, hb9⟩
    have S9 := S8.go hb9
    have R9 := (R8.go hb9).add hn9
    have N5 : g5 < w9.heap.size := Nat.lt_of_lt_of_le N5 hb9.size
    clear hb9 hn9 S8 R8
    go_wp2_with fail
    refine (cRight _ S9).mono ?_
    rintro e w10 ⟨v10, rfl, ⟨g10, c10, rfl, hg10, hg10', hn10⟩, hb10⟩
    have S10 := S9.go hb10
    have R10 := (R9.go hb10).add hn10
    have N5 : g5 < w10.heap.size := Nat.lt_of_lt_of_le N5 hb10.size
    clear hb10 hn10 S9 R9
    go_wp2_with fail
    refine (cK1 _ _ S10 R10.tl.tl).mono ?_
    rintro e w11 ⟨rfl, hb11⟩
    have S11 := S10.go hb11
    have R11 := R10.go hb11
    have N5 : g5 < w11.heap.size := Nat.lt_of_lt_of_le N5 hb11.size
    clear hb11 S10 R10
    go_wp2_with fail
    refine (b10At_any B m0 d 3 40 _ S11.byt (by omega) (by omega) (by omega) (by omega)).mono ?_
    rintro e w' ⟨z', rfl, hz0', hz1', rfl⟩
    go_wp2_with fail
    refine (turn_any g5 0 c5 _ p _ (tab p m k2) _ R11.tl.tl.tl.hd L2 (by omega) (by omega) (by omega) (by omega) (by omega) (by omega) N5).mono ?_
    rintro e w12 ⟨v12, rfl, ⟨g12, c12, rfl, hg12, hg12', hn12⟩, hb12⟩
    have S12 := S11.go hb12
    have R12 := R11.go hb12
    clear hb12 S11 R11
    go_wp2_with fail
    refine (cK2 _ _ _ _ S12 hn12).mono ?_
    rintro e w13 ⟨rfl, hb13⟩
    have S13 := S12.go hb13
    have R13 := R12.go hb13
    clear hb13 S12 R12 hn12
    have ln : (tab p m k1).length ≤ 1000000 := by rw [tab_len]; omega
    have ln2 : (tab p m k2).length ≤ 1000000 := by rw [tab_len]; omega
    go_wp2_with fail
    refine (b10Ints_true g4 0 c4 g9 0 c9 (tab p m k1) _ R13.tl.tl.hd R13.tl.hd ln).mono ?_
    rintro e w14 ⟨rfl, hb14⟩
    have S14 := S13.go hb14.below
    have R14 := R13.go hb14.below
    clear hb14 S13 R13
    go_wp2_with fail
    refine (b10Ints_true g5 0 c5 g10 0 c10 (tab p m k2) _ R14.tl.tl.tl.hd R14.hd ln2).mono ?_
    rintro e w15 ⟨rfl, hb15⟩
    have S15 := S14.go hb15.below
    have R15 := R14.go hb15.below
    clear hb15 S14 R14 cWant cRight cK1 cK2
    have h40 := R15.tl.tl.hd 0 (by rw [tab_len]; omega)
    rw [gi_tab _ _ _ _ (by omega), tv, if_pos rfl, Nat.zero_add] at h40
    have i40 : (0 : Int) < ((tab p m k1).length : Int) := by rw [tab_len]; omega
    obtain ⟨r1, d1, ht1, hw1, hd1⟩ := near_tab p m k1 hp2 hp9 hm3 lf
    unfold lt64 at hd1
    have HY2 := Lib.hid (show Y = sumW p (tab p m k2) rs by rw [← HY.out, sumT, (waitsF_true _ _ _ _ Hb.out).2]; omega)
    have hwd := run_widen r1 d1 hw1
    have cTog := fun W c (R : RdI W g4 0 (tab p m k1)) (hg : g4 < W.heap.size) => together_any g4 0 c ((m : Int) + 1) p (tab p m k1) r1 W R L1 (by omega) (by omega) (by omega) (by omega) hg ht1
    have cPh := fun W c (R : RdI W g4 0 (tab p m k1)) (hg : g4 < W.heap.size) => phases_any g4 0 c ((m : Int) + 1) p (tab p m k1) W R L1 (by omega) (by omega) (by omega) (by omega) hg
    have cPair := fun W b c (R : RdI W b 0 [0, 0]) (hg : b < W.heap.size) => together_any b 0 c 2 p [0, 0] 1065353216 W R (vTab_two p (by omega)) (by omega) (by omega) (by omega) (by omega) hg (tog_pair p (by omega) (by omega))
    simp only [List.length_cons, List.length_nil, Nat.zero_add, Nat.reduceAdd] at cPair
    clear ht1 hw1
    have hs0 : sumW p (tab p m k2) (rs.take 0) = 0 := by simp [sumW]
    have HS0 := Lib.hid hs0
    clear hs0
    go_wp2
    go_loopg [30, 240] rs.length (fun gk s30 s240 wr => ∃ (k : Nat), gk = rs.length - k ∧ k ≤ rs.length ∧ s240 = .int .i64 k ∧ s30 = .int .i64 (sumW p (tab p m k2) (rs.take k)) ∧ Drew w15 wr)
    case atStart => exact ⟨0, rfl, by omega, rfl, by rw [HS0.out], Drew.refl _⟩
    case round =>
      obtain ⟨k, hgk, hk, rfl, rfl, hdr⟩ := hrel
      have HG := Lib.hid hgk
      clear hgk
      by_cases hlt : k < rs.length
      · obtain ⟨q0, q1, q2, q3⟩ := (S15.go hdr.below).rul k hlt
        rw [Nat.zero_add] at q0 q1 q2 q3
        have R := (R15.go hdr.below).tl.tl.tl.hd
        have vr := hv k hlt
        have hwk := wt_ru Hb.out k hlt
        have hst := sumW_step p (tab p m k2) rs k hlt
        have bd := sumW_bd (t := tab p m k2) (by omega : (0 : Int) < p) hv k hk
        have bw := wt_bd (t := tab p m k2) (by omega : (0 : Int) < p) vr
        have hkk : 2 * (p : Int) * k ≤ 1000 := by
          have h1 : 2 * p * k ≤ 18 * 4 := Nat.mul_le_mul (by omega) (by omega)
          have h2 : ((2 * p * k : Nat) : Int) = 2 * (p : Int) * (k : Int) := by simp [Int.natCast_mul]
          omega
        have k0 : (0 : Int) ≤ (k : Int) := by omega
        have k1' : (k : Int) < (rs.length : Int) := by omega
        generalize ru rs k = r at *
        obtain ⟨v1, v2, v3, v4, v5, v6, v7, v8, v9⟩ := vr
        have l2 := tab_len p m k2
        have i1 : r.fr.toNat < (tab p m k2).length := by omega
        have i2 : r.to.toNat < (tab p m k2).length := by omega
        have b1 := L2.2 _ i1
        have b2 := L2.2 _ i2
        have g1 := R _ i1
        have g2 := R _ i2
        rw [Nat.zero_add] at g1 g2
        have j1 : r.fr < ((tab p m k2).length : Int) := by omega
        have j2 : r.to < ((tab p m k2).length : Int) := by omega
        have hwt : wt p (tab p m k2) r = r.le + (gi (tab p m k2) r.to.toNat - gi (tab p m k2) r.fr.toNat - r.le) % p := rfl
        generalize wt p (tab p m k2) r = WT at *
        generalize gi (tab p m k2) r.to.toNat = a at *
        generalize gi (tab p m k2) r.fr.toNat = b at *
        have e1 : IntKind.i64.wrap (a - b) = a - b := IntWalk.i64_in _ (by omega)
        have HWT := Lib.hid hwt
        have HST := Lib.hid hst
        clear hwt hst l2 R
        go_wp2
        go_quiet (fail)
        go_wp2
        have hdq := hdr.more nq
        go_loopg [32] (r.le + 20 - (a - b)).toNat (fun gd s32 wx => ∃ dd : Int, s32 = .int .i64 dd ∧ (dd - r.le) % (p : Int) = (a - b - r.le) % (p : Int) ∧ -20 ≤ dd ∧ dd < r.le + 20 ∧ gd = (r.le + 20 - dd).toNat ∧ wr.drewN nq = wx)
        case atStart => exact ⟨a - b, rfl, rfl, by omega, by omega, rfl, rfl⟩
        case round =>
          obtain ⟨dd, rfl, hdd, d2, d3, hgd, rfl⟩ := hrel
          have HD := Lib.hid hdd
          have HGD := Lib.hid hgd
          clear hdd hgd
          by_cases hlo : dd < r.le
          · have z1 : decide (dd < r.le) = true := by simpa using hlo
            go_wp2
            go_roundg (r.le + 20 - (dd + p)).toNat
            case measure => have := HGD.out; omega
            case rel => exact ⟨dd + p, by go_num, d_up HD.out, by omega, by omega, rfl, rfl⟩
          · have z1 : decide (dd < r.le) = false := by simpa using hlo
            go_wp2
            go_loopg [32] (dd - r.le).toNat (fun gd s32 wx => ∃ de : Int, s32 = .int .i64 de ∧ (de - r.le) % (p : Int) = (a - b - r.le) % (p : Int) ∧ r.le ≤ de ∧ de < r.le + 20 ∧ gd = (de - r.le).toNat ∧ wr.drewN nq = wx)
            case atStart => exact ⟨dd, rfl, HD.out, by omega, by omega, rfl, rfl⟩
            case round =>
              obtain ⟨de, rfl, hde, d4, d5, hgd, rfl⟩ := hrel
              have HE := Lib.hid hde
              have HGD := Lib.hid hgd
              clear hde hgd
              by_cases hlo2 : r.le ≤ de - p
              · have z2 : decide (r.le ≤ de - p) = true := by simpa using hlo2
                go_wp2
                go_roundg (de - p - r.le).toNat
                case measure => have := HGD.out; omega
                case rel => exact ⟨de - p, by go_num, d_dn HE.out, by omega, by omega, rfl, rfl⟩
              · have z2 : decide (r.le ≤ de - p) = false := by simpa using hlo2
                have hfin : de = WT := by rw [HWT.out]; exact d_end HE.out d4 (by omega)
                subst hfin
                have z3 : decide (r.mo < de) = false := by simp; omega
                go_wp2
                go_roundg (rs.length - (k + 1))
                case measure => have := HG.out; omega
                case rel => exact ⟨k + 1, rfl, by omega, by go_num, by rw [HST.out], hdq⟩
      · have hkk : k = rs.length := by omega
        subst hkk
        have hwl : sumW p (tab p m k2) (rs.take rs.length) = Y := by rw [List.take_of_length_le (Nat.le_refl _)]; exact HY2.out.symm
        rw [hwl]
        clear hwl
        have S16 := S15.go hdr.below
        have R16 := (R15.go hdr.below).tl.tl.hd
        have N6 : g4 < wr.heap.size := lt_of_cell (R16 0 (by rw [tab_len]; omega))
        have nz : gi (tab p m k1) 0 = 0 := by rw [gi_tab _ _ _ _ (by omega), tv, if_pos rfl]
        have NZ := Lib.hid nz
        have ht0 : 0 < (tab p m k1).length := by rw [tab_len]; omega
        clear nz h40 R15 S15 hdr
        go_wp2_with fail
        refine (cTog _ _ R16 N6).mono ?_
        rintro e w16 ⟨rfl, hb16⟩
        have S17 := S16.go hb16
        have R17 := R16.below hb16
        have N7 : g4 < w16.heap.size := Nat.lt_of_lt_of_le N6 hb16.size
        clear hb16 S16 R16 N6 cTog
        have h40 := R17 0 ht0
        rw [NZ.out, Nat.zero_add] at h40
        go_wp2_with fail
        have NB : w16.heap.size ≤ w16.heap.size := Nat.le_refl _
        go_region_held3 (fun w' => w'.cell? ⟨g4, 0, none⟩ = some (.int .i64 0)) (((try dsimp only); (first | assumption | (simp; done) | (simp; assumption) | exact (((Below.refl w16.heap.size w16).alloc (Nat.le_refl _) _).drew.cell N7).trans h40))) ((go_at_call 34; refine (cPair _ _ _ (by exact fun j hj => RdI.new2 w16 0 0 _ j hj) (by simp)).mono ?_; rintro e w36 ⟨rfl, hb36⟩; have hBx : Below w16.heap.size w16 w36 := ((Below.refl w16.heap.size w16).alloc (Nat.le_refl _) _).drew.trans (hb36.mono (by simp)); have h40b := (hBx.cell (p := ⟨g4, 0, none⟩) N7).trans h40))
        have S36 := S17.go hBx
        have R36 := R17.below hBx
        have N8 : g4 < w36.heap.size := Nat.lt_of_lt_of_le N7 hBx.size
        clear hb36 h40b
        go_wp2_with fail
        refine (cPh _ _ R36 N8).mono ?_
        rintro e w37 ⟨v37, rfl, ⟨g37, c37, rfl, hg37, hg37', hn37⟩, hb37⟩
        have S37 := S36.go hb37
        clear hn37 hb37 R36 S36 R17 S17 hBx h40
        go_wp2_with fail
        refine (ring_any _ _ _ _ _ _ _ ?_ ?_ ?_ ?_).mono ?_
        · exact (ring_cells w37 _ _ _).1
        · exact (ring_cells w37 _ _ _).2.1
        · exact (ring_cells w37 _ _ _).2.2.1
        · exact (ring_cells w37 _ _ _).2.2.2.1
        rintro e w38 ⟨rfl, hb38⟩
        have hb := S37.bel.trans ((ring_cells w37 56 2 4).2.2.2.2.mono S37.bel.size)
        have hb' := hb.trans (hb38.mono hb.size)
        have HB := Lib.hid hb'
        clear hb hb' hb38
        have hwo := run_widen 1065353216 4607182418800017408 (by decide +kernel)
        have z5 : (FloatKind.f64.format.order 0 4562254508917369340 == some .lt) = true := by decide +kernel
        go_wp2_with fail
        refine (gap_one _).mono ?_
        rintro e w39 ⟨rfl, rfl⟩
        go_wp2_with fail
        go_ret
        exact ⟨rfl, HB.out⟩
end Go.Proofs.Yteiofihgpalkiaa
