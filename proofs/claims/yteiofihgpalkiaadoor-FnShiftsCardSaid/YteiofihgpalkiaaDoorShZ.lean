/- The walks of shifts: covers by the greatest gain. -/
import Derived.Test.YteiofihgpalkiaaDoorShY
namespace Go.Proofs.YteiofihgpalkiaaDoor
open Go Go.RowKit
set_option maxRecDepth 100000

/-- what a covering has come to -/
structure Gr (w : World) (L : List (List Bool)) (N : Nat) (Nd : List Int) (ga K G : Nat) (wx : World) (T Lf : List Int) : Prop where
  rs : RdS wx ga 0 (fT ByteArray.empty L)
  rk : RwK wx K T
  rg : RwK wx G Lf
  tl : T.length = L.length
  ll : Lf.length = N
  eq : ∀ q, q < N → gi Nd q = gi Lf q + cov L T q
  tb : ∀ i, i < L.length → 0 ≤ gi T i ∧ gi T i + psum Lf ≤ 72
  lb : ∀ q, q < N → gi Lf q ≤ 3 ∧ (psum Lf : Int) ≤ gi Lf q + 72
  bel : Below w.heap.size w wx

/-- what comes out: what is told of shifts and counts that cover -/
def Covers (N : Nat) (Nd : List Int) (w w' : World) (vs vc : Value) : Prop :=
  ∃ (S : List (List Bool)) (C : List Int), S.length = C.length ∧ S.length ≤ 64 ∧ NewS w' w.heap.size vs (fT ByteArray.empty S) ∧ NewI w' w.heap.size vc C ∧ (∀ j, j < S.length → (S.getD j []).length = N) ∧ (∀ j, j < C.length → 0 ≤ gi C j ∧ gi C j ≤ 1000) ∧ (∀ k, k < N → gi Nd k ≤ cov S C k)

def GPost (N : Nat) (Nd : List Int) (w : World) (e : Ending) (w' : World) : Prop := ∃ vs vc ok, e = .returned (.tuple #[vs, vc, .bool ok]) ∧ (ok = true → Covers N Nd w w' vs vc) ∧ Below w.heap.size w w'

theorem psum_bound (l : List Int) (N : Nat) (hl : l.length = N) (hN : N ≤ 24) (h : ∀ j, j < N → 0 ≤ gi l j ∧ gi l j ≤ 3) : psum l ≤ 72 := by
  have := psum_le 3 l (fun x hx => by
    obtain ⟨j, hj⟩ := List.mem_iff_getElem?.1 hx
    obtain ⟨hj1, hj2⟩ := List.getElem?_eq_some_iff.1 hj
    have := (h j (by omega)).2
    simp [gi, hj1] at this
    rw [hj2] at this
    exact this)
  rw [hl] at this
  omega
theorem own_ne {w : World} {B B' : Nat} {vs vc : Value} {l : List ByteArray} {C : List Int} (hs : OwnS w B vs l) (hc : OwnI w B' vc C) : ∀ k, vc.ownBlock = some k → some k ≠ vs.ownBlock := by
  intro k hk e
  rcases hs.2 with ⟨rfl, hx⟩ | ⟨g, cap, cur, rfl, _, hh, _⟩
  · simp [Value.ownBlock] at e
  · simp [Value.ownBlock] at e
    exact ownNe hc hh (by decide) k hk e
theorem own_ne' {w : World} {B B' : Nat} {vs vc : Value} {l : List ByteArray} {C : List Int} (hs : OwnS w B vs l) (hc : OwnI w B' vc C) : ∀ k, vs.ownBlock = some k → some k ≠ vc.ownBlock := by
  intro k hk e
  exact own_ne hs hc k e.symm hk.symm
theorem fT_one (S : List (List Bool)) (t : List Bool) : fT ByteArray.empty S ++ [bts t] = fT ByteArray.empty (S ++ [t]) := by
  rw [fT_app]
  simp [fT]

set_option maxHeartbeats 2000000 in
theorem greedy_any (r : SR) (hr : r.Ok) (Nd : List Int) (N : Nat) (hNl : Nd.length = N) (hNs : (N : Int) = r.slots) (hNd : ∀ j, j < N → 0 ≤ gi Nd j ∧ gi Nd j ≤ 3) (bn cn : Nat) (w : World) (hR : RdI w bn 0 Nd) :
    Calls Tryd.prog 15 #[r.cell, .slice (some ⟨bn, 0, none⟩) N cn] w (GPost N Nd w) := by
  have hN8 : N ≤ 8 := by have := hr.s8; omega
  have hN1 : 1 ≤ N := by have := hr.s1; omega
  have c1 := fun w => validRule_true r hr w
  have c2 := fun w => firstShifts_any r hr 64 (by omega) w
  have e64 : ((64 : Nat) : Int) = 64 := rfl
  rw [e64] at c2
  have hLL : ∀ j, j < ((all r).take 64).length → (((all r).take 64).getD j []).length = N := by
    intro j hj
    have h1 := getD_mem _ j hj
    have h2 := ((mem_lst r _ _ _).1 (List.mem_of_mem_take h1)).1
    rw [h2]; omega
  have hLM : ((all r).take 64).length ≤ 64 := by rw [List.length_take]; omega
  generalize (all r).take 64 = L at *
  have c3 := fun w h => areMany_true bn cn Nd N 0 100 w h (by omega) hNl (fun j hj => by have := hNd j (by omega); omega)
  have c4 := fun w h => clone_own bn cn Nd w h (by omega)
  rw [hNl] at c3 c4
  have hmk := run_make_row' (P := Tryd.prog) 33 2 (.int .i64 0) 8 Tryd.underlying33 infoI64 rfl .i64 .i64 L.length (by omega) (by omega)
  obtain ⟨s0, l, m, q, p⟩ := r
  simp only at hNs
  subst hNs
  unfold SR.cell at c1 c2 ⊢
  simp only at c1 c2 ⊢
  have hbn := lt_of_cell (hR 0 (by omega))
  simp only at hbn
  have hps := psum_bound Nd N hNl (by omega) hNd
  have h0eq : ∀ q, q < N → gi Nd q = gi Nd q + cov L (List.replicate L.length 0) q := fun q _ => by rw [cov_zero]; omega
  have h0tb : ∀ i, i < L.length → 0 ≤ gi (List.replicate L.length 0) i ∧ gi (List.replicate L.length 0) i + psum Nd ≤ 72 := fun i hi => by
    have e : gi (List.replicate L.length 0) i = 0 := by simp [gi, hi]
    rw [e]; omega
  have h0lb : ∀ q, q < N → gi Nd q ≤ 3 ∧ (psum Nd : Int) ≤ gi Nd q + 72 := fun q hq => by have := hNd q hq; omega
  have C1 := Lib.hid c1
  have C2 := Lib.hid c2
  have C3 := Lib.hid c3
  have C4 := Lib.hid c4
  have HLL := Lib.hid hLL
  have HNd := Lib.hid hNd
  have HNl := Lib.hid hNl
  have H0eq := Lib.hid h0eq
  have H0tb := Lib.hid h0tb
  have H0lb := Lib.hid h0lb
  have HR := Lib.hid hR
  clear c1 c2 c3 c4 hLL hNd hNl h0eq h0tb h0lb hR e64 hr
  go_enter Tryd.func15, Tryd.ntmps15
  go_wp2_with fail
  refine (C1.out _).mono ?_
  rintro e w1 ⟨rfl, hb1⟩
  have B0 := (Rw.new w 25 #[.int .i64 N, .int .i64 l, .int .i64 m, .int .i64 q, .int .i64 p]).below hb1
  have W1 : Below w.heap.size w w1 := ((Below.refl _ _).alloc (Nat.le_refl _) _).trans (hb1.mono (by simp))
  clear hb1
  have f0 := B0.cell 0
  have f1 := B0.cell 1
  have f2 := B0.cell 2
  have f3 := B0.cell 3
  have f4 := B0.cell 4
  simp at f0 f1 f2 f3 f4
  go_wp2_with fail
  (with_reducible refine (C3.out _ (HR.out.below W1)).mono ?_)
  rintro e w' ⟨rfl, rfl⟩
  go_wp2_with fail
  (with_reducible refine (C2.out _).mono ?_)
  rintro e w2 ⟨va, rfl, hva, hb2⟩
  obtain ⟨ga, ca, rfl, hga, hgal, hrs⟩ := hva
  rw [fT_len]
  have W2 : Below w.heap.size w w2 := W1.trans (hb2.mono W1.size)
  have hga2 : w.heap.size < ga := by have := B0.lt; omega
  clear f0 f1 f2 f3 f4 hb2 B0 hga
  have hrs3 := hrs.fr (C := fun _ => False) ((Fr.refl w2).alloc (.cells (madeCells #[.int .i64 0] L.length) 2)) (fun h => h)
  have hrk3 := (RwL.made w2 L.length).k
  have W3 := W2.alloc W2.size (.cells (madeCells #[.int .i64 0] L.length) 2)
  have hgaK : ga < w2.heap.size := hgal
  go_wp2_with fail
  generalize w2.alloc (.cells (madeCells #[.int .i64 0] L.length) 2) = w3 at hrs3 hrk3 W3 ⊢
  generalize w2.heap.size = K at *
  (with_reducible refine (C4.out _ (HR.out.below W3)).mono ?_)
  rintro e w4 ⟨G, cg, rfl, hG1, hG2, hb4⟩
  have hKG : K < G := by have := hrk3.lt; omega
  have hgr : Gr w L N Nd ga K G w4 (List.replicate L.length 0) Nd := ⟨hrs3.below hb4, hrk3.below hb4, hG2, by simp, HNl.out, H0eq.out, H0tb.out, H0lb.out, W3.trans (hb4.mono W3.size)⟩
  clear hrs hrs3 hrk3 W1 W2 W3 hG1 hG2 hb4 hgal
  go_upto_region 6 with fail
  go_loopg [11] (psum Nd) (fun gk s11 wr => ∃ (T Lf : List Int), gk = psum Lf ∧ Gr w L N Nd ga K G wr T Lf)
  case atStart => exact ⟨_, Nd, rfl, hgr⟩
  case round =>
    obtain ⟨T, Lf, hgk, hg⟩ := hrel
    have hLfl := hg.ll
    have hmx := max_any G cg Lf wr hg.rg.rd (by omega) (by omega)
    rw [hLfl] at hmx
    have HLf := Lib.hid hLfl
    have HMX := Lib.hid hmx
    have HGK := Lib.hid hgk
    clear hLfl hmx hgk
    go_wp2_with fail
    (with_reducible refine HMX.out.mono ?_)
    rintro e wd ⟨mx, rfl, hmx1, hmx2, hd⟩
    have hg : Gr w L N Nd ga K G wd T Lf := by
      obtain ⟨dn, rfl⟩ := hd
      exact ⟨hg.rs, hg.rk, hg.rg, hg.tl, hg.ll, hg.eq, hg.tb, hg.lb, bdrewN hg.bel dn⟩
    have HM1 := Lib.hid hmx1
    have HM2 := Lib.hid hmx2
    clear hmx1 hmx2 hd HMX
    by_cases hpos : 0 < mx
    · have hbS := fun (i : Nat) (hi : i < L.length) => by have := hg.rs i (by rw [fT_len]; exact hi); rw [gs_fT L i hi, Nat.zero_add] at this; exact this
      have hbG := fun (i : Nat) (hi : i < N) => hg.rg.cell (j := i) (by rw [HLf.out]; exact hi)
      have HBS := Lib.hid hbS
      have HBG := Lib.hid hbG
      clear hbS hbG
      go_upto_region 9 with fail
      go_loopg [11, 12, 50] L.length (fun gi2 s11 s12 s50 wx => ∃ (i : Nat) (mo : Int), gi2 = L.length - i ∧ i ≤ L.length ∧ s50 = .int .i64 i ∧ s12 = .int .i64 mo ∧ 0 ≤ mo ∧ ((s11 = .int .i64 (-1)) ∨ (∃ bi : Nat, s11 = .int .i64 bi ∧ bi < L.length ∧ ∃ qq, qq < N ∧ 0 < gi Lf qq ∧ (L.getD bi []).getD qq false = true)) ∧ wd = wx)
      case atStart => exact ⟨0, 0, rfl, by omega, rfl, rfl, by omega, .inl rfl, rfl⟩
      case round =>
        obtain ⟨i, mo, hgi, hi, rfl, rfl, hmo, hbest, rfl⟩ := hrel
        have HGI := Lib.hid hgi
        have HBE := Lib.hid hbest
        clear hgi hbest
        by_cases hlt : i < L.length
        · have ct := HBS.out i hlt
          have htl := HLL.out i hlt
          generalize hte : L.getD i [] = t at ct htl
          have HTE := Lib.hid hte
          have HTL := Lib.hid htl
          clear hte htl
          go_upto_region 13 with fail
          go_loopg [15, 57] N (fun gk3 s15 s57 wx => ∃ (k : Nat) (g : Int), gk3 = N - k ∧ k ≤ N ∧ s57 = .int .i64 k ∧ s15 = .int .i64 g ∧ 0 ≤ g ∧ g ≤ k ∧ (0 < g → ∃ qq, qq < N ∧ 0 < gi Lf qq ∧ t.getD qq false = true) ∧ wd = wx)
          case atStart => exact ⟨0, 0, rfl, by omega, rfl, rfl, by omega, by omega, (fun h => absurd h (by omega)), rfl⟩
          case round =>
            obtain ⟨k, g, hgk3, hk, rfl, rfl, hg0, hg1, hgq, rfl⟩ := hrel
            have HG3 := Lib.hid hgk3
            have HGQ := Lib.hid hgq
            clear hgk3 hgq
            by_cases hlt2 : k < N
            · have ck := HBG.out k hlt2
              have hix := run_at_bts t k (t.getD k false) (by have := HTL.out; rw [List.getD_eq_getElem?_getD]; rw [List.getElem?_eq_getElem (by omega)]; rfl) (by have := HTL.out; omega)
              generalize hβ : t.getD k false = β at hix
              generalize hx : gi Lf k = x at ck
              have HB := Lib.hid hβ
              have HX := Lib.hid hx
              clear hβ hx
              by_cases hx0 : 0 < x
              · have ex : decide (0 < x) = true := by simpa
                cases β with
                | false =>
                  simp only [Bool.false_eq_true, if_false] at hix
                  go_wp2_with fail
                  go_roundg (N - (k + 1))
                  case measure => have := HG3.out; omega
                  case rel => exact ⟨k + 1, g, rfl, by omega, by go_num, rfl, hg0, by omega, HGQ.out, rfl⟩
                | true =>
                  simp only [if_true] at hix
                  go_wp2_with fail
                  go_roundg (N - (k + 1))
                  case measure => have := HG3.out; omega
                  case rel => exact ⟨k + 1, g + 1, rfl, by omega, by go_num, by go_num, by omega, by omega, fun _ => ⟨k, hlt2, by rw [HX.out]; exact hx0, HB.out⟩, rfl⟩
              · have ex : decide (0 < x) = false := by simpa using hx0
                go_wp2_with fail
                go_roundg (N - (k + 1))
                case measure => have := HG3.out; omega
                case rel => exact ⟨k + 1, g, rfl, by omega, by go_num, rfl, hg0, by omega, HGQ.out, rfl⟩
            · by_cases hgm : mo < g
              · have eg : decide (mo < g) = true := by simpa
                go_wp2_with fail
                go_roundg (L.length - (i + 1))
                case measure => have := HGI.out; omega
                case rel => exact ⟨i + 1, g, rfl, by omega, by go_num, rfl, by omega, .inr ⟨i, rfl, hlt, by rw [HTE.out]; exact HGQ.out (by omega)⟩, rfl⟩
              · have eg : decide (mo < g) = false := by simpa using hgm
                go_wp2_with fail
                go_roundg (L.length - (i + 1))
                case measure => have := HGI.out; omega
                case rel => exact ⟨i + 1, mo, rfl, by omega, by go_num, rfl, hmo, HBE.out, rfl⟩
        · obtain rfl : i = L.length := by omega
          rcases HBE.out with rfl | ⟨bi, rfl, hbi, qq, hqq, hqp, hqt⟩
          · have hbel := hg.bel
            go_wp2_with fail
            exact bodyPost_ret (v := .tuple #[.slice none 0 0, .slice none 0 0, .bool false]) (by simp [results, Tryd.results15, go_sem]) rfl ⟨_, _, _, rfl, (fun h => by cases h), hbel⟩
          · have hTl := hg.tl
            have ck := hg.rk.cell (j := bi) (by rw [hTl]; exact hbi)
            have zk := hg.rk.fz bi
            have htb := hg.tb bi hbi
            have hrk' := hg.rk.set_ bi (gi T bi + 1)
            have F0 := Fr.set_ (C := fun b => b = K) (Fr.refl wd) (p := ⟨K, bi, none⟩) (fun _ => rfl) (.int .i64 (gi T bi + 1))
            have hwrp : IntKind.i64.wrap (gi T bi + 1) = gi T bi + 1 := IntWalk.i64_in _ (by omega)
            have ct := HBS.out bi hbi
            have htl := HLL.out bi hbi
            have hcv := fun q => cov_set L T bi q hTl.symm hbi
            have htg := fun i (hi : i < T.length) => gi_set T bi (gi T bi + 1) i hi
            generalize hte : L.getD bi [] = t at ct htl hqt hcv
            have HTE := Lib.hid hte
            have HTL := Lib.hid htl
            have HCV := Lib.hid hcv
            have HTG := Lib.hid htg
            have HQT := Lib.hid hqt
            have HTl := Lib.hid hTl
            clear hte htl hcv htg hqt hTl HBE
            generalize hT1 : T.set bi (gi T bi + 1) = T1 at hrk' HCV HTG
            have hT1l : T1.length = T.length := by rw [← hT1, List.length_set]
            have HT1l := Lib.hid hT1l
            clear hT1 hT1l
            have hKga : ga ≠ K := by omega
            have hKG2 : G ≠ K := by omega
            have hgaG : ga ≠ G := by omega
            have hwK : w.heap.size ≤ K := by omega
            have hwG : w.heap.size ≤ G := by omega
            have hgi := hg.rs.fr F0 hKga
            have hgg := hg.rg.fr F0 hKG2
            have hct1 := F0.cell ct hKga
            have bel1 : Below w.heap.size w (wd.setCell ⟨K, bi, none⟩ (.int .i64 (gi T bi + 1))) := hg.bel.setCell (p := ⟨K, bi, none⟩) hwK _
            generalize hxT : gi T bi = xT at *
            have HXT := Lib.hid hxT
            clear hxT
            have i0 : (0 : Int) ≤ (bi : Int) := by omega
            have i1 : (bi : Int) < (L.length : Int) := by omega
            have i2 : ((bi : Int) < 0) = False := by simp
            have i3 : decide ((bi : Int) < 0) = false := by simp
            clear ct
            go_upto_region 25 with fail
            generalize wd.setCell ⟨K, bi, none⟩ (.int .i64 (xT + 1)) = w5 at *
            clear ck zk F0 hlt
            go_loopg [89] N (fun gk4 s89 wx => ∃ (k : Nat) (L2 : List Int), gk4 = N - k ∧ k ≤ N ∧ s89 = .int .i64 k ∧ L2.length = N ∧ RwK wx G L2 ∧ (∀ x, x < N → gi L2 x = gi Lf x - (if x < k ∧ t.getD x false = true then 1 else 0)) ∧ psum L2 ≤ psum Lf ∧ (qq < k → psum L2 < psum Lf) ∧ Fr (fun b => b = G) w5 wx)
            case atStart => exact ⟨0, Lf, rfl, by omega, rfl, HLf.out, hgg, fun x _ => by simp, Nat.le_refl _, fun h => absurd h (by omega), Fr.refl _⟩
            case round =>
              obtain ⟨k, L2, hgk4, hk, rfl, hl2, hgx, hgi2, hpl, hps, hfx⟩ := hrel
              have HG4 := Lib.hid hgk4
              have HL2 := Lib.hid hl2
              have HGI2 := Lib.hid hgi2
              have HPS := Lib.hid hps
              clear hgk4 hl2 hgi2 hps
              by_cases hlt2 : k < N
              · have hct2 := hfx.cell hct1 hgaG
                have ck := hgx.cell (j := k) (by rw [HL2.out]; exact hlt2)
                have zk := hgx.fz k
                have hgs := fun x (hx : x < N) => gi_set L2 k (gi L2 k - 1) x (by rw [HL2.out]; exact hx)
                have hset := hgx.set_ k (gi L2 k - 1)
                have hpss := psum_set_le L2 k
                have hfx2 := hfx.set_ (p := ⟨G, k, none⟩) (fun _ => rfl) (.int .i64 (gi L2 k - 1))
                have hy := HGI2.out k hlt2
                rw [if_neg (by omega), Int.sub_zero] at hy
                have hlb := hg.lb k hlt2
                have hix := run_at_bts t k (t.getD k false) (by have := HTL.out; rw [List.getD_eq_getElem?_getD]; rw [List.getElem?_eq_getElem (by omega)]; rfl) (by have := HTL.out; omega)
                generalize hβ : t.getD k false = β at hix
                generalize hyy : gi L2 k = y at *
                have hwy : IntKind.i64.wrap (y - 1) = y - 1 := IntWalk.i64_in _ (by omega)
                have hl3 : (L2.set k (y - 1)).length = N := by rw [List.length_set]; exact HL2.out
                have HL3 := Lib.hid hl3
                have HB := Lib.hid hβ
                have HY := Lib.hid hy
                have HYY := Lib.hid hyy
                have HGS := Lib.hid hgs
                have HPSS := Lib.hid hpss
                have hfx2' := hfx
                clear hβ hy hyy hgs hpss hl3 hfx
                cases β with
                | false =>
                  simp only [Bool.false_eq_true, if_false] at hix
                  go_wp2_with fail
                  go_roundg (N - (k + 1))
                  case measure => have := HG4.out; omega
                  case rel => exact ⟨k + 1, L2, rfl, by omega, by go_num, HL2.out, hgx, fun x hx => by
                      rw [HGI2.out x hx]
                      congr 1
                      by_cases e : x = k
                      · subst e; rw [HB.out]; simp
                      · by_cases e2 : x < k
                        · simp [e2, show x < k + 1 by omega]
                        · simp [e2, show ¬ x < k + 1 by omega], hpl, (fun h => by
                      by_cases e : qq < k
                      · exact HPS.out e
                      · have e2 : qq = k := by omega
                        have h1 := HQT.out
                        rw [e2, HB.out] at h1
                        cases h1), hfx2'⟩
                | true =>
                  simp only [if_true] at hix
                  go_wp2_with fail
                  go_roundg (N - (k + 1))
                  case measure => have := HG4.out; omega
                  case rel => exact ⟨k + 1, L2.set k (y - 1), rfl, by omega, by go_num, HL3.out, hset, fun x hx => by
                      rw [HGS.out x hx]
                      by_cases e : x = k
                      · subst e
                        rw [if_pos rfl, if_pos ⟨by omega, HB.out⟩, HY.out]
                      · rw [if_neg e, HGI2.out x hx]
                        congr 1
                        by_cases e2 : x < k
                        · simp [e2, show x < k + 1 by omega]
                        · simp [e2, show ¬ x < k + 1 by omega], Nat.le_trans HPSS.out.1 hpl, (fun h => by
                      by_cases e : qq < k
                      · exact Nat.lt_of_le_of_lt HPSS.out.1 (HPS.out e)
                      · have e2 : qq = k := by omega
                        refine Nat.lt_of_lt_of_le (HPSS.out.2 (by rw [HL2.out]; omega) ?_) hpl
                        rw [HY.out, ← e2]
                        exact hqp), hfx2⟩
              · obtain rfl : k = N := by omega
                have hlt := HPS.out hqq
                have hgr2 : Gr w L k Nd ga K G wr T1 L2 := by
                  refine ⟨hgi.fr hfx hgaG, hrk'.fr hfx (by omega), hgx, by rw [HT1l.out]; exact HTl.out, HL2.out, fun x hx => ?_, fun i hi => ?_, fun x hx => ?_, bel1.trans (hfx.toBelow bel1.size (fun i hi e => by omega))⟩
                  · rw [HGI2.out x hx, HCV.out x, hg.eq x hx]
                    by_cases e : t.getD x false = true
                    · rw [if_pos e, if_pos ⟨hx, e⟩]; omega
                    · rw [if_neg e, if_neg (fun h => e h.2)]; omega
                  · have h1 := hg.tb i hi
                    have h2 := HTG.out i (by rw [HTl.out]; exact hi)
                    rw [h2]
                    have h3 := HXT.out
                    split
                    · omega
                    · omega
                  · have h1 := hg.lb x hx
                    have h2 := HGI2.out x hx
                    rw [h2]
                    split
                    · omega
                    · omega
                go_wp2_with fail
                go_roundg (psum L2)
                case measure => have := HGK.out; omega
                case rel => exact ⟨T1, L2, rfl, hgr2⟩
    · have ex : decide (0 < mx) = false := by simpa using hpos
      have hLe : ∀ q, q < N → gi Lf q ≤ 0 := fun q hq => by have := HM1.out q hq; omega
      have hTl := hg.tl
      have hfin : ∀ q, q < N → gi Nd q ≤ cov L T q := fun q hq => by have h1 := hLe q hq; have h2 := hg.eq q hq; omega
      have htb := hg.tb
      have hbS := fun (i : Nat) (hi : i < L.length) => by have := hg.rs i (by rw [fT_len]; exact hi); rw [gs_fT L i hi, Nat.zero_add] at this; exact this
      have hbT := fun (i : Nat) (hi : i < L.length) => hg.rk.cell (j := i) (by rw [hTl]; exact hi)
      have htk := fun i q (hi : i < L.length) => take_cov L T i q hi (by rw [hTl]; exact hi)
      have HFIN := Lib.hid hfin
      have HTl := Lib.hid hTl
      have HTB := Lib.hid htb
      have HBS := Lib.hid hbS
      have HBT := Lib.hid hbT
      have HTK := Lib.hid htk
      have bel0 := hg.bel
      have hO := OwnS.made wd wd.heap.size (Nat.le_refl _)
      have hO1 := hO.alloc (.cells #[] 2)
      have hC1 := OwnI.made (wd.alloc (.cells #[] 9)) wd.heap.size (by simp)
      have hB1 : Below wd.heap.size wd ((wd.alloc (.cells #[] 9)).alloc (.cells #[] 2)) := ((Below.refl _ _).alloc (Nat.le_refl _) _).alloc (by simp) _
      rw [World.size_alloc] at hC1
      clear hLe hfin hTl htb hbS hbT htk hO HM1 HM2
      have hv1 : Value.slice (some ⟨wd.heap.size, 0, none⟩) 0 0 ≠ .slice none 0 0 := by simp
      have hv2 : Value.slice (some ⟨wd.heap.size + 1, 0, none⟩) 0 0 ≠ .slice none 0 0 := by simp
      go_upto_region 32 with fail
      generalize (wd.alloc (.cells #[] 9)).alloc (.cells #[] 2) = w5 at hO1 hC1 hB1 ⊢
      generalize Value.slice (some ⟨wd.heap.size, 0, none⟩) 0 0 = v1 at hO1 hv1 ⊢
      generalize Value.slice (some ⟨wd.heap.size + 1, 0, none⟩) 0 0 = v2 at hC1 hv2 ⊢
      go_loopg [19, 20, 110] L.length (fun gk5 s19 s20 s110 wx => ∃ (i : Nat) (vs vc : Value) (S : List (List Bool)) (C : List Int), gk5 = L.length - i ∧ i ≤ L.length ∧ s110 = .int .i64 i ∧ vs = s19 ∧ vc = s20 ∧ OwnS wx wd.heap.size vs (fT ByteArray.empty S) ∧ OwnI wx wd.heap.size vc C ∧ vs ≠ .slice none 0 0 ∧ vc ≠ .slice none 0 0 ∧ S.length = C.length ∧ S.length ≤ i ∧ (∀ q, cov S C q = cov (L.take i) (T.take i) q) ∧ (∀ j, j < S.length → (S.getD j []).length = N) ∧ (∀ j, j < C.length → 0 ≤ gi C j ∧ gi C j ≤ 1000) ∧ Below wd.heap.size wd wx)
      case atStart => exact ⟨0, v1, v2, [], [], rfl, by omega, rfl, rfl, rfl, hO1, hC1, hv1, hv2, rfl, Nat.le_refl _, fun q => by simp [cov], (fun j h => absurd h (by simp)), (fun j h => absurd h (by simp)), hB1⟩
      case round =>
        obtain ⟨i, vs, vc, S, C, hgk5, hi, rfl, hvs, hvc, hos, hoc, hns, hnc, hSC, hSi, hcv, hSl, hCb, hbx⟩ := hrel
        subst hvs hvc
        have HG5 := Lib.hid hgk5
        have HSC := Lib.hid hSC
        have HCV := Lib.hid hcv
        have HSL := Lib.hid hSl
        have HCB := Lib.hid hCb
        clear hgk5 hSC hcv hSl hCb
        by_cases hlt : i < L.length
        · have ct0 := HBS.out i hlt
          have cx0 := HBT.out i hlt
          have ct : wr.cell? ⟨ga, i, none⟩ = some (.string (bts (L.getD i []))) := by rw [hbx.cell (lt_of_cell ct0)]; exact ct0
          have cx : wr.cell? ⟨K, i, none⟩ = some (.int .i64 (gi T i)) := by rw [hbx.cell (lt_of_cell cx0)]; exact cx0
          have htl := HLL.out i hlt
          have htb := HTB.out i hlt
          have htk := fun q => HTK.out i q hlt
          generalize L.getD i [] = t at ct htl htk
          generalize gi T i = x at cx htb htk
          have HTKq := Lib.hid htk
          have HTLt := Lib.hid htl
          clear htk htl ct0 cx0
          by_cases hx : 0 < x
          · have hex : decide (0 < x) = true := by simpa
            have hszx := hbx.size
            go_wp2_with (first | (at_builtin; refine wpList_appS rfl _ _ rfl wd.heap.size vs (fT ByteArray.empty S) [bts t] rfl (hos.alloc _) wr.heap.size 0 1 1 rfl rfl (RdS.new1 _ _ _) (by rw [fT_len]; simp; omega) (by simp; omega) ?_; intro v6 w6 hos6 hg6 hn6 hat6; have hC6 := ownKeep (hoc.alloc _) hg6 (own_ne hos hoc); have hsz6 := hg6.size; simp at hsz6) | (at_builtin; refine wpList_app rfl _ _ rfl wd.heap.size vc C [x] rfl (hC6.alloc _) w6.heap.size 0 1 1 rfl rfl (RdI.new1 _ _ _) (by have := HSC.out; simp; omega) (by simp; omega) ?_; intro v7 w7 hoc7 hg7 hn7))
            have hos7 := ownKeep (hos6.alloc _) hg7 (own_ne' hos6 hC6)
            rw [fT_one] at hos7
            have hb6 : Below wd.heap.size wd w6 := (hbx.alloc hszx _).grown hg6 (by simp; omega) (fun k hk => (hos.lt k hk).1)
            have hb7 : Below wd.heap.size wd w7 := (hb6.alloc (by omega) _).grown hg7 (by simp; omega) (fun k hk => (hC6.lt k hk).1)
            have hn6' : v6 ≠ .slice none 0 0 := fun e => hns (hn6.1 e).1
            have hn7' : v7 ≠ .slice none 0 0 := fun e => hnc (hn7.1 e).1
            clear hos hoc hos6 hC6 hg6 hg7 hn6 hn7 hat6 hb6
            go_wp2_with fail
            go_roundg (L.length - (i + 1))
            case measure => have := HG5.out; omega
            case rel => exact ⟨i + 1, v6, v7, S ++ [t], C ++ [x], rfl, by omega, by go_num, rfl, rfl, hos7, hoc7, hn6', hn7', by have := HSC.out; simp; omega, by simp; omega, (fun q => by rw [cov_snoc _ _ _ _ _ HSC.out, HCV.out q, HTKq.out q]), (fun j hj => by
                simp at hj
                by_cases h : j < S.length
                · have e : (S ++ [t]).getD j [] = S.getD j [] := by simp [List.getElem?_append_left h]
                  rw [e]; exact HSL.out j h
                · have e : (S ++ [t]).getD j [] = t := by
                    obtain rfl : j = S.length := by omega
                    simp
                  rw [e]; exact HTLt.out), (fun j hj => by
                simp at hj
                by_cases h : j < C.length
                · rw [gi_app_l _ _ _ h]; exact HCB.out j h
                · obtain rfl : j = C.length := by omega
                  rw [gi_app_r]; omega), hb7⟩
          · have hex : decide (0 < x) = false := by simpa using hx
            go_wp2_with fail
            go_roundg (L.length - (i + 1))
            case measure => have := HG5.out; omega
            case rel => exact ⟨i + 1, vs, vc, S, C, rfl, by omega, by go_num, rfl, rfl, hos, hoc, hns, hnc, HSC.out, by omega, (fun q => by rw [HCV.out q, HTKq.out q]; split <;> omega), HSL.out, HCB.out, hbx⟩
        · obtain rfl : i = L.length := by omega
          have hlast : ∀ q, q < N → gi Nd q ≤ cov S C q := fun q hq => by
            have h1 := HCV.out q
            rw [List.take_of_length_le (Nat.le_refl _), List.take_of_length_le (by rw [HTl.out]; omega)] at h1
            rw [h1]
            exact HFIN.out q hq
          have HLAST := Lib.hid hlast
          have belf : Below w.heap.size w wr := bel0.trans (hbx.mono bel0.size)
          have hns' : NewS wr w.heap.size vs (fT ByteArray.empty S) := by
            obtain ⟨g, c, h1, h2, h3, h4⟩ := hos.new hns
            exact ⟨g, c, h1, by have := bel0.size; omega, h3, h4⟩
          have hnc' : NewI wr w.heap.size vc C := by
            obtain ⟨g, c, h1, h2, h3, h4⟩ := hoc.new hnc
            exact ⟨g, c, h1, by have := bel0.size; omega, h3, h4⟩
          clear hlast
          go_wp2_with fail
          exact bodyPost_ret (v := .tuple #[vs, vc, .bool true]) (by simp [results, Tryd.results15, go_sem]) rfl ⟨_, _, _, rfl, (fun _ => ⟨S, C, HSC.out, by omega, hns', hnc', HSL.out, HCB.out, HLAST.out⟩), belf⟩
end Go.Proofs.YteiofihgpalkiaaDoor
