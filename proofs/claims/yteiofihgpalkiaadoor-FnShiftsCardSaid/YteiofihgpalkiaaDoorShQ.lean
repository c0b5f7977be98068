/- The walk of the law of shifts. -/
import Derived.Test.YteiofihgpalkiaaDoorShR
import Derived.Deep.RegionHeld3
import Derived.Deep.QuietTactic
import Derived.BigQuiet
namespace Go.Proofs.YteiofihgpalkiaaDoor
open Go Go.RowKit
set_option maxRecDepth 100000

set_option maxHeartbeats 4000000 in
theorem shifts_short (A B : Option Addr) (n c m d : Nat) (w : World) (hA : Byt w A n) (hB : Byt w B m) (hn : n ≤ 48) (hm : m ≤ 48) :
    Calls Tryd.prog 3 #[.slice A n c, .slice B m d] w fun e w' => e = .returned (.bool true) ∧ Below w.heap.size w w' := by
  have c0 := r8Long_false A B n c m d w hn hm
  go_enter Tryd.func3, Tryd.ntmps3
  go_wp2_with fail
  refine c0.mono ?_
  rintro e w' ⟨rfl, rfl⟩
  go_wp2_with fail
  refine (r8Rule_any A n c w hA (by omega)).mono ?_
  rintro e w1 ⟨r, rfl, hr, hb1⟩
  clear c0
  have hN := hr.s1
  have hN8 := hr.s8
  obtain ⟨N, hNr⟩ : ∃ N : Nat, (N : Int) = r.slots := ⟨r.slots.toNat, by omega⟩
  have hrc : r.cell = .agg #[.int .i64 r.slots, .int .i64 r.least, .int .i64 r.most, .int .i64 r.row, .int .i64 r.pause] := rfl
  rw [hrc]
  clear hrc
  have R1 := Rw.new w1 25 #[.int .i64 r.slots, .int .i64 r.least, .int .i64 r.most, .int .i64 r.row, .int .i64 r.pause]
  have W1 := hb1.alloc hb1.size (.cells #[.int .i64 r.slots, .int .i64 r.least, .int .i64 r.most, .int .i64 r.row, .int .i64 r.pause] 25)
  have hwD := hb1.size
  clear hb1
  go_upto_region 4 with fail
  generalize w1.alloc (.cells #[.int .i64 r.slots, .int .i64 r.least, .int .i64 r.most, .int .i64 r.row, .int .i64 r.pause] 25) = w2 at R1 W1 ⊢
  generalize w1.heap.size = D at *
  have f0 := R1.cell 0
  have f1 := R1.cell 1
  have f2 := R1.cell 2
  have f3 := R1.cell 3
  have f4 := R1.cell 4
  simp at f0 f1 f2 f3 f4
  have cc := fun w => countShifts_any r hr w
  have cf := fun k hk w => firstShifts_any r hr k hk w
  unfold SR.cell at cc cf
  have CC := Lib.hid cc
  have CF := Lib.hid cf
  clear cc cf
  go_wp2_with fail
  (with_reducible refine (CC.out _).mono ?_)
  rintro e w3 ⟨rfl, hb3⟩
  have R3 := R1.below hb3
  have W3 := W1.trans (hb3.mono W1.size)
  clear f0 f1 f2 f3 f4 hb3 R1 W1
  have f0 := R3.cell 0
  have f1 := R3.cell 1
  have f2 := R3.cell 2
  have f3 := R3.cell 3
  have f4 := R3.cell 4
  simp at f0 f1 f2 f3 f4
  have cf64 := fun w => CF.out 64 (by omega) w
  have e64 : ((64 : Nat) : Int) = 64 := rfl
  rw [e64] at cf64
  have CF64 := Lib.hid cf64
  clear cf64 e64
  go_wp2_with fail
  (with_reducible refine (CF64.out _).mono ?_)
  rintro e w4 ⟨vl, rfl, hvl, hb4⟩
  obtain ⟨gl, cl, rfl, hgl1, hgl, hrl⟩ := hvl
  have R4 := R3.below hb4
  have W4 := W3.trans (hb4.mono W3.size)
  clear f0 f1 f2 f3 f4 hb4 R3 W3
  have f0 := R4.cell 0
  have f1 := R4.cell 1
  have f2 := R4.cell 2
  have f3 := R4.cell 3
  have f4 := R4.cell 4
  simp at f0 f1 f2 f3 f4
  have hB4 := hB.bel W4
  have ca := fun wx (h : Byt wx B m) => r8At_any B m d 40 20 wx h (by omega) (by omega) (by omega) (by omega)
  have CA := Lib.hid ca
  clear ca
  go_upto_region 6 with fail
  go_region_held3 (fun w' => w'.cell? ⟨D, 0, none⟩ = some (.int .i64 r.slots) ∧ w'.cell? ⟨D, 1, none⟩ = some (.int .i64 r.least) ∧ w'.cell? ⟨D, 2, none⟩ = some (.int .i64 r.most) ∧ w'.cell? ⟨D, 3, none⟩ = some (.int .i64 r.row) ∧ w'.cell? ⟨D, 4, none⟩ = some (.int .i64 r.pause)) (((try dsimp only); (try simp only [World.cell?_drew]); (first | with_reducible exact ⟨f0, f1, f2, f3, f4⟩ | with_reducible exact ⟨HK.out _ _ f0, HK.out _ _ f1, HK.out _ _ f2, HK.out _ _ f3, HK.out _ _ f4⟩))) ((first | (go_at_call 8; refine (CA.out _ (show Byt w4.drew B m from hB4)).mono ?_; rintro e wx ⟨x, rfl, hx0, hx1, rfl⟩; obtain ⟨k20, hk20⟩ : ∃ k : Nat, (k : Int) = x := ⟨x.toNat, by omega⟩; have CFk := CF.out k20 (by omega) w4.drew; rw [hk20] at CFk; have CFK := Lib.hid CFk; have HK20 := Lib.hid hk20; clear CFk hk20) | (go_at_call 7; refine CFK.out.mono ?_; rintro e w5 ⟨vp, rfl, hvp, hb5⟩; have hk : ∀ (p : Addr) (u : Value), w4.cell? p = some u → w5.cell? p = some u := fun p u hc => (hb5.cell (lt_of_cell hc)).trans hc; have HK := Lib.hid hk; clear hk)))
  obtain ⟨gp, cp, rfl, hgp1, hgp, hrp⟩ := hvp
  have hb5 : Below w4.heap.size w4 w5 := ⟨hb5.os, hb5.tape, hb5.output, hb5.size, hb5.block⟩
  have R5 := R4.below hb5
  have W5 := W4.trans (hb5.mono W4.size)
  have hrl5 := hrl.below hb5
  have hgl5 : gl < w5.heap.size := Nat.lt_of_lt_of_le hgl hb5.size
  clear f0 f1 f2 f3 f4 hb5 R4 W4 hrl HK CA hB4
  have f0 := R5.cell 0
  have f1 := R5.cell 1
  have f2 := R5.cell 2
  have f3 := R5.cell 3
  have f4 := R5.cell 4
  simp at f0 f1 f2 f3 f4
  have hB5 := hB.bel W5
  have ca := fun wx (h : Byt wx B m) => r8At_any B m d 41 8 wx h (by omega) (by omega) (by omega) (by omega)
  have hB5a : Byt (w5.alloc (.cells #[.int .i64 r.slots, .int .i64 r.least, .int .i64 r.most, .int .i64 r.row, .int .i64 r.pause] 25)) B m := hB5.bel ((Below.refl _ _).alloc (Nat.le_refl _) _)
  have hRw := Rw.new w5 25 #[.int .i64 r.slots, .int .i64 r.least, .int .i64 r.most, .int .i64 r.row, .int .i64 r.pause]
  have cs := fun k h1 h8 => countsShared_any r hr w5.heap.size 1 k h1 h8 (w5.alloc (.cells #[.int .i64 r.slots, .int .i64 r.least, .int .i64 r.most, .int .i64 r.row, .int .i64 r.pause] 25)).drew hRw
  have CA := Lib.hid ca
  have CS := Lib.hid cs
  clear ca cs
  go_wp2_with fail
  go_upto_region 7 with fail
  go_cut [12, 13] from 55 to 63 (fun s12 s13 wx => ∃ gs cs, s12 = .slice (some ⟨gs, 0, none⟩) 1 cs ∧ s13 = .bool true ∧ wx.cell? ⟨gs, 0, none⟩ = some (.int .i64 ((all r).length : Nat)) ∧ gs < wx.heap.size ∧ Below w5.heap.size w5 wx)
  case first =>
    go_region_held3 (fun w' => w'.cell? ⟨D, 0, none⟩ = some (.int .i64 r.slots) ∧ w'.cell? ⟨D, 1, none⟩ = some (.int .i64 r.least) ∧ w'.cell? ⟨D, 2, none⟩ = some (.int .i64 r.most) ∧ w'.cell? ⟨D, 3, none⟩ = some (.int .i64 r.row) ∧ w'.cell? ⟨D, 4, none⟩ = some (.int .i64 r.pause)) (((try dsimp only); (try simp only [World.cell?_drew]); (first | with_reducible exact ⟨f0, f1, f2, f3, f4⟩ | with_reducible exact ⟨cellAlloc _ f0, cellAlloc _ f1, cellAlloc _ f2, cellAlloc _ f3, cellAlloc _ f4⟩ | with_reducible exact ⟨HK.out _ _ f0, HK.out _ _ f1, HK.out _ _ f2, HK.out _ _ f3, HK.out _ _ f4⟩))) ((first | (go_at_call 8; refine (CA.out _ (by first | (show Byt w5.drew B m; exact hB5) | (show Byt (w5.alloc _).drew B m; exact hB5a))).mono ?_; rintro e wx ⟨y, rfl, hy0, hy1, rfl⟩; have hwy : IntKind.i64.wrap (1 + y) = 1 + y := IntWalk.i64_in _ (by omega); have CSk := CS.out (1 + y) (by omega) (by omega)) | (go_at_call 9; refine CSk.mono ?_; rintro e w6 ⟨vs, rfl, hvs, hb6⟩; have hk : ∀ (p : Addr) (u : Value), w5.cell? p = some u → w6.cell? p = some u := fun p u hc => (hb6.cell (Nat.lt_of_lt_of_le (lt_of_cell hc) (by show w5.heap.size ≤ (w5.alloc _).heap.size; simp))).trans (cellAlloc _ hc); have HK := Lib.hid hk; clear hk)))
    all_goals (go_wp2_with fail; go_meet; obtain ⟨gs, cs, rfl, hgs1, hgs, hrs⟩ := hvs; exact ⟨gs, cs, rfl, rfl, (by have := hrs 0 (by simp); simpa [gi] using this), hgs, ((Below.refl w5.heap.size w5).alloc (Nat.le_refl _) _).trans (Below.mono (show Below (w5.alloc _).heap.size (w5.alloc _) w6 from ⟨hb6.os, hb6.tape, hb6.output, hb6.size, hb6.block⟩) (by simp))⟩)
  case rest =>
    obtain ⟨gs, cs, rfl, rfl, hcs, hgs, hb6⟩ := hcut
    have R6 := R5.below hb6
    have W6 := W5.trans (hb6.mono W5.size)
    have hrl6 := hrl5.below hb6
    have hrp6 := hrp.below hb6
    clear f0 f1 f2 f3 f4 hb6 R5 W5 hrl5 hrp hRw CA CS hB5 hB5a
    have f0 := R6.cell 0
    have f1 := R6.cell 1
    have f2 := R6.cell 2
    have f3 := R6.cell 3
    have f4 := R6.cell 4
    simp at f0 f1 f2 f3 f4
    have hv := fun w => validRule_true r hr w
    unfold SR.cell at hv
    have HV := Lib.hid hv
    clear hv
    have hal := all_le hr
    have hmn : (((fT ByteArray.empty ((all r).take 64)).length : Int) != min 64 ((all r).length : Int)) = false := by
      rw [fT_len, List.length_take]
      simp
      omega
    have hneg : decide (((all r).length : Int) < 0) = false := by simp
    go_wp2_with fail
    (with_reducible refine (HV.out _).mono ?_)
    rintro e w7 ⟨rfl, hb7⟩
    have hcs7 : w7.cell? ⟨gs, 0, none⟩ = some (.int .i64 ((all r).length : Nat)) := by rw [hb7.cell (lt_of_cell hcs)]; exact hcs
    have R7 := R6.below hb7
    have W7 := W6.trans (hb7.mono W6.size)
    have hrl7 := hrl6.below hb7
    have hrp7 := hrp6.below hb7
    clear f0 f1 f2 f3 f4 hb7 R6 W6 hrl6 hrp6 HV hcs
    have hLW : LW w w7 r D gl gp k20 := ⟨R7, hrl7, hrp7, W7⟩
    go_upto_region 11 with fail
    rw [fT_len, fT_len]
    clear R7 W7 hrl7 hrp7 hcs7 hmn hneg hgs hgp hgp1 hgl hgl1 hgl5
    have hP : ((all r).take 64).length = min 64 (all r).length := List.length_take
    have hQ : ((all r).take k20).length = min k20 (all r).length := List.length_take
    have hlw1 := fun wx (h : LW w wx r D gl gp k20) i hi => h.list i hi
    have hlw2 := fun wx (h : LW w wx r D gl gp k20) i hi => h.part i hi
    have hlf := fun i hi => law_facts r N hNr i hi
    have hcnt := cnt_all r N hNr
    have hk20 : k20 ≤ 19 := by have := HK20.out; omega
    generalize ((all r).take 64).length = P at *
    generalize ((all r).take k20).length = Q at *
    generalize hL : all r = L at *
    generalize hZ : L.length = Z at *
    have hPZ : P ≤ Z := by omega
    have hQP : Q ≤ P := by omega
    have hP64 : P ≤ 64 := by omega
    have hPZ2 : P = 64 ∨ P = Z := by omega
    have HL := Lib.hid hL
    have HZ := Lib.hid hZ
    have HL1 := Lib.hid hlw1
    have HL2 := Lib.hid hlw2
    have HLF := Lib.hid hlf
    have HCNT := Lib.hid hcnt
    have HNR := Lib.hid hNr
    clear hL hZ hlw1 hlw2 hlf hcnt hNr hP hQ
    go_loopg [14] P (fun gk s14 wx => ∃ i : Nat, gk = P - i ∧ i ≤ P ∧ s14 = .int .i64 i ∧ LW w wx r D gl gp k20)
    case atStart => exact ⟨0, rfl, by omega, rfl, hLW⟩
    case round =>
      clear hLW
      obtain ⟨i, hgk, hi, rfl, hLW⟩ := hrel
      have HG := Lib.hid hgk
      clear hgk
      by_cases hlt : i < P
      · obtain ⟨htl, hta, hts, hto⟩ := HLF.out i (by omega)
        have ct := HL1.out _ hLW i hlt
        have cis := fun w => isShift_any r hr (L.getD i []) (by rw [htl]; exact HNR.out) w
        have cnx := fun w => nextShift_any r hr (L.getD i []) (by rw [htl]; exact HNR.out) hta w
        rw [hta] at cis
        simp only [hts] at cnx
        unfold SR.cell at cis cnx
        generalize hte : L.getD i [] = t at ct htl hto cis cnx
        have CIS := Lib.hid cis
        have CNX := Lib.hid cnx
        have HTE := Lib.hid hte
        have HTL := Lib.hid htl
        have HTO := Lib.hid hto
        clear cis cnx htl hto hta hts hte
        have f0 := hLW.box.cell 0
        have f1 := hLW.box.cell 1
        have f2 := hLW.box.cell 2
        have f3 := hLW.box.cell 3
        have f4 := hLW.box.cell 4
        simp at f0 f1 f2 f3 f4
        go_upto_region 13 with fail
        go_region_held3 (fun w' => w'.cell? ⟨D, 0, none⟩ = some (.int .i64 r.slots) ∧ w'.cell? ⟨D, 1, none⟩ = some (.int .i64 r.least) ∧ w'.cell? ⟨D, 2, none⟩ = some (.int .i64 r.most) ∧ w'.cell? ⟨D, 3, none⟩ = some (.int .i64 r.row) ∧ w'.cell? ⟨D, 4, none⟩ = some (.int .i64 r.pause) ∧ w'.cell? ⟨gl, i, none⟩ = some (.string (bts t))) (((try dsimp only); (try simp only [World.cell?_drew]); (first | with_reducible exact ⟨f0, f1, f2, f3, f4, ct⟩ | with_reducible exact ⟨HK.out _ _ f0, HK.out _ _ f1, HK.out _ _ f2, HK.out _ _ f3, HK.out _ _ f4, HK.out _ _ ct⟩))) ((go_at_call 11; refine (CIS.out wr.drew).mono ?_; rintro e w8 ⟨rfl, hb8⟩; have hk : ∀ (p : Addr) (u : Value), wr.cell? p = some u → w8.cell? p = some u := fun p u hc => (hb8.cell (lt_of_cell hc)).trans hc; have HK := Lib.hid hk; clear hk))
        have hb8 : Below wr.heap.size wr w8 := ⟨hb8.os, hb8.tape, hb8.output, hb8.size, hb8.block⟩
        have hLW := hLW.next hb8
        clear f0 f1 f2 f3 f4 ct hb8 HK CIS
        have ct := HL1.out _ hLW i hlt
        rw [HTE.out] at ct
        have hi0 : (0 : Int) ≤ (i : Int) := by omega
        have hiP : (i : Int) < (P : Int) := by omega
        have hcmp : i = 0 ∨ (0 < i ∧ ∃ u, w8.cell? ⟨gl, i - 1, none⟩ = some (.string (bts u)) ∧ (Op.bytesLess (bts t).toList (bts u).toList || (bts t).toList == (bts u).toList) = false) := by
          by_cases h : i = 0
          · exact .inl h
          · refine .inr ⟨by omega, L.getD (i - 1) [], HL1.out _ hLW (i - 1) (by omega), leq_false (HTO.out (i - 1) (by omega))⟩
        have hprt : Q ≤ i ∨ (i < Q ∧ w8.cell? ⟨gp, i, none⟩ = some (.string (bts t))) := by
          by_cases h : i < Q
          · refine .inr ⟨h, ?_⟩
            have := HL2.out _ hLW i h
            rw [HTE.out] at this
            exact this
          · exact .inl (by omega)
        have hneq : ((bts t).toList != (bts t).toList) = false := by simp
        go_wp2_with fail
        go_upto_region 14 with fail
        go_cut [159] from 106 to 195 (fun s159 wx => s159 = .bool false ∧ LW w wx r D gl gp k20)
        case first =>
          rcases hcmp with hz | ⟨hz, u, hcu, hlq⟩
          · have eg : decide (0 < i) = false := by simp; omega
            clear hz
            rcases hprt with hq | ⟨hq, hcq⟩
            · have eq : decide (i < Q) = false := by simp; omega
              go_quiet (fail)
              go_wp2_with fail
              go_meet
              exact ⟨rfl, hLW.drewN _⟩
            · have eq : decide (i < Q) = true := by simp; omega
              have hiQ : (i : Int) < (Q : Int) := by omega
              go_quiet (fail)
              go_wp2_with fail
              go_meet
              exact ⟨rfl, hLW.drewN _⟩
          · have eg : decide (0 < i) = true := by simp; omega
            have hw1 : IntKind.i64.wrap ((i : Int) - 1) = (i : Int) - 1 := IntWalk.i64_in _ (by omega)
            have hn1 : ((i : Int) - 1).toNat = i - 1 := by omega
            have hb0 : (0 : Int) ≤ (i : Int) - 1 := by omega
            have hb1 : (1 : Int) ≤ (i : Int) := by omega
            have hb2 : (i : Int) - 1 < (P : Int) := by omega
            rcases hprt with hq | ⟨hq, hcq⟩
            · have eq : decide (i < Q) = false := by simp; omega
              go_quiet (fail)
              go_wp2_with fail
              go_meet
              exact ⟨rfl, hLW.drewN _⟩
            · have eq : decide (i < Q) = true := by simp; omega
              have hiQ : (i : Int) < (Q : Int) := by omega
              go_quiet (fail)
              go_wp2_with fail
              go_meet
              exact ⟨rfl, hLW.drewN _⟩
        case rest =>
          obtain ⟨rfl, hLW⟩ := hcut
          have ct := HL1.out _ hLW i hlt
          rw [HTE.out] at ct
          have f0 := hLW.box.cell 0
          have f1 := hLW.box.cell 1
          have f2 := hLW.box.cell 2
          have f3 := hLW.box.cell 3
          have f4 := hLW.box.cell 4
          simp at f0 f1 f2 f3 f4
          clear hcmp hprt hneq
          go_wp2_with fail
          go_upto_region 16 with fail
          go_region_held3 (fun w' => w'.cell? ⟨D, 0, none⟩ = some (.int .i64 r.slots) ∧ w'.cell? ⟨D, 1, none⟩ = some (.int .i64 r.least) ∧ w'.cell? ⟨D, 2, none⟩ = some (.int .i64 r.most) ∧ w'.cell? ⟨D, 3, none⟩ = some (.int .i64 r.row) ∧ w'.cell? ⟨D, 4, none⟩ = some (.int .i64 r.pause) ∧ w'.cell? ⟨gl, i, none⟩ = some (.string (bts t))) (((try dsimp only); (try simp only [World.cell?_drew]); (first | with_reducible exact ⟨f0, f1, f2, f3, f4, ct⟩ | with_reducible exact ⟨HK.out _ _ f0, HK.out _ _ f1, HK.out _ _ f2, HK.out _ _ f3, HK.out _ _ f4, HK.out _ _ ct⟩))) ((go_at_call 12; refine (CNX.out wc.drew).mono ?_; rintro e w9 ⟨⟨x, rfl, hxu⟩, hb9⟩; have hk : ∀ (p : Addr) (u : Value), wc.cell? p = some u → w9.cell? p = some u := fun p u hc => (hb9.cell (lt_of_cell hc)).trans hc; have HK := Lib.hid hk; clear hk))
          have hb9 : Below wc.heap.size wc w9 := ⟨hb9.os, hb9.tape, hb9.output, hb9.size, hb9.block⟩
          have hLW := hLW.next hb9
          clear f0 f1 f2 f3 f4 ct hb9 HK CNX
          have hwi : IntKind.i64.wrap ((i : Int) + 1) = (i : Int) + 1 := IntWalk.i64_in _ (by omega)
          have hni : ((i : Int) + 1).toNat = i + 1 := by omega
          have hi1 : (0 : Int) ≤ (i : Int) + 1 := by omega
          by_cases hl1 : i + 1 < P
          · have hsome : L[i + 1]? = some (L.getD (i + 1) []) := by
              have : i + 1 < L.length := by rw [HZ.out]; omega
              simp [this]
            have cn := HL1.out _ hLW (i + 1) hl1
            generalize L.getD (i + 1) [] = u at hsome cn
            have hxe := hxu u hsome
            rw [hsome]
            subst hxe
            have e1 : decide (i + 1 < P) = true := by simpa
            have e1' : decide ((i : Int) + 1 < (P : Int)) = true := by simp; omega
            have e2 : ((bts u).toList != (bts u).toList) = false := by simp
            have e3 : ((i : Int) + 1 == (Z : Int)) = false := by simp; omega
            have hi2 : (i : Int) + 1 < (P : Int) := by omega
            simp only [Option.isSome_some]
            clear hxu hsome
            go_wp2_with fail
            go_roundg (P - (i + 1))
            case measure => have := HG.out; omega
            case rel => exact ⟨i + 1, rfl, by omega, by go_num, hLW⟩
          · have e1 : decide (i + 1 < P) = false := by simpa using hl1
            have e1' : decide ((i : Int) + 1 < (P : Int)) = false := by simp; omega
            by_cases hz : i + 1 = Z
            · have hnone : L[i + 1]? = none := by
                apply List.getElem?_eq_none
                rw [HZ.out]; omega
              rw [hnone]
              have e3 : ((i : Int) + 1 == (Z : Int)) = true := by simp; omega
              simp only [Option.isSome_none]
              clear hxu hnone
              go_wp2_with fail
              go_roundg (P - (i + 1))
              case measure => have := HG.out; omega
              case rel => exact ⟨i + 1, rfl, by omega, by go_num, hLW⟩
            · have e3 : ((i : Int) + 1 == (Z : Int)) = false := by simp; omega
              clear hxu
              go_wp2_with fail
              go_roundg (P - (i + 1))
              case measure => have := HG.out; omega
              case rel => exact ⟨i + 1, rfl, by omega, by go_num, hLW⟩
      · obtain rfl : i = P := by omega
        go_upto_region 21 with fail
        generalize hp : (fun x => acc r (bitsOf N x) ⟨0, 0, 0, 0, false⟩) = p at *
        have HPd := Lib.hid hp
        have HNle := Lib.hid (show N ≤ 8 by have := HNR.out; omega)
        have HN1 := Lib.hid (show 1 ≤ N by have := HNR.out; omega)
        have HC0 := Lib.hid (show (cnt p 0 : Nat) = 0 from rfl)
        clear hp
        have hM : ∃ M : Nat, 2 ^ N = M ∧ wrap64 (2 ^ min (IntKind.u64.wrap (N : Int)).toNat 64) = (M : Int) ∧ M ≤ 256 := by
          have h1 := HNR.out
          exact ⟨_, rfl, shl_fact N (by omega) (by omega), two_pow_le N (by omega)⟩
        obtain ⟨M, hM, hsh, hM256⟩ := hM
        have HM := Lib.hid hM
        clear hM
        go_loopg [19, 20] M (fun gk s19 s20 wx => ∃ x : Nat, gk = M - x ∧ x ≤ M ∧ s20 = .int .i64 x ∧ s19 = .int .i64 (cnt p x : Nat) ∧ LW w wx r D gl gp k20)
        case atStart => exact ⟨0, rfl, Nat.zero_le _, rfl, by rw [HC0.out]; rfl, hLW⟩
        case round =>
          clear hLW
          obtain ⟨x, hgk, hx, rfl, rfl, hLW⟩ := hrel
          have HG := Lib.hid hgk
          clear hgk
          have f0 := hLW.box.cell 0
          have f1 := hLW.box.cell 1
          have f2 := hLW.box.cell 2
          have f3 := hLW.box.cell 3
          have f4 := hLW.box.cell 4
          simp at f0 f1 f2 f3 f4
          rw [← HNR.out] at f0
          have hcl := cnt_le p x
          by_cases hlx : x < M
          · have hbl := bitsOf_len N x
            have hbg := fun k hk => bitsOf_get N x k hk
            generalize hT : bitsOf N x = t at hbl hbg
            have HTX := Lib.hid hT
            have HBG := Lib.hid hbg
            have HBL := Lib.hid hbl
            have hb0 : bts (t.take 0) = ⟨#[]⟩ := rfl
            have HB0 := Lib.hid hb0
            clear hT hbg hbl hb0
            go_upto_region 25 with fail
            clear hsh
            obtain ⟨wo, rfl⟩ : ∃ wo : World, wo = wr := ⟨_, rfl⟩
            go_loopg [21, 22] N (fun gk2 s21 s22 wx => ∃ k : Nat, gk2 = N - k ∧ k ≤ N ∧ s22 = .int .i64 k ∧ s21 = .string (bts (t.take k)) ∧ wo = wx)
            case atStart => exact ⟨0, rfl, by omega, rfl, by rw [HB0.out], rfl⟩
            case round =>
              obtain ⟨k, hgk2, hk, rfl, rfl, rfl⟩ := hrel
              have HG2 := Lib.hid hgk2
              clear hgk2
              by_cases hlk : k < N
              · have hbit := bit_all k (by have := HNR.out; omega) x (by omega)
                have hbit2 := bit_all2 k (by have := HNR.out; omega) x (by omega)
                have hget := HBG.out k hlk
                have hkt : k < t.length := by rw [HBL.out]; exact hlk
                have hsn := bts_snoc t k hkt
                have hgk : t[k] = (x / 2 ^ k % 2 == 1) := by
                  rw [List.getElem?_eq_getElem hkt] at hget
                  injection hget
                rw [hgk] at hsn
                have hts : (bts (t.take k)).size = k := by rw [bts_size, List.length_take]; omega
                have hk9 : ¬ 9223372036854775807 < k + 1 := by have := HNle.out; omega
                generalize (x / 2 ^ k % 2 == 1) = β at hbit hbit2 hsn
                have HSN := Lib.hid hsn
                clear hget hgk hsn
                cases β with
                | true =>
                  go_wp2_with fail
                  go_roundg (N - (k + 1))
                  case measure => have := HG2.out; omega
                  case rel => exact ⟨k + 1, rfl, by omega, by go_num, by rw [HSN.out]; rfl, rfl⟩
                | false =>
                  go_wp2_with fail
                  go_roundg (N - (k + 1))
                  case measure => have := HG2.out; omega
                  case rel => exact ⟨k + 1, rfl, by omega, by go_num, by rw [HSN.out]; rfl, rfl⟩
              · obtain rfl : k = N := by omega
                rw [List.take_of_length_le (by rw [HBL.out]; omega)]
                have cis := fun w => isShift_any r hr t (by rw [HBL.out]; exact HNR.out) w
                have crs := fun w => r8Shift_any r hr t (by rw [HBL.out]; have := HNR.out; omega) w
                have hbf := bits_facts r hr k HNR.out t HBL.out
                rw [hbf] at crs
                have hpx : acc r t ⟨0, 0, 0, 0, false⟩ = p x := by rw [← HPd.out]; show acc r t _ = acc r (bitsOf k x) _; rw [HTX.out]
                rw [hpx] at cis crs
                have hcs : (cnt p (x + 1) : Nat) = cnt p x + (if p x then 1 else 0) := rfl
                unfold SR.cell at cis crs
                rw [← HNR.out] at cis crs
                generalize p x = β at cis crs hcs
                have CIS := Lib.hid cis
                have CRS := Lib.hid crs
                have HCS := Lib.hid hcs
                clear cis crs hbf hpx hcs
                go_wp2_with fail
                (with_reducible refine (CIS.out _).mono ?_)
                rintro e wa ⟨rfl, hba⟩
                have hLW := hLW.next hba
                clear f0 f1 f2 f3 f4 hba
                have f0 := hLW.box.cell 0
                have f1 := hLW.box.cell 1
                have f2 := hLW.box.cell 2
                have f3 := hLW.box.cell 3
                have f4 := hLW.box.cell 4
                simp at f0 f1 f2 f3 f4
                rw [← HNR.out] at f0
                go_wp2_with fail
                (with_reducible refine (CRS.out _).mono ?_)
                rintro e wb ⟨rfl, hbb⟩
                have hLW := hLW.next hbb
                clear f0 f1 f2 f3 f4 hbb
                cases β with
                | true =>
                  go_wp2_with fail
                  go_roundg (M - (x + 1))
                  case measure => have := HG.out; omega
                  case rel => exact ⟨x + 1, rfl, by omega, by go_num, by rw [HCS.out]; go_num, hLW⟩
                | false =>
                  go_wp2_with fail
                  go_roundg (M - (x + 1))
                  case measure => have := HG.out; omega
                  case rel => exact ⟨x + 1, rfl, by omega, by go_num, by rw [HCS.out]; rfl, hLW⟩
          · have hxM : x = M := by omega
            have hcz : cnt p x = Z := by rw [hxM, ← HM.out]; exact HCNT.out
            rw [hcz]
            have hzz : ((Z : Int) != (Z : Int)) = false := by simp
            have hlx2 : decide (x < M) = false := by simpa using hlx
            clear hcz hcl hxM hlx hx
            have HSH := Lib.hid hsh
            have hB8 := hB.bel hLW.bel
            have cbl := r8Below_any B m d N 4 (by have := HNle.out; omega) (by omega) (by omega) wr hB8 (by omega)
            have CBL := Lib.hid cbl
            clear cbl hB8
            go_wp2_with fail
            (with_reducible refine CBL.out.mono ?_)
            rintro e wa ⟨vn, ln, rfl, hln, hnb, hnw, hba⟩
            have hLWa := hLW.next hba
            obtain ⟨gn, cn, rfl, hgn1, hgn, hrn⟩ := hnw
            rw [hln]
            clear hba hLW f0 f1 f2 f3 f4 CBL hsh
            have f0 := hLWa.box.cell 0
            have f1 := hLWa.box.cell 1
            have f2 := hLWa.box.cell 2
            have f3 := hLWa.box.cell 3
            have f4 := hLWa.box.cell 4
            simp at f0 f1 f2 f3 f4
            rw [← HNR.out] at f0
            have cg := greedy_any r hr ln N hln HNR.out (fun j hj => by have := hnb j hj; omega) gn cn wa hrn
            unfold SR.cell at cg
            rw [← HNR.out] at cg
            have CG := Lib.hid cg
            have HNB := Lib.hid hnb
            have HLN := Lib.hid hln
            clear cg hnb hln
            go_wp2_with fail
            (with_reducible refine CG.out.mono ?_)
            rintro e wb ⟨vs, vc, ok, rfl, hcov, hbb⟩
            have hLWb := hLWa.next hbb
            have hrn2 := hrn.below hbb
            have bel := hLWb.bel
            clear hbb hLWa f0 f1 f2 f3 f4 CG hrn
            cases ok with
            | false =>
              clear hcov
              go_wp2_with fail
              go_ret
              exact ⟨rfl, bel⟩
            | true =>
              obtain ⟨S, C, hSC, hS64, hns, hnc, hSl, hCb, hcv⟩ := hcov rfl
              obtain ⟨g1, c1, rfl, _, hg1, hrs⟩ := hns
              obtain ⟨g2, c2, rfl, _, hg2, hrc⟩ := hnc
              rw [fT_len, ← hSC]
              have HSC := Lib.hid hSC
              have HSL := Lib.hid hSl
              have HCB := Lib.hid hCb
              have HCV := Lib.hid hcv
              clear hSC hSl hCb hcv
              have hcn : ∀ k, k < N → wb.cell? ⟨gn, k, none⟩ = some (.int .i64 (gi ln k)) := rd_cells hrn2 HLN.out
              have HCN := Lib.hid hcn
              clear hcn
              by_cases hS0 : S.length = 0
              · have hz : ∀ k, k < N → gi ln k = 0 := cov_none HCV.out (fun k hk => (HNB.out k hk).1) hS0
                have HZR := Lib.hid hz
                clear hz
                rw [hS0]
                clear hS0 HCV hrs hrc
                go_upto_region 43 with fail
                go_loopg [29] N (fun gk s29 wx => ∃ k : Nat, gk = N - k ∧ k ≤ N ∧ s29 = .int .i64 k ∧ wb = wx)
                case atStart => exact ⟨0, rfl, Nat.zero_le _, rfl, rfl⟩
                case round =>
                  obtain ⟨k, hgk, hk, rfl, rfl⟩ := hrel
                  have HG := Lib.hid hgk
                  clear hgk
                  by_cases hlk : k < N
                  · have ck := HCN.out k hlk
                    rw [HZR.out k hlk] at ck
                    have hk9 : k ≤ 8 := Nat.le_trans hk HNle.out
                    go_wp2_with fail
                    go_roundg (N - (k + 1))
                    case measure => exact meas HG.out hlk
                    case rel => exact ⟨k + 1, rfl, hlk, by go_num, rfl⟩
                  · go_wp2_with fail
                    go_ret
                    exact ⟨rfl, bel⟩
              · have hcO := fun wX h1 h2 => coverOf_any S C N S.length g1 c1 g2 c2 wX h1 h2 rfl HSC.out.symm (Nat.pos_of_ne_zero hS0) hS64 (HN1.out) (Nat.le_trans HNle.out (by decide)) HSL.out (by rw [HSC.out]; exact HCB.out)
                have HCO := Lib.hid hcO
                clear hcO
                have hS0b : ((S.length : Int) == 0) = false := by simp; exact fun h => hS0 (by rw [h]; rfl)
                clear hS0
                go_wp2_with fail
                (with_reducible refine (HCO.out _ hrs hrc).mono ?_)
                rintro e wc2 ⟨vo, O, rfl, hno, hOl, hOc, hbo⟩
                obtain ⟨g3, c3, rfl, _, hg3, hro⟩ := hno
                rw [hOl]
                have hLWc := hLWb.next hbo
                have hrn3 := hrn2.below hbo
                have belc := hLWc.bel
                have f0 := hLWc.box.cell 0
                simp at f0
                rw [← HNR.out] at f0
                have hNN : ((N : Int) != (N : Int)) = false := by simp
                have hcn3 := rd_cells hrn3 HLN.out
                have hco3 := rd_cells hro hOl
                have HCN3 := Lib.hid hcn3
                have HCO3 := Lib.hid hco3
                have HOC := Lib.hid hOc
                clear hbo hOl hrn3 hro hcn3 hco3 hOc hLWb hrs hrc HCO
                go_upto_region 52 with fail
                clear f0
                go_loopg [32] N (fun gk s32 wx => ∃ k : Nat, gk = N - k ∧ k ≤ N ∧ s32 = .int .i64 k ∧ Drew wc2 wx)
                case atStart => exact ⟨0, rfl, Nat.zero_le _, rfl, Drew.refl _⟩
                case round =>
                  obtain ⟨k, hgk, hk, rfl, hd⟩ := hrel
                  have HG := Lib.hid hgk
                  have belr : Below w.heap.size w wr := belc.trans hd.below
                  clear hgk
                  have hk9 : k ≤ 8 := Nat.le_trans hk HNle.out
                  by_cases hlk : k < N
                  · have ck := HCO3.out k hlk
                    have cn := HCN3.out k hlk
                    have hge := covers_dec (HOC.out k hlk) (HCV.out k hlk)
                    rw [← hd.cell] at ck cn
                    generalize gi O k = y at ck hge
                    generalize gi ln k = x at cn hge
                    have hkN : (k : Int) < (N : Int) := Int.ofNat_lt.2 hlk
                    have hk0 : (0 : Int) ≤ (k : Int) := Int.natCast_nonneg k
                    go_upto_region 54 with fail
                    go_quiet (fail)
                    go_wp2_with fail
                    go_roundg (N - (k + 1))
                    case measure => exact meas HG.out hlk
                    case rel => exact ⟨k + 1, rfl, hlk, by go_num, hd.more _⟩
                  · go_wp2_with fail
                    go_ret
                    exact ⟨rfl, belr⟩
end Go.Proofs.YteiofihgpalkiaaDoor
