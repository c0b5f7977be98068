/- The walks of shifts: the shift behind one. -/
import Derived.Test.YteiofihgpalkiaaDoorShU
namespace Go.Proofs.YteiofihgpalkiaaDoor
open Go Go.RowKit
set_option maxRecDepth 100000

theorem cellAlloc {w : World} (o : Obj) {p : Addr} {u : Value} (h : w.cell? p = some u) : (w.alloc o).cell? p = some u := Fr.cell (C := fun _ => False) ((Fr.refl w).alloc o) h (fun h => h)

theorem belA {wr wa : World} (h : Below wr.drew.heap.size wr.drew wa) : Below wr.heap.size wr wa := ⟨h.os, h.tape, h.output, h.size, h.block⟩
theorem belB {wr wa : World} {o : Obj} (h : Below (wr.alloc o).drew.heap.size (wr.alloc o).drew wa) : Below wr.heap.size wr wa := by
  have h1 : Below (wr.alloc o).heap.size (wr.alloc o) wa := belA h
  exact ((Below.refl wr.heap.size wr).alloc (Nat.le_refl _) o).trans (h1.mono (by simp))
theorem belR {wr wa : World} {cs : Array Value} {t : TypeId} (h : Below (wr.alloc (.cells cs t)).drew.heap.size (wr.alloc (.cells cs t)).drew wa) : Rw wa wr.heap.size t cs := (Rw.new wr t cs).below (belA h)

set_option maxHeartbeats 1000000 in
theorem nextShift_any (r : SR) (hr : r.Ok) (t : List Bool) (ht : (t.length : Int) = r.slots) (hacc : acc r t ⟨0, 0, 0, 0, false⟩ = true) (w : World) :
    Calls Tryd.prog 12 #[r.cell, .string (bts t)] w fun e w' => (∃ x, e = .returned (.tuple #[.string x, .bool (sc r t ⟨0, 0, 0, 0, false⟩).isSome]) ∧ (∀ u, sc r t ⟨0, 0, 0, 0, false⟩ = some u → x = bts u)) ∧ Below w.heap.size w w' := by
  have c1 := fun w => validRule_true r hr w
  have c2 := fun w => states_any r hr t ht w
  have c3 := fun w => asShifts_any r w
  unfold SR.cell at c1 c2 c3 ⊢
  simp only [hacc] at c2
  unfold shCell at c3
  have htl : t.length ≤ 8 := by have := hr.s8; omega
  have hsz := bts_size t
  have hpl := pth_len r t _ hacc
  have hpa := fun i hi => pth_at hr hacc (st0_in hr) i hi
  have hps := fun i si h1 h2 => pth_step r t ⟨0, 0, 0, 0, false⟩ i si hacc h1 h2
  have hup := fun i si u h1 h2 h3 => sc_up r t ⟨0, 0, 0, 0, false⟩ i si u hacc h1 h2 h3
  have hix := fun k β h w => run_at_bts t k β h (by omega) w
  have HIX := Lib.hid hix
  have HT := Lib.hid ht
  have HPL := Lib.hid hpl
  have HPA := Lib.hid hpa
  have HPS := Lib.hid hps
  have HUP := Lib.hid hup
  have C1 := Lib.hid c1
  have C2 := Lib.hid c2
  have C3 := Lib.hid c3
  have hsub : IntKind.i64.wrap ((t.length : Int) - 1) = (t.length : Int) - 1 := IntWalk.i64_in _ (by omega)
  clear c1 c2 c3 ht hacc hpl hpa hps hup hix
  go_enter Tryd.func12, Tryd.ntmps12
  go_wp2_with fail
  refine (C1.out _).mono ?_
  rintro e w1 ⟨rfl, hb1⟩
  have B0 := (Rw.new w 25 #[.int .i64 r.slots, .int .i64 r.least, .int .i64 r.most, .int .i64 r.row, .int .i64 r.pause]).below hb1
  have W1 : Below w.heap.size w w1 := ((Below.refl _ _).alloc (Nat.le_refl _) _).trans (hb1.mono (by simp))
  clear hb1
  have f0 := B0.cell 0
  have f1 := B0.cell 1
  have f2 := B0.cell 2
  have f3 := B0.cell 3
  have f4 := B0.cell 4
  simp at f0 f1 f2 f3 f4
  go_wp2_with fail
  refine (C2.out _).mono ?_
  rintro e w2 ⟨v, rfl, hv, hb2⟩
  obtain ⟨hown, hne⟩ := hv trivial
  have B1 := B0.below hb2
  have W2 : Below w.heap.size w w2 := W1.trans (hb2.mono W1.size)
  obtain ⟨g, cp, rfl, hg1, hg2, hrd⟩ := OwnT.new hown hne
  have hg0 : w.heap.size < g := by have := B0.lt; omega
  clear f0 f1 f2 f3 f4 hb2 hv hown hne hg1 B0
  have f0 := B1.cell 0
  have f1 := B1.cell 1
  have f2 := B1.cell 2
  have f3 := B1.cell 3
  have f4 := B1.cell 4
  simp at f0 f1 f2 f3 f4
  go_wp2_with fail
  refine (C3.out _).mono ?_
  rintro e w3 ⟨b, rfl, hbb, hm, hb3⟩
  have B2 := B1.below hb3
  have W3 : Below w.heap.size w w3 := W2.trans (hb3.mono W2.size)
  have hrd3 := hrd.fr (C := fun _ => False) (Fr.ofBelow hb3) (fun h => h)
  have hgb : g < b := by omega
  clear f0 f1 f2 f3 f4 hrd W2 B1
  have hS := Rw.new w3 53 #[.int .i64 r.slots, .int .i64 r.least, .int .i64 r.most, .int .i64 r.row, .int .i64 r.pause, .map (some b)]
  have B3 := B2.alloc (.cells #[.int .i64 r.slots, .int .i64 r.least, .int .i64 r.most, .int .i64 r.row, .int .i64 r.pause, .map (some b)] 53)
  have W4 := W3.alloc W3.size (.cells #[.int .i64 r.slots, .int .i64 r.least, .int .i64 r.most, .int .i64 r.row, .int .i64 r.pause, .map (some b)] 53)
  have hrd4 := hrd3.fr (C := fun _ => False) ((Fr.refl w3).alloc (.cells #[.int .i64 r.slots, .int .i64 r.least, .int .i64 r.most, .int .i64 r.row, .int .i64 r.pause, .map (some b)] 53)) (fun h => h)
  have hm4 := hm.fr (C := fun _ => False) ((Fr.refl w3).alloc (.cells #[.int .i64 r.slots, .int .i64 r.least, .int .i64 r.most, .int .i64 r.row, .int .i64 r.pause, .map (some b)] 53)) (fun h => h)
  have hbS : b < w3.heap.size := hm.lt
  go_upto_region 8 with fail
  have hplen : (pth r t ⟨0, 0, 0, 0, false⟩).length = t.length + 1 := HPL.out
  rw [hplen]
  clear hplen
  have hhd : (pth r t ⟨0, 0, 0, 0, false⟩)[0]? = some ⟨0, 0, 0, 0, false⟩ := pth_head r t _
  generalize hPP : pth r t ⟨0, 0, 0, 0, false⟩ = PP at *
  clear hPP
  have h0 : ∃ s0, PP[t.length]? = some s0 ∧ sc r (t.drop t.length) s0 = none := by
    obtain ⟨s0, h1, _⟩ := HPA.out t.length (Nat.le_refl _)
    exact ⟨s0, h1, by rw [List.drop_length]; rfl⟩
  have hend : ∀ s0, PP[0]? = some s0 → sc r t s0 = none → sc r t ⟨0, 0, 0, 0, false⟩ = none := by
    intro s0 h1 h2
    rw [hhd] at h1
    injection h1 with h1
    rw [h1]
    exact h2
  have HEND := Lib.hid hend
  have H0 := Lib.hid h0
  clear hend h0 hhd hrd3 hb3 hm B2 W3 W1
  generalize (w3.alloc (.cells #[.int .i64 r.slots, .int .i64 r.least, .int .i64 r.most, .int .i64 r.row, .int .i64 r.pause, .map (some b)] 53)) = w4 at hS B3 W4 hrd4 hm4 ⊢
  generalize w3.heap.size = D at *
  go_loopg [9] (t.length + 1) (fun gk s9 wr => ∃ (k : Nat) (s : St), gk = k + 1 ∧ k ≤ t.length ∧ s9 = .int .i64 ((k : Int) - 1) ∧ PP[k]? = some s ∧ sc r (t.drop k) s = none ∧ Rw wr D 53 #[.int .i64 r.slots, .int .i64 r.least, .int .i64 r.most, .int .i64 r.row, .int .i64 r.pause, .map (some b)] ∧ Rw wr w.heap.size 25 #[.int .i64 r.slots, .int .i64 r.least, .int .i64 r.most, .int .i64 r.row, .int .i64 r.pause] ∧ RdT wr g PP ∧ Memo r wr b ∧ Below w.heap.size w wr)
  case atStart => exact ⟨t.length, H0.out.choose, rfl, by omega, rfl, H0.out.choose_spec.1, H0.out.choose_spec.2, hS, B3, hrd4, hm4, W4⟩
  case round =>
    obtain ⟨k, s, hgk, hk, rfl, hps, hscn, hD, hB, hR, hmr, hbel⟩ := hrel
    have hszr := hbel.size
    rcases k with _ | k
    · have hsn := HEND.out s hps (by simpa using hscn)
      have HN := Lib.hid hsn
      clear hsn hps hscn hgk
      go_wp2
      go_ret2
      exact ⟨⟨_, by rw [HN.out]; rfl, fun u h => by rw [HN.out] at h; cases h⟩, hbel⟩
    · have hlt : k < t.length := by omega
      obtain ⟨si, hpi, hin, hsl⟩ := HPA.out k (by omega)
      obtain ⟨s', hnx, hps'⟩ := HPS.out k si hpi hlt
      have hss : s' = s := by rw [hps'] at hps; injection hps
      subst hss
      have hdr := List.drop_eq_getElem_cons hlt
      have hx := HIX.out k t[k] (by simp [hlt])
      have hupk := fun u => HUP.out k si u hpi (by omega)
      generalize t[k] = β at hx hnx hdr
      have e1 : (((k + 1 : Nat) : Int) - 1) = (k : Int) := by omega
      rw [e1]
      have hwd : IntKind.i64.wrap ((k : Int) - 1) = (k : Int) - 1 := IntWalk.i64_in _ (by omega)
      have HG := Lib.hid hgk
      have HPI := Lib.hid hpi
      have HSL := Lib.hid hsl
      have HUPK := Lib.hid hupk
      have HNX := Lib.hid hnx
      have HSN := Lib.hid hscn
      have HDR := Lib.hid hdr
      clear hgk hpi hsl hdr hupk hnx hscn hps hps' e1
      cases β with
      | true =>
        simp only [if_true] at hx
        have hn2 : sc r (true :: t.drop (k + 1)) si = none := sc_true HNX.out HSN.out
        have HN2 := Lib.hid hn2
        clear hn2
        go_wp2_with fail
        go_roundg (k + 1)
        case measure => have := HG.out; omega
        case rel => exact ⟨k, si, rfl, by omega, rfl, HPI.out, by rw [HDR.out]; exact HN2.out, hD, hB, hR, hmr, hbel⟩
      | false =>
        simp only [Bool.false_eq_true, if_false] at hx
        obtain ⟨q0, q1, q2, q3, q4⟩ := hR k si HPI.out
        have f0 := hB.cell 0
        have f1 := hB.cell 1
        have f2 := hB.cell 2
        have f3 := hB.cell 3
        have f4 := hB.cell 4
        simp at f0 f1 f2 f3 f4
        have hcl := fun w => next_state r si true w hr (hin.ok hr)
        unfold SR.cell St.cell at hcl
        have HCL := Lib.hid hcl
        clear hcl
        have i0 : (0 : Int) ≤ (k : Int) := by omega
        have i1 : (k : Int) < (t.length : Int) + 1 := by omega
        have i2 : k < t.length + 1 := by omega
        go_upto_region 11 with fail
        have af0 := fun o => cellAlloc o f0
        have af1 := fun o => cellAlloc o f1
        have af2 := fun o => cellAlloc o f2
        have af3 := fun o => cellAlloc o f3
        have af4 := fun o => cellAlloc o f4
        have aq0 := fun o => cellAlloc o q0
        have aq1 := fun o => cellAlloc o q1
        have aq2 := fun o => cellAlloc o q2
        have aq3 := fun o => cellAlloc o q3
        have aq4 := fun o => cellAlloc o q4
        go_cut [9, 10, 11] from 29 to 61 (fun s9 s10 s11 wx => ∃ (t' : St) (G : Nat), s9 = .int .i64 (k : Int) ∧ s10 = .pointer (some ⟨G, 0, none⟩) ∧ s11 = .bool (nxt r si true).isSome ∧ (∀ t'', nxt r si true = some t'' → t' = t'') ∧ Rw wx G 57 #[.int .i64 t'.slot, .int .i64 t'.worked, .int .i64 t'.row, .int .i64 t'.pause, .bool t'.begun] ∧ Below wr.heap.size wr wx ∧ wr.heap.size ≤ G)
        case first =>
          go_region_with ((go_at_call 25; (with_reducible refine (HCL.out _).mono ?_); rintro e wa ⟨t', rfl, ht', hb1⟩; obtain ⟨hcc, hcf⟩ := bcell hb1; have hzz := hb1.size; simp at hcc hcf hzz))
          all_goals (go_wp2_with fail; go_meet; first | ((have hb2 : Below wr.heap.size wr wa := by with_reducible exact belA hb1); exact ⟨t', wa.heap.size, rfl, rfl, rfl, ht', Rw.new wa 57 #[.int .i64 t'.slot, .int .i64 t'.worked, .int .i64 t'.row, .int .i64 t'.pause, .bool t'.begun], hb2.alloc hzz _, hzz⟩) | exact ⟨t', wr.heap.size, rfl, rfl, rfl, ht', (by have := ((((((belR hb1).set_ 0 (.int .i64 t'.slot)).set_ 1 (.int .i64 t'.worked)).set_ 2 (.int .i64 t'.row)).set_ 3 (.int .i64 t'.pause)).set_ 4 (.bool t'.begun)); simpa using this), ((((((belB hb1).setCell (p := ⟨wr.heap.size, 0, none⟩) (Nat.le_refl _) (.int .i64 t'.slot)).setCell (p := ⟨wr.heap.size, 1, none⟩) (Nat.le_refl _) (.int .i64 t'.worked)).setCell (p := ⟨wr.heap.size, 2, none⟩) (Nat.le_refl _) (.int .i64 t'.row)).setCell (p := ⟨wr.heap.size, 3, none⟩) (Nat.le_refl _) (.int .i64 t'.pause)).setCell (p := ⟨wr.heap.size, 4, none⟩) (Nat.le_refl _) (.bool t'.begun)), Nat.le_refl _⟩)
        case rest =>
          obtain ⟨t', G, rfl, rfl, rfl, ht', hG, hbx, hGs⟩ := hcut
          have hB' := hB.below hbx
          have hD' := hD.below hbx
          have hR' := hR.fr (C := fun _ => False) (Fr.ofBelow hbx) (fun h => h)
          have hm' := hmr.fr (C := fun _ => False) (Fr.ofBelow hbx) (fun h => h)
          have bel' : Below w.heap.size w wc := hbel.trans (hbx.mono hszr)
          have hszc := bel'.size
          have hbl := hmr.lt
          have hgl : g < wr.heap.size := lt_of_cell q0
          have hDl := hD.lt
          clear f0 f1 f2 f3 f4 q0 q1 q2 q3 q4 af0 af1 af2 af3 af4 aq0 aq1 aq2 aq3 aq4 HCL hB hD hR hmr hbel hbx hx
          cases hx2 : nxt r si true with
          | none =>
            have hn2 : sc r (false :: t.drop (k + 1)) si = none := sc_false_none HNX.out HSN.out hx2
            have HN2 := Lib.hid hn2
            simp only [Option.isSome_none]
            clear hn2 hx2 ht'
            go_wp2_with fail
            go_roundg (k + 1)
            case measure => have := HG.out; omega
            case rel => exact ⟨k, si, rfl, by omega, rfl, HPI.out, by rw [HDR.out]; exact HN2.out, hD', hB', hR', hm', bel'⟩
          | some s2 =>
            obtain rfl := ht' s2 hx2
            obtain ⟨hin2, hsl2⟩ := hin.nxt hr hx2
            have hsn : t'.slot + ((t.length - (k + 1) : Nat) : Int) = r.slots := by have h1 := HSL.out; have h2 := HT.out; omega
            have hsc2 : sc r (false :: t.drop (k + 1)) si = (lst r (t.length - (k + 1)) t').head?.map (true :: ·) := by rw [sc_false_some HNX.out HSN.out hx2]; simp
            have HSN2 := Lib.hid hsn
            have HSC2 := Lib.hid hsc2
            simp only [Option.isSome_some]
            clear hsn hsc2 hx2 ht' hsl2
            have f0 := hD'.cell 0
            have f1 := hD'.cell 1
            have f2 := hD'.cell 2
            have f3 := hD'.cell 3
            have f4 := hD'.cell 4
            have f5 := hD'.cell 5
            have q0 := hG.cell 0
            have q1 := hG.cell 1
            have q2 := hG.cell 2
            have q3 := hG.cell 3
            have q4 := hG.cell 4
            simp at f0 f1 f2 f3 f4 f5 q0 q1 q2 q3 q4
            have af0 := fun o => cellAlloc o f0
            have af1 := fun o => cellAlloc o f1
            have af2 := fun o => cellAlloc o f2
            have af3 := fun o => cellAlloc o f3
            have af4 := fun o => cellAlloc o f4
            have af5 := fun o => cellAlloc o f5
            have aq0 := fun o => cellAlloc o q0
            have aq1 := fun o => cellAlloc o q1
            have aq2 := fun o => cellAlloc o q2
            have aq3 := fun o => cellAlloc o q3
            have aq4 := fun o => cellAlloc o q4
            have hex := bts_take t k
            have htk : (bts (t.take k)).size = k := by rw [bts_size, List.length_take]; omega
            have hk9 : ¬ 9223372036854775807 < k + 1 := by omega
            have hs1 : (⟨#[119]⟩ : ByteArray).size = 1 := rfl
            have hT : (bts (t.take k) ++ (⟨#[119]⟩ : ByteArray)).size + (t.length - (k + 1)) ≤ 100 := by rw [ByteArray.size_append, htk, hs1]; omega
            have HTT := Lib.hid hT
            clear hT
            have Md := hm'.fr (C := fun _ => False) ((Fr.refl wc).alloc (.cells #[] 9)) (fun h => h)
            have Od := OwnS.made wc w.heap.size hszc
            have hct := fun wX (h : Memo r wX b) (h2 : OwnS wX w.heap.size (.slice (some ⟨wc.heap.size, 0, none⟩) 0 0) []) (h3 : w.heap.size ≤ wX.heap.size) => list_any r hr (t.length - (k + 1)) t' wX b w.heap.size 1 (.slice (some ⟨wc.heap.size, 0, none⟩) 0 0) [] (bts (t.take k) ++ (⟨#[119]⟩ : ByteArray)) HSN2.out hin2 h h2 (by simp) (by simp) (by omega) HTT.out h3
            unfold shCell St.cell at hct
            have hc0 := hct (wc.alloc (.cells #[] 9)).drew (Md.fr (C := fun _ => False) (Fr.refl _).drew (fun h => h)) (OwnS.fr (C := fun _ => False) Od (Fr.refl _).drew (fun _ _ h => h)) (by show w.heap.size ≤ (wc.alloc _).heap.size; simp; omega)
            have e11 : ((1 : Nat) : Int) = 1 := rfl
            rw [e11] at hc0
            clear e11
            have HCT := Lib.hid hc0
            clear hct hc0
            have nD : D ≠ b := by omega
            have nG : G ≠ b := by omega
            have j1 : (k : Int) ≤ (t.length : Int) := by omega
            have j2 : k ≤ t.length := by omega
            go_upto_region 13 with fail
            go_region_held3 (fun w' => w'.cell? ⟨D, 0, none⟩ = some (.int .i64 r.slots) ∧ w'.cell? ⟨D, 1, none⟩ = some (.int .i64 r.least) ∧ w'.cell? ⟨D, 2, none⟩ = some (.int .i64 r.most) ∧ w'.cell? ⟨D, 3, none⟩ = some (.int .i64 r.row) ∧ w'.cell? ⟨D, 4, none⟩ = some (.int .i64 r.pause) ∧ w'.cell? ⟨D, 5, none⟩ = some (.map (some b)) ∧ w'.cell? ⟨G, 0, none⟩ = some (.int .i64 t'.slot) ∧ w'.cell? ⟨G, 1, none⟩ = some (.int .i64 t'.worked) ∧ w'.cell? ⟨G, 2, none⟩ = some (.int .i64 t'.row) ∧ w'.cell? ⟨G, 3, none⟩ = some (.int .i64 t'.pause) ∧ w'.cell? ⟨G, 4, none⟩ = some (.bool t'.begun)) (((try dsimp only); (try simp only [World.cell?_drew]); (first | with_reducible exact ⟨f0, f1, f2, f3, f4, f5, q0, q1, q2, q3, q4⟩ | with_reducible exact ⟨af0 _, af1 _, af2 _, af3 _, af4 _, af5 _, aq0 _, aq1 _, aq2 _, aq3 _, aq4 _⟩ | with_reducible exact ⟨HK.out _ _ _ nD f0, HK.out _ _ _ nD f1, HK.out _ _ _ nD f2, HK.out _ _ _ nD f3, HK.out _ _ _ nD f4, HK.out _ _ _ nD f5, HK.out _ _ _ nG q0, HK.out _ _ _ nG q1, HK.out _ _ _ nG q2, HK.out _ _ _ nG q3, HK.out _ _ _ nG q4⟩))) ((go_at_call 22; (with_reducible refine HCT.out.mono ?_); rintro e we ⟨v2, rfl, hown3, hne3, hme, hfe, hbe⟩; have hk : ∀ (B o : Nat) (u : Value), B ≠ b → wc.cell? ⟨B, o, none⟩ = some u → we.cell? ⟨B, o, none⟩ = some u := fun B o u hp hc => Fr.cell hfe (cellAlloc _ hc) (by rintro (h | h); exact hp h; have h' : some wc.heap.size = some B := h; injection h' with h'; have := lt_of_cell hc; simp only at this; omega); have HK := Lib.hid hk; clear hk))
            have hfx : Fr (fun k => k = b) wc we := (((Fr.refl wc).alloc (.cells #[] 9)).drew).trans' hfe (fun i hi h => by
              rcases h with h | h
              · exact h
              · have h' : some wc.heap.size = some i := h
                injection h' with h'
                omega)
            have hB2 := hB'.fr hfx (by omega)
            have hD2 := hD'.fr hfx (by omega)
            have hR2 := hR'.fr hfx (by omega)
            have bel2 : Below w.heap.size w we := bel'.trans (hfx.toBelow hszc (fun i hi h => by omega))
            clear f0 f1 f2 f3 f4 f5 q0 q1 q2 q3 q4 af0 af1 af2 af3 af4 af5 aq0 aq1 aq2 aq3 aq4 HCT HK hfx hfe hB' hD' hR' Od Md
            have hlen0 : ([] : List ByteArray).length = 0 := rfl
            rw [List.nil_append, hlen0, Nat.sub_zero] at hown3
            clear hlen0
            have HSC := HSC2.out
            cases hl : lst r (t.length - (k + 1)) t' with
            | nil =>
              rw [hl] at HSC hown3
              have hn2 : sc r (false :: t.drop (k + 1)) si = none := by rw [HSC]; rfl
              have HN2 := Lib.hid hn2
              obtain ⟨g2, cp2, rfl, _, _, _⟩ := hown3.new hne3
              clear hn2 hl HSC hown3 HSC2
              simp only [fT, List.take_nil, List.map_nil, List.length_nil]
              go_wp2_with fail
              go_roundg (k + 1)
              case measure => have := HG.out; omega
              case rel => exact ⟨k, si, rfl, by omega, rfl, HPI.out, by rw [HDR.out]; exact HN2.out, hD2, hB2, hR2, hme, bel2⟩
            | cons u L =>
              rw [hl] at HSC hown3
              have e1 : (fT (bts (t.take k) ++ (⟨#[119]⟩ : ByteArray)) ((u :: L).take 1)) = [bts (t.take k ++ true :: u)] := by
                simp only [List.take_succ_cons, List.take_zero, fT, List.map_cons, List.map_nil, List.cons.injEq, and_true]
                apply ByteArray.ext
                simp [bts]
              rw [e1] at hown3
              obtain ⟨g2, cp2, rfl, _, hg2l, hr2⟩ := hown3.new hne3
              have hc2 := hr2 0 (by simp)
              have hfin := HUPK.out (true :: u) (by rw [HDR.out, HSC]; rfl)
              have HF := Lib.hid hfin
              simp [gs] at hc2
              clear hl HSC hown3 HSC2 hfin e1 hr2
              simp only [List.length_cons, List.length_nil]
              go_wp2_with fail
              go_ret2
              exact ⟨⟨_, by rw [HF.out]; rfl, fun v h => by rw [HF.out] at h; injection h with h; rw [h]⟩, bel2⟩
end Go.Proofs.YteiofihgpalkiaaDoor
