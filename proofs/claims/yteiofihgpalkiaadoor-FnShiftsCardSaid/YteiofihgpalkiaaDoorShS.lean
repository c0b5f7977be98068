/- The walks of shifts: the states ahead of each slot of a text. -/
import Derived.Test.YteiofihgpalkiaaDoorShN
import Derived.Test.YteiofihgpalkiaaDoorShP
import Derived.Deep.RegionWith
import Derived.Deep.CutRange
namespace Go.Proofs.YteiofihgpalkiaaDoor
open Go Go.RowKit
set_option maxRecDepth 100000

theorem infoSt : (Tryd.prog.info? 57).map (fun i => (i.zero, i.size, i.bytes)) = some (some (.agg #[.int .i64 0, .int .i64 0, .int .i64 0, .int .i64 0, .bool false]), 5, 40) := by kernel_rfl

def cst (s : St) : List Value := [.int .i64 s.slot, .int .i64 s.worked, .int .i64 s.row, .int .i64 s.pause, .bool s.begun]
def csts (l : List St) : List Value := l.flatMap cst
abbrev OwnT (w : World) (B : Nat) (v : Value) (l : List St) : Prop := w.ownsRow B 57 5 v l.length (csts l)
theorem csts_len (l : List St) : (csts l).length = l.length * 5 := by
  induction l with
  | nil => rfl
  | cons a l ih => simp only [csts, List.flatMap_cons, List.length_append, List.length_cons] at ih ⊢; simp only [cst, List.length_cons, List.length_nil]; omega
theorem csts_app (l m : List St) : csts (l ++ m) = csts l ++ csts m := by simp [csts]

theorem OwnT.one (w : World) (B : Nat) (hB : B ≤ w.heap.size) (s : St) : OwnT (w.alloc (.cells #[.int .i64 s.slot, .int .i64 s.worked, .int .i64 s.row, .int .i64 s.pause, .bool s.begun] 57)) B (.slice (some ⟨w.heap.size, 0, none⟩) 1 1) [s] :=
  ⟨by simp [csts, cst], .inr ⟨w.heap.size, 1, _, rfl, hB, heap_alloc_new w _, Nat.le_refl _, by decide, rfl, by simp [csts, cst]⟩⟩
theorem OwnT.fr {C : Nat → Prop} {w w' : World} {B : Nat} {v : Value} {l : List St} (h : OwnT w B v l) (hf : Fr C w w') (hC : ∀ k, v.ownBlock = some k → ¬ C k) : OwnT w' B v l := by
  refine ⟨h.1, ?_⟩
  rcases h.2 with ⟨rfl, hx⟩ | ⟨g, cap, cur, rfl, hb, hh, rest⟩
  · exact .inl ⟨rfl, hx⟩
  · exact .inr ⟨g, cap, cur, rfl, hb, hf.heap hh (hC g rfl), rest⟩

/-- append of one state that lies at a known place; where the result lies -/
theorem wpList_appT {ops : Array Oper} {rest : List Oper} {o : Oper} {a : Act} {w : World} {Q : Exit → Act → World → Prop} (hgd : o.guard = none) (s x : Operand)
    (ho : o.op = .call { callee := .builtin .append, args := #[s, x], argTypes := #[61, 61] }) (base : Nat) (v : Value) (l : List St) (u : St) (hs : a.eval s = v) (hown : OwnT w base v l)
    (b c : Nat) (hx : a.eval x = .slice (some ⟨b, 0, none⟩) 1 c) (hr : Rw w b 57 (cst u).toArray) (hlen : l.length ≤ 1000) (hbase : base ≤ w.heap.size)
    (h : ∀ v' w', OwnT w' base v' (l ++ [u]) → w.grownBy w' v.ownBlock → (v' = .slice none 0 0 ↔ v = .slice none 0 0 ∧ 1 = 0) → (v'.ownBlock = v.ownBlock ∨ v'.ownBlock = some w.heap.size) → wpList Tryd.prog ops Q rest (a.put o.dst v') w') : wpList Tryd.prog ops Q (o :: rest) a w := by
  obtain ⟨i0, hi0, hz0, hz1, hz2⟩ := info_parts infoSt
  refine wpList_append_own_at w hgd s x 61 ho base 57 i0 _ 5 40 Tryd.underlying61 hi0 hz0 hz1 hz2 rfl (by decide) v l.length (csts l) hs hown ⟨b, 0, none⟩ 1 c (cst u) hx (by simp [cst]) ?_ (by simp [cst, Value.oneCell']) (by simp only [maxLen]; omega) (by omega) hbase ?_
  · intro j y hj
    have hc := hr.cell j
    rw [addLit, Nat.zero_add, hc]
    simpa using hj
  · intro v' w' h1 h2 h3 h4
    have h5 : OwnT w' base v' (l ++ [u]) := by
      unfold OwnT
      rw [csts_app, List.length_append]
      simpa [csts] using h1
    exact h v' w' h5 h2 h3 h4

set_option maxHeartbeats 1000000 in
theorem states_any (r : SR) (hr : r.Ok) (t : List Bool) (ht : (t.length : Int) = r.slots) (w : World) :
    Calls Tryd.prog 24 #[r.cell, .string (bts t)] w fun e w' => ∃ v, e = .returned (.tuple #[v, .bool (acc r t ⟨0, 0, 0, 0, false⟩)]) ∧ (acc r t ⟨0, 0, 0, 0, false⟩ = true → OwnT w' w.heap.size v (pth r t ⟨0, 0, 0, 0, false⟩) ∧ v ≠ .slice none 0 0) ∧ Below w.heap.size w w' := by
  have htl : t.length ≤ 8 := by have := hr.s8; omega
  have hsz := bts_size t
  have e0 : ((t.length : Int) != r.slots) = false := by simp [ht]
  have hix := fun k β h w => run_at_bts t k β h (by omega) w
  have HIX := Lib.hid hix
  have hw := fun w => isWork_true t (by omega) w
  have HT := Lib.hid ht
  clear hix ht
  unfold SR.cell
  go_enter Tryd.func24, Tryd.ntmps24
  go_wp2_with fail
  refine (hw _).mono ?_
  rintro e w1 ⟨rfl, hb1⟩
  have B0 := (Rw.new w 25 #[.int .i64 r.slots, .int .i64 r.least, .int .i64 r.most, .int .i64 r.row, .int .i64 r.pause]).below hb1
  have W1 : Below w.heap.size w w1 := ((Below.refl _ _).alloc (Nat.le_refl _) _).trans (hb1.mono (by simp))
  clear hb1 hw
  go_upto_region 6 with fail
  have hU := Rw.new w1 57 #[.int .i64 0, .int .i64 0, .int .i64 0, .int .i64 0, .bool false]
  have hO := OwnT.one (w1.alloc (.cells #[.int .i64 0, .int .i64 0, .int .i64 0, .int .i64 0, .bool false] 57)) w.heap.size (by have := W1.size; simp; omega) ⟨0, 0, 0, 0, false⟩
  have hU2 := hU.alloc (.cells #[.int .i64 0, .int .i64 0, .int .i64 0, .int .i64 0, .bool false] 57)
  have B2 := (B0.alloc (.cells #[.int .i64 0, .int .i64 0, .int .i64 0, .int .i64 0, .bool false] 57)).alloc (.cells #[.int .i64 0, .int .i64 0, .int .i64 0, .int .i64 0, .bool false] 57)
  have W2 := (W1.alloc W1.size (.cells #[.int .i64 0, .int .i64 0, .int .i64 0, .int .i64 0, .bool false] 57)).alloc (by have := W1.size; simp; omega) (.cells #[.int .i64 0, .int .i64 0, .int .i64 0, .int .i64 0, .bool false] 57)
  rw [World.size_alloc] at hO
  have hB0 := B0.lt
  clear hU B0
  generalize ((w1.alloc (.cells #[.int .i64 0, .int .i64 0, .int .i64 0, .int .i64 0, .bool false] 57)).alloc (.cells #[.int .i64 0, .int .i64 0, .int .i64 0, .int .i64 0, .bool false] 57)) = w2 at hO hU2 B2 W2 ⊢
  have hv0 : Value.slice (some ⟨w1.heap.size + 1, 0, none⟩) 1 1 ≠ .slice none 0 0 := by simp
  have hbk0 : (Value.slice (some ⟨w1.heap.size + 1, 0, none⟩) 1 1).ownBlock = some (w1.heap.size + 1) := rfl
  generalize Value.slice (some ⟨w1.heap.size + 1, 0, none⟩) 1 1 = v0 at hO hv0 hbk0 ⊢
  generalize w1.heap.size = U at *
  go_loopg [7, 25] t.length (fun gk s7 s25 wr => ∃ (k : Nat) (s : St) (P : List St) (v : Value), gk = t.length - k ∧ k ≤ t.length ∧ s25 = .int .i64 k ∧ v = s7 ∧ OwnT wr w.heap.size v (P ++ [s]) ∧ v ≠ .slice none 0 0 ∧ (∀ k, v.ownBlock = some k → U < k) ∧ P.length = k ∧ s.slot = k ∧ s.In r ∧ acc r t ⟨0, 0, 0, 0, false⟩ = acc r (t.drop k) s ∧ pth r t ⟨0, 0, 0, 0, false⟩ = P ++ pth r (t.drop k) s ∧ Rw wr U 57 #[.int .i64 s.slot, .int .i64 s.worked, .int .i64 s.row, .int .i64 s.pause, .bool s.begun] ∧ Rw wr w.heap.size 25 #[.int .i64 r.slots, .int .i64 r.least, .int .i64 r.most, .int .i64 r.row, .int .i64 r.pause] ∧ Below w.heap.size w wr)
  case atStart => exact ⟨0, ⟨0, 0, 0, 0, false⟩, [], v0, rfl, by omega, rfl, rfl, hO, hv0, fun k h => by rw [hbk0] at h; simp at h; omega, rfl, rfl, st0_in hr, rfl, rfl, hU2, B2, W2⟩
  case round =>
    obtain ⟨k, s, P, v, hgk, hk, rfl, hv, hown, hne, hbk, hPl, hsl, hin, hacc, hpth, hU, hB, hbel⟩ := hrel
    subst hv
    by_cases hlt : k < t.length
    · have hdr := List.drop_eq_getElem_cons hlt
      rw [hdr] at hacc hpth
      have hx := HIX.out k t[k] (by simp [hlt])
      generalize t[k] = β at hx hacc hpth
      clear hdr
      have HG := Lib.hid hgk
      have HA := Lib.hid hacc
      have HP := Lib.hid hpth
      have HS := Lib.hid hsl
      have HL := Lib.hid hPl
      clear hgk hacc hpth hsl hPl
      have f0 := hB.cell 0
      have f1 := hB.cell 1
      have f2 := hB.cell 2
      have f3 := hB.cell 3
      have f4 := hB.cell 4
      have g0 := hU.cell 0
      have g1 := hU.cell 1
      have g2 := hU.cell 2
      have g3 := hU.cell 3
      have g4 := hU.cell 4
      simp at f0 f1 f2 f3 f4 g0 g1 g2 g3 g4
      have hcl := fun b w => next_state r s b w hr (hin.ok hr)
      unfold SR.cell St.cell at hcl
      have HCL := Lib.hid hcl
      clear hcl
      obtain ⟨c, hce, he⟩ : ∃ c : Int, (if β then (119 : Int) else 46) = c ∧ (c == 119) = β := by cases β <;> simp
      rw [hce] at hx
      clear hce
      go_upto_region 9 with fail
      go_cut [9, 25] from 25 to 44 (fun s9 s25 wx => ∃ t' : St, s9 = .bool (nxt r s β).isSome ∧ s25 = .int .i64 (k : Int) ∧ (∀ t'', nxt r s β = some t'' → t' = t'') ∧ Rw wx U 57 #[.int .i64 t'.slot, .int .i64 t'.worked, .int .i64 t'.row, .int .i64 t'.pause, .bool t'.begun] ∧ Fr (fun k => k = U) wr wx)
      case first =>
        go_region_with ((go_at_call 25; (with_reducible refine (HCL.out β _).mono ?_); rintro e wa ⟨t', rfl, ht', hb1⟩; have hb2 : Below wr.heap.size wr wa := ⟨hb1.os, hb1.tape, hb1.output, hb1.size, hb1.block⟩; have Ua := hU.below hb2; have q0 := Ua.cell 0; have q1 := Ua.cell 1; have q2 := Ua.cell 2; have q3 := Ua.cell 3; have q4 := Ua.cell 4; have z0 := Ua.fz 0; have z1 := Ua.fz 1; have z2 := Ua.fz 2; have z3 := Ua.fz 3; have z4 := Ua.fz 4; simp at q0 q1 q2 q3 q4))
        all_goals (go_wp2_with fail; go_meet; exact ⟨t', rfl, rfl, ht', by have := ((((Ua.set_ 0 (.int .i64 t'.slot)).set_ 1 (.int .i64 t'.worked)).set_ 2 (.int .i64 t'.row)).set_ 3 (.int .i64 t'.pause)).set_ 4 (.bool t'.begun); simpa using this, ((((((Fr.ofBelow (C := fun k => k = U) hb2).set_ (p := ⟨U, 0, none⟩) (fun _ => rfl) _).set_ (p := ⟨U, 1, none⟩) (fun _ => rfl) _).set_ (p := ⟨U, 2, none⟩) (fun _ => rfl) _).set_ (p := ⟨U, 3, none⟩) (fun _ => rfl) _).set_ (p := ⟨U, 4, none⟩) (fun _ => rfl) _)⟩)
      case rest =>
        obtain ⟨t', rfl, rfl, ht', Ua, Fa⟩ := hcut
        have B' := hB.fr Fa (by omega)
        have own' := OwnT.fr hown Fa (fun k hk e => by have := hbk k hk; omega)
        have bel' : Below w.heap.size w wc := hbel.trans (Fa.toBelow hbel.size (fun i hi e => by omega))
        have hlt2 := fun k h => (own'.lt k h)
        have hszc := bel'.size
        clear f0 f1 f2 f3 f4 g0 g1 g2 g3 g4 HCL hx he hB hU hown hbel Fa
        cases hx2 : nxt r s β with
        | none =>
          have ha0 : acc r t ⟨0, 0, 0, 0, false⟩ = false := by rw [HA.out]; simp [acc, hx2]
          have HA0 := Lib.hid ha0
          simp only [Option.isSome_none]
          clear ha0 hx2 ht'
          go_wp2_with fail
          go_ret2
          exact ⟨.slice none 0 0, by rw [HA0.out]; rfl, (fun h => by rw [HA0.out] at h; cases h), bel'⟩
        | some t'' =>
          obtain rfl := ht' t'' hx2
          obtain ⟨hin2, hsl2⟩ := hin.nxt hr hx2
          have ha1 : acc r t ⟨0, 0, 0, 0, false⟩ = acc r (t.drop (k + 1)) t' := by rw [HA.out]; simp [acc, hx2]
          have hp1 : pth r t ⟨0, 0, 0, 0, false⟩ = (P ++ [s]) ++ pth r (t.drop (k + 1)) t' := by rw [HP.out]; simp [pth, hx2]
          have HA1 := Lib.hid ha1
          have HP1 := Lib.hid hp1
          have HS2 := Lib.hid hsl2
          simp only [Option.isSome_some]
          clear ha1 hp1 hsl2 hx2 ht' HA HP
          have g0 := Ua.cell 0
          have g1 := Ua.cell 1
          have g2 := Ua.cell 2
          have g3 := Ua.cell 3
          have g4 := Ua.cell 4
          simp at g0 g1 g2 g3 g4
          have hP8 : (P ++ [s]).length ≤ 1000 := by have := HL.out; simp; omega
          go_wp2_with (at_builtin; refine wpList_appT rfl _ _ rfl w.heap.size v (P ++ [s]) t' rfl (own'.alloc _) wc.heap.size 1 rfl (Rw.new wc _ _) hP8 (by simp; omega) ?_; intro v' w2 hown2 hg2 hn2 hat2)
          have bel1 := bel'.alloc hszc (.cells #[.int .i64 t'.slot, .int .i64 t'.worked, .int .i64 t'.row, .int .i64 t'.pause, .bool t'.begun] 57)
          have bel2 : Below w.heap.size w w2 := bel1.grown hg2 (by simp; omega) (fun k hk => (hlt2 k hk).1)
          have hf2 : Fr (fun k => v.ownBlock = some k) wc w2 := ((Fr.refl wc).alloc (.cells #[.int .i64 t'.slot, .int .i64 t'.worked, .int .i64 t'.row, .int .i64 t'.pause, .bool t'.begun] 57)).trans (Fr.ofGb hg2 (fun k hk => hk))
          have U2 := Ua.fr hf2 (fun h => by have := hbk _ h; omega)
          have B2' := B'.fr hf2 (fun h => by have := hbk _ h; omega)
          have hUl := Ua.lt
          have hbk2 : ∀ k, v'.ownBlock = some k → U < k := by
            intro k h
            rcases hat2 with h2 | h2
            · rw [h2] at h; exact hbk k h
            · rw [h2] at h; simp at h; omega
          clear g0 g1 g2 g3 g4 own' hg2
          go_wp2_with fail
          go_roundg (t.length - (k + 1))
          case measure => have := HG.out; omega
          case rel => exact ⟨k + 1, t', P ++ [s], v', rfl, by omega, by go_num, rfl, hown2, fun e => hne (hn2.1 e).1, hbk2, by simp; exact HL.out, by rw [HS2.out, HS.out]; simp, hin2, HA1.out, HP1.out, U2, B2', bel2⟩
    · obtain rfl : k = t.length := by omega
      have hacc2 : acc r t ⟨0, 0, 0, 0, false⟩ = decide (r.least ≤ s.worked) := by rw [hacc, List.drop_length]; rfl
      have hpth2 : pth r t ⟨0, 0, 0, 0, false⟩ = P ++ [s] := by rw [hpth, List.drop_length]; rfl
      have HA := Lib.hid hacc2
      have HP := Lib.hid hpth2
      clear hacc hpth hacc2 hpth2 hgk hPl hsl
      have f1 := hB.cell 1
      have g1 := hU.cell 1
      simp at f1 g1
      go_upto_region 14 with fail
      go_quiet (fail)
      go_wp2
      go_ret2
      exact ⟨v, by rw [HA.out]; rfl, fun _ => ⟨by rw [HP.out]; exact hown, hne⟩, bdrewN hbel _⟩
end Go.Proofs.YteiofihgpalkiaaDoor
