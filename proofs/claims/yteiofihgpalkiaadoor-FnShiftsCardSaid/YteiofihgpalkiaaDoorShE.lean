/- The walks of shifts: the list of the first ones behind a state. -/
import Derived.Test.YteiofihgpalkiaaDoorShD
import Derived.Test.YteiofihgpalkiaaDoorStrs
import Derived.Deep.RegionHeld3
namespace Go.Proofs.YteiofihgpalkiaaDoor
open Go Go.RowKit

/-- the letters of a text -/
def bts (u : List Bool) : ByteArray := ⟨(u.map fun b => if b then (119 : UInt8) else 46).toArray⟩
theorem bts_nil (T : ByteArray) : T ++ bts [] = T := by
  apply ByteArray.ext
  simp [bts]
theorem bts_cons (T : ByteArray) (β : Bool) (u : List Bool) : (T ++ bts [β]) ++ bts u = T ++ bts (β :: u) := by
  apply ByteArray.ext
  simp [bts]
theorem bts_size (u : List Bool) : (bts u).size = u.length := by simp [bts, ByteArray.size]
def fT (T : ByteArray) (L : List (List Bool)) : List ByteArray := L.map fun u => T ++ bts u
theorem fT_app (T : ByteArray) (L M : List (List Bool)) : fT T (L ++ M) = fT T L ++ fT T M := by simp [fT]
theorem fT_len (T : ByteArray) (L : List (List Bool)) : (fT T L).length = L.length := by simp [fT]
theorem fT_cons (T : ByteArray) (β : Bool) (L : List (List Bool)) : fT (T ++ bts [β]) L = fT T (L.map (β :: ·)) := by
  simp [fT, bts_cons]
theorem fT_nil (T : ByteArray) : fT T [[]] = [T] := by simp [fT, bts_nil]
/-- the texts that go on with β -/
def part (r : SR) (n : Nat) (s : St) (β : Bool) : List (List Bool) := match nxt r s β with | none => [] | some t => (lst r n t).map (β :: ·)
theorem lst_part (r : SR) (n : Nat) (s : St) : lst r (n + 1) s = part r n s false ++ part r n s true := rfl
def pref (r : SR) (n : Nat) (s : St) (k : Nat) : List (List Bool) := (if 1 ≤ k then part r n s false else []) ++ (if 2 ≤ k then part r n s true else [])
theorem take_step (out : List ByteArray) (T : ByteArray) (A B : List (List Bool)) (c : Nat) (h : out.length ≤ c) :
    (out ++ fT T (A.take (c - out.length))) ++ fT T (B.take (c - (out ++ fT T (A.take (c - out.length))).length)) = out ++ fT T ((A ++ B).take (c - out.length)) := by
  rw [List.append_assoc, ← fT_app]
  congr 2
  rw [List.length_append, fT_len, List.length_take, List.take_append]
  congr 2
  omega
theorem OwnS.neMemo {r : SR} {w : World} {B b : Nat} {v : Value} {l : List ByteArray} (h : OwnS w B v l) (hm : Memo r w b) : ∀ k, v.ownBlock = some k → k ≠ b := by
  intro k hk
  obtain ⟨es, cl, hb, _⟩ := hm
  rcases h.2 with ⟨rfl, hx⟩ | ⟨g, cap, cur, rfl, _, hh, _⟩
  · simp [Value.ownBlock] at hk
  · simp [Value.ownBlock] at hk
    subst hk
    rintro rfl
    rw [hb] at hh
    cases hh
theorem Rw.neOwn {w : World} {B G t : Nat} {cs : Array Value} {v : Value} {l : List ByteArray} (h : Rw w G t cs) (ho : OwnS w B v l) (ht : 9 ≠ t) : ∀ k, v.ownBlock = some k → k ≠ G := ownNe ho h ht

set_option maxHeartbeats 1000000 in
theorem list_any (r : SR) (hr : r.Ok) : ∀ (n : Nat) (s : St) (w : World) (b base c : Nat) (v : Value) (out : List ByteArray) (T : ByteArray), s.slot + n = r.slots → s.In r → Memo r w b → OwnS w base v out → v ≠ .slice none 0 0 → out.length ≤ c → c ≤ 64 → T.size + n ≤ 100 → base ≤ w.heap.size →
    Calls Tryd.prog 22 #[shCell r b, v, .string T, s.cell, .int .i64 c] w fun e w' => ∃ v', e = .returned v' ∧ OwnS w' base v' (out ++ fT T ((lst r n s).take (c - out.length))) ∧ v' ≠ .slice none 0 0 ∧ Memo r w' b ∧ Fr (fun k => k = b ∨ v.ownBlock = some k) w w' ∧ (∀ k, v'.ownBlock = some k → v.ownBlock = some k ∨ w.heap.size ≤ k) := by
  intro n
  induction n with
  | zero =>
    intro s w b base c v out T hn hs hm hown hv hc hc2 hT hbase
    have hw2 : ∃ W, W = (w.alloc (.cells #[.int .i64 r.slots, .int .i64 r.least, .int .i64 r.most, .int .i64 r.row, .int .i64 r.pause, .map (some b)] 53)).alloc (.cells #[.int .i64 s.slot, .int .i64 s.worked, .int .i64 s.row, .int .i64 s.pause, .bool s.begun] 57) := ⟨_, rfl⟩
    obtain ⟨W, hW⟩ := hw2
    have B0 : Rw W w.heap.size 53 #[.int .i64 r.slots, .int .i64 r.least, .int .i64 r.most, .int .i64 r.row, .int .i64 r.pause, .map (some b)] := by rw [hW]; exact (Rw.new _ _ _).alloc _
    have B1 : Rw W (w.heap.size + 1) 57 #[.int .i64 s.slot, .int .i64 s.worked, .int .i64 s.row, .int .i64 s.pause, .bool s.begun] := by
      rw [hW]; have := Rw.new (w.alloc (.cells #[.int .i64 r.slots, .int .i64 r.least, .int .i64 r.most, .int .i64 r.row, .int .i64 r.pause, .map (some b)] 53)) 57 #[.int .i64 s.slot, .int .i64 s.worked, .int .i64 s.row, .int .i64 s.pause, .bool s.begun]
      rwa [World.size_alloc] at this
    have F0 : Fr (fun _ => False) w W := by rw [hW]; exact ((Fr.refl w).alloc _).alloc _
    have ownW : OwnS W base v out := by rw [hW]; exact (hown.alloc _).alloc _
    have hmW := hm.fr F0 (fun h => h)
    have hbl := hm.lt
    have hvl := fun k h => (hown.lt k h).2
    have hsz : w.heap.size + 1 < W.heap.size := B1.lt
    obtain ⟨og, oo, on, oc, rfl, hon⟩ : ∃ g o n c, v = .slice (some ⟨g, o, none⟩) n c ∧ n = out.length := by
      rcases hown.2 with ⟨h, _⟩ | ⟨g, cap, cur, h, _⟩
      · exact absurd h hv
      · exact ⟨g, 0, out.length, cap, h, rfl⟩
    subst hon
    unfold shCell
    have sc0 : s.cell = .agg #[.int .i64 s.slot, .int .i64 s.worked, .int .i64 s.row, .int .i64 s.pause, .bool s.begun] := rfl
    rw [sc0]
    clear sc0
    have HN := Lib.hid hn
    have HT := Lib.hid hT
    clear hn hm hown
    by_cases hfull : out.length = c
    · subst hfull
      have e0 : ((out.length : Int) == (out.length : Int)) = true := by simp
      have hx : out ++ fT T ((lst r 0 s).take (out.length - out.length)) = out := by simp [fT]
      have HX := Lib.hid hx
      clear hx
      go_enter Tryd.func22, Tryd.ntmps22
      go_upto_region 1 with fail
      rw [← hW]
      clear hW
      go_wp2
      go_ret
      exact ⟨_, rfl, by rw [HX.out]; exact ownW, hv, hmW, F0.mono (fun _ _ h => h.elim), fun k h => .inl h⟩
    have e0 : ((out.length : Int) == (c : Int)) = false := by simp; omega
    have hct := count_any r hr 0 s W b HN.out hs hmW
    unfold shCell St.cell at hct
    have HCT := Lib.hid hct
    clear hct
    have e1 : (s.slot == r.slots) = true := by have := HN.out; simp; omega
    by_cases hl : r.least ≤ s.worked
    · have hx : lst r 0 s = [[]] := by simp [lst, hl]
      have hx2 : out ++ fT T ((lst r 0 s).take (c - out.length)) = out ++ [T] := by
        rw [hx, List.take_of_length_le (by simp; omega), fT_nil]
      have HX := Lib.hid hx
      have HX2 := Lib.hid hx2
      clear hx hx2
      go_enter Tryd.func22, Tryd.ntmps22
      go_upto_region 1 with fail
      rw [← hW]
      clear hW
      have f0 := B0.cell 0
      have f1 := B0.cell 1
      have f2 := B0.cell 2
      have f3 := B0.cell 3
      have f4 := B0.cell 4
      have f5 := B0.cell 5
      have g0 := B1.cell 0
      have g1 := B1.cell 1
      have g2 := B1.cell 2
      have g3 := B1.cell 3
      have g4 := B1.cell 4
      simp at f0 f1 f2 f3 f4 f5 g0 g1 g2 g3 g4
      go_wp2_with fail
      refine HCT.out.mono ?_
      rintro e w1 ⟨rfl, hm1, hf1⟩
      rw [HX.out]
      have own1 := ownW.fr hf1 (fun k hk e => ownW.neMemo hmW k hk e)
      have C0 := B0.fr hf1 (by omega)
      have C1 := B1.fr hf1 (by omega)
      have hsz1 := hf1.size
      clear f0 f1 f2 f3 f4 f5 g0 g1 g2 g3 g4 B0 B1
      have f0 := C0.cell 0
      have g0 := C1.cell 0
      simp at f0 g0
      go_wp2_with (at_builtin; refine wpList_appS rfl _ _ rfl base (.slice (some ⟨og, oo, none⟩) out.length oc) out [T] rfl (own1.alloc _) w1.heap.size 0 1 1 rfl rfl (RdS.new1 _ _ _) (by simp; omega) (by have := hf1.size; simp; omega) ?_; intro v' w2 hown2 hg2 hn2 hat2)
      go_wp2
      go_ret
      have hf2 : Fr (fun k => (Value.slice (some ⟨og, oo, none⟩) out.length oc).ownBlock = some k) w1 w2 := ((Fr.refl w1).alloc (.cells #[.string T] 9)).trans (Fr.ofGb hg2 (fun k hk => hk))
      refine ⟨v', rfl, by rw [HX2.out]; exact hown2, fun e => hv (hn2.1 e).1, hm1.fr hf2 (fun h => ownW.neMemo hmW b h rfl), ((F0.mono (D := fun k => k = b ∨ (Value.slice (some ⟨og, oo, none⟩) out.length oc).ownBlock = some k) (fun _ _ h => h.elim)).trans (hf1.mono fun _ _ h => .inl h)).trans (hf2.mono fun _ _ h => .inr h), ?_⟩
      intro k hk
      rcases hat2 with h | h
      · left; rw [← h]; exact hk
      · right; rw [h] at hk; simp at hk; omega
    · have hx : lst r 0 s = [] := by simp [lst, hl]
      have hx2 : out ++ fT T ((lst r 0 s).take (c - out.length)) = out := by simp [fT, hx]
      have HX := Lib.hid hx
      have HX2 := Lib.hid hx2
      clear hx hx2
      go_enter Tryd.func22, Tryd.ntmps22
      go_upto_region 1 with fail
      rw [← hW]
      clear hW
      have f0 := B0.cell 0
      have f1 := B0.cell 1
      have f2 := B0.cell 2
      have f3 := B0.cell 3
      have f4 := B0.cell 4
      have f5 := B0.cell 5
      have g0 := B1.cell 0
      have g1 := B1.cell 1
      have g2 := B1.cell 2
      have g3 := B1.cell 3
      have g4 := B1.cell 4
      simp at f0 f1 f2 f3 f4 f5 g0 g1 g2 g3 g4
      go_wp2_with fail
      refine HCT.out.mono ?_
      rintro e w1 ⟨rfl, hm1, hf1⟩
      rw [HX.out]
      have own1 := ownW.fr hf1 (fun k hk e => ownW.neMemo hmW k hk e)
      go_wp2
      go_ret
      exact ⟨_, rfl, by rw [HX2.out]; exact own1, hv, hm1, (F0.mono (D := fun k => k = b ∨ (Value.slice (some ⟨og, oo, none⟩) out.length oc).ownBlock = some k) (fun _ _ h => h.elim)).trans (hf1.mono fun _ _ h => .inl h), fun k h => .inl h⟩
  | succ n ih =>
    intro s w b base c v out T hn hs hm hown hv hc hc2 hT hbase
    have hw2 : ∃ W, W = (w.alloc (.cells #[.int .i64 r.slots, .int .i64 r.least, .int .i64 r.most, .int .i64 r.row, .int .i64 r.pause, .map (some b)] 53)).alloc (.cells #[.int .i64 s.slot, .int .i64 s.worked, .int .i64 s.row, .int .i64 s.pause, .bool s.begun] 57) := ⟨_, rfl⟩
    obtain ⟨W, hW⟩ := hw2
    have B0 : Rw W w.heap.size 53 #[.int .i64 r.slots, .int .i64 r.least, .int .i64 r.most, .int .i64 r.row, .int .i64 r.pause, .map (some b)] := by rw [hW]; exact (Rw.new _ _ _).alloc _
    have B1 : Rw W (w.heap.size + 1) 57 #[.int .i64 s.slot, .int .i64 s.worked, .int .i64 s.row, .int .i64 s.pause, .bool s.begun] := by
      rw [hW]; have := Rw.new (w.alloc (.cells #[.int .i64 r.slots, .int .i64 r.least, .int .i64 r.most, .int .i64 r.row, .int .i64 r.pause, .map (some b)] 53)) 57 #[.int .i64 s.slot, .int .i64 s.worked, .int .i64 s.row, .int .i64 s.pause, .bool s.begun]
      rwa [World.size_alloc] at this
    have F0 : Fr (fun _ => False) w W := by rw [hW]; exact ((Fr.refl w).alloc _).alloc _
    have ownW : OwnS W base v out := by rw [hW]; exact (hown.alloc _).alloc _
    have hmW := hm.fr F0 (fun h => h)
    have hbl := hm.lt
    have hvl := fun k h => (hown.lt k h).2
    have hsz : w.heap.size + 1 < W.heap.size := B1.lt
    obtain ⟨og, oo, on, oc, rfl, hon⟩ : ∃ g o n c, v = .slice (some ⟨g, o, none⟩) n c ∧ n = out.length := by
      rcases hown.2 with ⟨h, _⟩ | ⟨g, cap, cur, h, _⟩
      · exact absurd h hv
      · exact ⟨g, 0, out.length, cap, h, rfl⟩
    subst hon
    unfold shCell
    have sc0 : s.cell = .agg #[.int .i64 s.slot, .int .i64 s.worked, .int .i64 s.row, .int .i64 s.pause, .bool s.begun] := rfl
    rw [sc0]
    clear sc0
    have HN := Lib.hid hn
    have HT := Lib.hid hT
    clear hn hm hown
    by_cases hfull : out.length = c
    · subst hfull
      have e0 : ((out.length : Int) == (out.length : Int)) = true := by simp
      have hx : out ++ fT T ((lst r (n + 1) s).take (out.length - out.length)) = out := by simp [fT]
      have HX := Lib.hid hx
      clear hx
      go_enter Tryd.func22, Tryd.ntmps22
      go_upto_region 1 with fail
      rw [← hW]
      clear hW
      go_wp2
      go_ret
      exact ⟨_, rfl, by rw [HX.out]; exact ownW, hv, hmW, F0.mono (fun _ _ h => h.elim), fun k h => .inl h⟩
    have e0 : ((out.length : Int) == (c : Int)) = false := by simp; omega
    have hct := count_any r hr (n + 1) s W b HN.out hs hmW
    unfold shCell St.cell at hct
    have HCT := Lib.hid hct
    clear hct
    have e1 : (s.slot == r.slots) = false := by have := HN.out; simp; omega
    by_cases hl : lst r (n + 1) s = []
    · have hx2 : out ++ fT T ((lst r (n + 1) s).take (c - out.length)) = out := by simp [fT, hl]
      have HX := Lib.hid hl
      have HX2 := Lib.hid hx2
      clear hl hx2
      go_enter Tryd.func22, Tryd.ntmps22
      go_upto_region 1 with fail
      rw [← hW]
      clear hW
      have f0 := B0.cell 0
      have f1 := B0.cell 1
      have f2 := B0.cell 2
      have f3 := B0.cell 3
      have f4 := B0.cell 4
      have f5 := B0.cell 5
      have g0 := B1.cell 0
      have g1 := B1.cell 1
      have g2 := B1.cell 2
      have g3 := B1.cell 3
      have g4 := B1.cell 4
      simp at f0 f1 f2 f3 f4 f5 g0 g1 g2 g3 g4
      go_wp2_with fail
      refine HCT.out.mono ?_
      rintro e w1 ⟨rfl, hm1, hf1⟩
      rw [HX.out]
      have own1 := ownW.fr hf1 (fun k hk e => ownW.neMemo hmW k hk e)
      go_wp2
      go_ret
      exact ⟨_, rfl, by rw [HX2.out]; exact own1, hv, hm1, (F0.mono (D := fun k => k = b ∨ (Value.slice (some ⟨og, oo, none⟩) out.length oc).ownBlock = some k) (fun _ _ h => h.elim)).trans (hf1.mono fun _ _ h => .inl h), fun k h => .inl h⟩
    · have hpos : 0 < (lst r (n + 1) s).length := List.length_pos_iff.2 hl
      have e2 : (((lst r (n + 1) s).length : Int) == 0) = false := by simp; exact hl
      clear hl
      go_enter Tryd.func22, Tryd.ntmps22
      go_upto_region 1 with fail
      rw [← hW]
      clear hW
      have f0 := B0.cell 0
      have f1 := B0.cell 1
      have f2 := B0.cell 2
      have f3 := B0.cell 3
      have f4 := B0.cell 4
      have f5 := B0.cell 5
      have g0 := B1.cell 0
      have g1 := B1.cell 1
      have g2 := B1.cell 2
      have g3 := B1.cell 3
      have g4 := B1.cell 4
      simp at f0 f1 f2 f3 f4 f5 g0 g1 g2 g3 g4
      go_wp2_with fail
      refine HCT.out.mono ?_
      rintro e w1 ⟨rfl, hm1, hf1⟩
      have own1 := ownW.fr hf1 (fun k hk e => ownW.neMemo hmW k hk e)
      have C0 := B0.fr hf1 (by omega)
      have C1 := B1.fr hf1 (by omega)
      have hsz1 := hf1.size
      have nb := ownW.neMemo hmW
      clear f0 f1 f2 f3 f4 f5 g0 g1 g2 g3 g4 B0 B1 HCT hmW ownW
      have f0 := C0.cell 0
      have g0 := C1.cell 0
      simp at f0 g0
      go_upto_region 6 with fail
      have B2 := Rw.new w1 4 #[.bool false, .bool true]
      have B0' := C0.alloc (.cells #[.bool false, .bool true] 4)
      have B1' := C1.alloc (.cells #[.bool false, .bool true] 4)
      have hmW' := hm1.fr (C := fun _ => False) ((Fr.refl w1).alloc (.cells #[.bool false, .bool true] 4)) (fun h => h)
      have own2 := own1.alloc (.cells #[.bool false, .bool true] 4)
      have F2 := ((F0.mono (D := fun k => k = b ∨ (Value.slice (some ⟨og, oo, none⟩) out.length oc).ownBlock = some k) (fun _ _ h => h.elim)).trans (hf1.mono fun _ _ h => .inl h)).alloc (.cells #[.bool false, .bool true] 4)
      have hW1 : w1.heap.size < (w1.alloc (.cells #[.bool false, .bool true] 4)).heap.size := by simp
      generalize w1.alloc (.cells #[.bool false, .bool true] 4) = W1 at B2 B0' B1' hmW' own2 F2 hW1 ⊢
      clear C0 C1 hm1 hf1 own1 F0 f0 g0
      have hG2 : w.heap.size + 1 < w1.heap.size := by omega
      clear hsz1
      generalize w1.heap.size = G2 at *
      generalize hV : Value.slice (some ⟨og, oo, none⟩) out.length oc = v at *
      have HV := Lib.hid hV
      clear hV
      have hs0 : out ++ fT T ((pref r n s 0).take (c - out.length)) = out := by simp [pref, fT]
      have HS0 := Lib.hid hs0
      clear hs0
      go_loopg [1, 38] 2 (fun gk s1 s38 wr => ∃ (k : Nat) (v1 : Value), gk = 2 - k ∧ k ≤ 2 ∧ s38 = .int .i64 k ∧ v1 = s1 ∧ OwnS wr base v1 (out ++ fT T ((pref r n s k).take (c - out.length))) ∧ v1 ≠ .slice none 0 0 ∧ Memo r wr b ∧ Fr (fun k => k = b ∨ v.ownBlock = some k) W1 wr ∧ (∀ k, v1.ownBlock = some k → v.ownBlock = some k ∨ W1.heap.size ≤ k))
      case atStart => exact ⟨0, v, rfl, by omega, rfl, rfl, by rw [HS0.out]; exact own2, hv, hmW', Fr.refl _, fun k h => .inl h⟩
      case round =>
        obtain ⟨k, v1, hgk, hk, rfl, hv1, hown, hne, hmr, hfr, hbk⟩ := hrel
        subst hv1
        have B0 := B0'.fr hfr (by rintro (h | h); exact absurd h (by omega); have := hvl _ h; omega)
        have B1 := B1'.fr hfr (by rintro (h | h); exact absurd h (by omega); have := hvl _ h; omega)
        have f0 := B0.cell 0
        have f1 := B0.cell 1
        have f2 := B0.cell 2
        have f3 := B0.cell 3
        have f4 := B0.cell 4
        have f5 := B0.cell 5
        have g0 := B1.cell 0
        have g1 := B1.cell 1
        have g2 := B1.cell 2
        have g3 := B1.cell 3
        have g4 := B1.cell 4
        simp at f0 f1 f2 f3 f4 f5 g0 g1 g2 g3 g4
        obtain rfl | rfl | rfl : k = 0 ∨ k = 1 ∨ k = 2 := by omega
        · have hgk := hgk
          have HG := Lib.hid hgk
          clear hgk
          have cb := (B2.fr hfr (by rintro (h | h); exact absurd h (by omega); have := hvl _ h; omega)).cell 0
          simp at cb
          go_wp2_with fail
          refine (next_state r s false wr hr (hs.ok hr)).mono ?_
          rintro e wa ⟨t, rfl, ht, hb1⟩
          unfold St.cell
          have Ba := B0.below hb1
          have Ma := hmr.fr (C := fun _ => False) (Fr.ofBelow hb1) (fun h => h)
          have Fa := hfr.trans (Fr.ofBelow (C := fun k => k = b ∨ v.ownBlock = some k) hb1)
          have Oa := OwnS.fr (C := fun _ => False) hown (Fr.ofBelow hb1) (fun _ _ h => h)
          have hsza := hb1.size
          have hszf := hfr.size
          have hsub := fun k h => Nat.lt_of_lt_of_le (hown.lt k h).2 hb1.size
          clear f0 f1 f2 f3 f4 f5 g0 g1 g2 g3 g4 cb hb1 hown B0 B1 hmr
          cases hx : nxt r s false with
          | none =>
            have hp : pref r n s (0 + 1) = pref r n s 0 := by simp [pref, part, hx]
            have HP := Lib.hid hp
            clear hx ht hp
            simp only [Option.isSome_none]
            go_wp2_with fail
            go_roundg (2 - (0 + 1))
            case measure => have := HG.out; omega
            case rel => exact ⟨0 + 1, v1, rfl, by omega, by go_num, rfl, by rw [HP.out]; exact Oa.alloc _, hne, Ma.fr (C := fun _ => False) ((Fr.refl _).alloc _) (fun h => h), Fa.alloc _, hbk⟩
          | some t' =>
            obtain rfl := ht t' hx
            obtain ⟨hin, hsl⟩ := hs.nxt hr hx
            have hsl2 : t.slot + (n : Int) = r.slots := by have := HN.out; omega
            have hp : pref r n s (0 + 1) = pref r n s 0 ++ (lst r n t).map (false :: ·) := by simp [pref, part, hx]
            have HP := Lib.hid hp
            have HSL := Lib.hid hsl2
            clear hx ht hp hsl hsl2
            simp only [Option.isSome_some]
            have Bd := Ba.alloc (.cells #[.int .i64 t.slot, .int .i64 t.worked, .int .i64 t.row, .int .i64 t.pause, .bool t.begun] 57)
            have Hd := Rw.new wa 57 #[.int .i64 t.slot, .int .i64 t.worked, .int .i64 t.row, .int .i64 t.pause, .bool t.begun]
            have Md := Ma.fr (C := fun _ => False) ((Fr.refl _).alloc (.cells #[.int .i64 t.slot, .int .i64 t.worked, .int .i64 t.row, .int .i64 t.pause, .bool t.begun] 57)) (fun h => h)
            have Fd := Fa.alloc (.cells #[.int .i64 t.slot, .int .i64 t.worked, .int .i64 t.row, .int .i64 t.pause, .bool t.begun] 57)
            have Od := Oa.alloc (.cells #[.int .i64 t.slot, .int .i64 t.worked, .int .i64 t.row, .int .i64 t.pause, .bool t.begun] 57)
            go_upto_region 10 with fail
            have hszd : wa.heap.size < (wa.alloc (.cells #[.int .i64 t.slot, .int .i64 t.worked, .int .i64 t.row, .int .i64 t.pause, .bool t.begun] 57)).heap.size := by simp
            generalize wa.alloc (.cells #[.int .i64 t.slot, .int .i64 t.worked, .int .i64 t.row, .int .i64 t.pause, .bool t.begun] 57) = wd at Bd Hd Md Fd Od hszd ⊢
            clear Ba Ma Fa Oa
            have f0 := Bd.cell 0
            have f1 := Bd.cell 1
            have f2 := Bd.cell 2
            have f3 := Bd.cell 3
            have f4 := Bd.cell 4
            have f5 := Bd.cell 5
            have g0 := Hd.cell 0
            have g1 := Hd.cell 1
            have g2 := Hd.cell 2
            have g3 := Hd.cell 3
            have g4 := Hd.cell 4
            simp at f0 f1 f2 f3 f4 f5 g0 g1 g2 g3 g4
            have hlen : (out ++ fT T ((pref r n s 0).take (c - out.length))).length ≤ c := by rw [List.length_append, fT_len, List.length_take]; omega
            have HLEN := Lib.hid hlen
            clear hlen
            have hTs : (T ++ (⟨#[46]⟩ : ByteArray)).size + n ≤ 100 := by rw [ByteArray.size_append]; have := HT.out; have h1 : (⟨#[46]⟩ : ByteArray).size = 1 := rfl; omega
            have HTS := Lib.hid hTs
            clear hTs
            have hwp : IntKind.i64.wrap 1 = 1 := rfl
            have hwq : IntKind.i64.wrap (0 + 1) = 1 := rfl
            have hs2 : (⟨#[46, 119]⟩ : ByteArray).size = 2 := rfl
            have hs1 : (⟨#[46]⟩ : ByteArray).size = 1 := rfl
            have hex : (⟨#[46, 119]⟩ : ByteArray).extract 0 (0 + 1) = ⟨#[46]⟩ := rfl
            simp only [Nat.reduceAdd] at hex
            have hT9 : ¬ 9223372036854775807 < T.size + 1 := by omega
            go_region_held3 (fun w' => w'.cell? ⟨w.heap.size, 0, none⟩ = some (.int .i64 r.slots) ∧ w'.cell? ⟨w.heap.size, 1, none⟩ = some (.int .i64 r.least) ∧ w'.cell? ⟨w.heap.size, 2, none⟩ = some (.int .i64 r.most) ∧ w'.cell? ⟨w.heap.size, 3, none⟩ = some (.int .i64 r.row) ∧ w'.cell? ⟨w.heap.size, 4, none⟩ = some (.int .i64 r.pause) ∧ w'.cell? ⟨w.heap.size, 5, none⟩ = some (.map (some b)) ∧ w'.cell? ⟨wa.heap.size, 0, none⟩ = some (.int .i64 t.slot) ∧ w'.cell? ⟨wa.heap.size, 1, none⟩ = some (.int .i64 t.worked) ∧ w'.cell? ⟨wa.heap.size, 2, none⟩ = some (.int .i64 t.row) ∧ w'.cell? ⟨wa.heap.size, 3, none⟩ = some (.int .i64 t.pause) ∧ w'.cell? ⟨wa.heap.size, 4, none⟩ = some (.bool t.begun)) (((try dsimp only); (first | exact ⟨f0, f1, f2, f3, f4, f5, g0, g1, g2, g3, g4⟩ | exact ⟨hk f0 hne0, hk f1 hne0, hk f2 hne0, hk f3 hne0, hk f4 hne0, hk f5 hne0, hk g0 hne1, hk g1 hne1, hk g2 hne1, hk g3 hne1, hk g4 hne1⟩))) ((go_at_call 22; refine (ih t _ b base c v1 _ (T ++ (⟨#[46]⟩ : ByteArray)) HSL.out hin (Md.fr (C := fun _ => False) (Fr.refl _).drew (fun h => h)) (OwnS.fr (C := fun _ => False) Od (Fr.refl _).drew (fun _ _ h => h)) hne HLEN.out hc2 HTS.out (by show base ≤ wd.heap.size; omega)).mono ?_; rintro e we ⟨v2, rfl, hown3, hne3, hme, hfe, hbe⟩; have hk : ∀ {p : Addr} {u : Value}, wd.cell? p = some u → ¬ (p.block = b ∨ v1.ownBlock = some p.block) → we.cell? p = some u := fun hc hn => Fr.cell hfe hc hn; have hne0 : ¬ (w.heap.size = b ∨ v1.ownBlock = some w.heap.size) := (by rintro (h | h); exact absurd h (by omega); rcases hbk _ h with h | h; have := hvl _ h; omega; omega); have hne1 : ¬ (wa.heap.size = b ∨ v1.ownBlock = some wa.heap.size) := (by rintro (h | h); exact absurd h (by omega); have := hsub _ h; omega)))
            have e1 : fT (T ++ (⟨#[46]⟩ : ByteArray)) (lst r n t) = fT T ((lst r n t).map (false :: ·)) := fT_cons T false (lst r n t)
            have e2 : (out ++ fT T ((pref r n s 0).take (c - out.length))) ++ fT (T ++ (⟨#[46]⟩ : ByteArray)) ((lst r n t).take (c - (out ++ fT T ((pref r n s 0).take (c - out.length))).length)) = out ++ fT T ((pref r n s (0 + 1)).take (c - out.length)) := by
              rw [HP.out, ← take_step _ _ _ _ _ hc]
              congr 1
              rw [← List.map_take]
              exact fT_cons T false _
            have E2 := Lib.hid e2
            clear e1 e2 f0 f1 f2 f3 f4 f5 g0 g1 g2 g3 g4 hk
            have hfe2 : Fr (fun k => k = b ∨ v.ownBlock = some k) W1 we := (Fd.trans (Fr.refl wd).drew).trans' hfe (fun i hi h => by
              rcases h with h | h
              · exact .inl h
              · rcases hbk i h with h | h
                · exact .inr h
                · omega)
            have hszw : W1.heap.size ≤ wd.heap.size := by omega
            go_wp2_with fail
            go_roundg (2 - (0 + 1))
            case measure => have := HG.out; omega
            case rel => exact ⟨0 + 1, v2, rfl, by omega, by go_num, rfl, by rw [← E2.out]; exact hown3, hne3, hme, hfe2, fun k h => by
              rcases hbe k h with h | h
              · exact hbk k h
              · exact .inr (Nat.le_trans hszw h)⟩
        · have hgk := hgk
          have HG := Lib.hid hgk
          clear hgk
          have cb := (B2.fr hfr (by rintro (h | h); exact absurd h (by omega); have := hvl _ h; omega)).cell 1
          simp at cb
          go_wp2_with fail
          refine (next_state r s true wr hr (hs.ok hr)).mono ?_
          rintro e wa ⟨t, rfl, ht, hb1⟩
          unfold St.cell
          have Ba := B0.below hb1
          have Ma := hmr.fr (C := fun _ => False) (Fr.ofBelow hb1) (fun h => h)
          have Fa := hfr.trans (Fr.ofBelow (C := fun k => k = b ∨ v.ownBlock = some k) hb1)
          have Oa := OwnS.fr (C := fun _ => False) hown (Fr.ofBelow hb1) (fun _ _ h => h)
          have hsza := hb1.size
          have hszf := hfr.size
          have hsub := fun k h => Nat.lt_of_lt_of_le (hown.lt k h).2 hb1.size
          clear f0 f1 f2 f3 f4 f5 g0 g1 g2 g3 g4 cb hb1 hown B0 B1 hmr
          cases hx : nxt r s true with
          | none =>
            have hp : pref r n s (1 + 1) = pref r n s 1 := by simp [pref, part, hx]
            have HP := Lib.hid hp
            clear hx ht hp
            simp only [Option.isSome_none]
            go_wp2_with fail
            go_roundg (2 - (1 + 1))
            case measure => have := HG.out; omega
            case rel => exact ⟨1 + 1, v1, rfl, by omega, by go_num, rfl, by rw [HP.out]; exact Oa.alloc _, hne, Ma.fr (C := fun _ => False) ((Fr.refl _).alloc _) (fun h => h), Fa.alloc _, hbk⟩
          | some t' =>
            obtain rfl := ht t' hx
            obtain ⟨hin, hsl⟩ := hs.nxt hr hx
            have hsl2 : t.slot + (n : Int) = r.slots := by have := HN.out; omega
            have hp : pref r n s (1 + 1) = pref r n s 1 ++ (lst r n t).map (true :: ·) := by simp [pref, part, hx]
            have HP := Lib.hid hp
            have HSL := Lib.hid hsl2
            clear hx ht hp hsl hsl2
            simp only [Option.isSome_some]
            have Bd := Ba.alloc (.cells #[.int .i64 t.slot, .int .i64 t.worked, .int .i64 t.row, .int .i64 t.pause, .bool t.begun] 57)
            have Hd := Rw.new wa 57 #[.int .i64 t.slot, .int .i64 t.worked, .int .i64 t.row, .int .i64 t.pause, .bool t.begun]
            have Md := Ma.fr (C := fun _ => False) ((Fr.refl _).alloc (.cells #[.int .i64 t.slot, .int .i64 t.worked, .int .i64 t.row, .int .i64 t.pause, .bool t.begun] 57)) (fun h => h)
            have Fd := Fa.alloc (.cells #[.int .i64 t.slot, .int .i64 t.worked, .int .i64 t.row, .int .i64 t.pause, .bool t.begun] 57)
            have Od := Oa.alloc (.cells #[.int .i64 t.slot, .int .i64 t.worked, .int .i64 t.row, .int .i64 t.pause, .bool t.begun] 57)
            go_upto_region 10 with fail
            have hszd : wa.heap.size < (wa.alloc (.cells #[.int .i64 t.slot, .int .i64 t.worked, .int .i64 t.row, .int .i64 t.pause, .bool t.begun] 57)).heap.size := by simp
            generalize wa.alloc (.cells #[.int .i64 t.slot, .int .i64 t.worked, .int .i64 t.row, .int .i64 t.pause, .bool t.begun] 57) = wd at Bd Hd Md Fd Od hszd ⊢
            clear Ba Ma Fa Oa
            have f0 := Bd.cell 0
            have f1 := Bd.cell 1
            have f2 := Bd.cell 2
            have f3 := Bd.cell 3
            have f4 := Bd.cell 4
            have f5 := Bd.cell 5
            have g0 := Hd.cell 0
            have g1 := Hd.cell 1
            have g2 := Hd.cell 2
            have g3 := Hd.cell 3
            have g4 := Hd.cell 4
            simp at f0 f1 f2 f3 f4 f5 g0 g1 g2 g3 g4
            have hlen : (out ++ fT T ((pref r n s 1).take (c - out.length))).length ≤ c := by rw [List.length_append, fT_len, List.length_take]; omega
            have HLEN := Lib.hid hlen
            clear hlen
            have hTs : (T ++ (⟨#[119]⟩ : ByteArray)).size + n ≤ 100 := by rw [ByteArray.size_append]; have := HT.out; have h1 : (⟨#[119]⟩ : ByteArray).size = 1 := rfl; omega
            have HTS := Lib.hid hTs
            clear hTs
            have hwp : IntKind.i64.wrap 2 = 2 := rfl
            have hwq : IntKind.i64.wrap (1 + 1) = 2 := rfl
            have hs2 : (⟨#[46, 119]⟩ : ByteArray).size = 2 := rfl
            have hs1 : (⟨#[119]⟩ : ByteArray).size = 1 := rfl
            have hex : (⟨#[46, 119]⟩ : ByteArray).extract 1 (1 + 1) = ⟨#[119]⟩ := rfl
            simp only [Nat.reduceAdd] at hex
            have hT9 : ¬ 9223372036854775807 < T.size + 1 := by omega
            go_region_held3 (fun w' => w'.cell? ⟨w.heap.size, 0, none⟩ = some (.int .i64 r.slots) ∧ w'.cell? ⟨w.heap.size, 1, none⟩ = some (.int .i64 r.least) ∧ w'.cell? ⟨w.heap.size, 2, none⟩ = some (.int .i64 r.most) ∧ w'.cell? ⟨w.heap.size, 3, none⟩ = some (.int .i64 r.row) ∧ w'.cell? ⟨w.heap.size, 4, none⟩ = some (.int .i64 r.pause) ∧ w'.cell? ⟨w.heap.size, 5, none⟩ = some (.map (some b)) ∧ w'.cell? ⟨wa.heap.size, 0, none⟩ = some (.int .i64 t.slot) ∧ w'.cell? ⟨wa.heap.size, 1, none⟩ = some (.int .i64 t.worked) ∧ w'.cell? ⟨wa.heap.size, 2, none⟩ = some (.int .i64 t.row) ∧ w'.cell? ⟨wa.heap.size, 3, none⟩ = some (.int .i64 t.pause) ∧ w'.cell? ⟨wa.heap.size, 4, none⟩ = some (.bool t.begun)) (((try dsimp only); (first | exact ⟨f0, f1, f2, f3, f4, f5, g0, g1, g2, g3, g4⟩ | exact ⟨hk f0 hne0, hk f1 hne0, hk f2 hne0, hk f3 hne0, hk f4 hne0, hk f5 hne0, hk g0 hne1, hk g1 hne1, hk g2 hne1, hk g3 hne1, hk g4 hne1⟩))) ((go_at_call 22; refine (ih t _ b base c v1 _ (T ++ (⟨#[119]⟩ : ByteArray)) HSL.out hin (Md.fr (C := fun _ => False) (Fr.refl _).drew (fun h => h)) (OwnS.fr (C := fun _ => False) Od (Fr.refl _).drew (fun _ _ h => h)) hne HLEN.out hc2 HTS.out (by show base ≤ wd.heap.size; omega)).mono ?_; rintro e we ⟨v2, rfl, hown3, hne3, hme, hfe, hbe⟩; have hk : ∀ {p : Addr} {u : Value}, wd.cell? p = some u → ¬ (p.block = b ∨ v1.ownBlock = some p.block) → we.cell? p = some u := fun hc hn => Fr.cell hfe hc hn; have hne0 : ¬ (w.heap.size = b ∨ v1.ownBlock = some w.heap.size) := (by rintro (h | h); exact absurd h (by omega); rcases hbk _ h with h | h; have := hvl _ h; omega; omega); have hne1 : ¬ (wa.heap.size = b ∨ v1.ownBlock = some wa.heap.size) := (by rintro (h | h); exact absurd h (by omega); have := hsub _ h; omega)))
            have e1 : fT (T ++ (⟨#[119]⟩ : ByteArray)) (lst r n t) = fT T ((lst r n t).map (true :: ·)) := fT_cons T true (lst r n t)
            have e2 : (out ++ fT T ((pref r n s 1).take (c - out.length))) ++ fT (T ++ (⟨#[119]⟩ : ByteArray)) ((lst r n t).take (c - (out ++ fT T ((pref r n s 1).take (c - out.length))).length)) = out ++ fT T ((pref r n s (1 + 1)).take (c - out.length)) := by
              rw [HP.out, ← take_step _ _ _ _ _ hc]
              congr 1
              rw [← List.map_take]
              exact fT_cons T true _
            have E2 := Lib.hid e2
            clear e1 e2 f0 f1 f2 f3 f4 f5 g0 g1 g2 g3 g4 hk
            have hfe2 : Fr (fun k => k = b ∨ v.ownBlock = some k) W1 we := (Fd.trans (Fr.refl wd).drew).trans' hfe (fun i hi h => by
              rcases h with h | h
              · exact .inl h
              · rcases hbk i h with h | h
                · exact .inr h
                · omega)
            have hszw : W1.heap.size ≤ wd.heap.size := by omega
            go_wp2_with fail
            go_roundg (2 - (1 + 1))
            case measure => have := HG.out; omega
            case rel => exact ⟨1 + 1, v2, rfl, by omega, by go_num, rfl, by rw [← E2.out]; exact hown3, hne3, hme, hfe2, fun k h => by
              rcases hbe k h with h | h
              · exact hbk k h
              · exact .inr (Nat.le_trans hszw h)⟩
        · have hp : pref r n s 2 = lst r (n + 1) s := by rw [lst_part]; rfl
          rw [hp] at hown
          have hfin := F2.trans hfr
          have hb2 : ∀ k, v1.ownBlock = some k → v.ownBlock = some k ∨ w.heap.size ≤ k := fun k h => (hbk k h).imp id (fun h => by omega)
          clear hp hgk
          go_wp2
          go_ret
          exact ⟨v1, rfl, hown, hne, hmr, by rw [HV.out]; exact hfin, by rw [HV.out]; exact hb2⟩
end Go.Proofs.YteiofihgpalkiaaDoor
