/- The walks of phases: each time's phasor, and how long their sum is. -/
import Derived.Test.YteiofihgpalkiaaTabF
import Derived.Test.YteiofihgpalkiaaTabA
namespace Go.Proofs.Yteiofihgpalkiaa
open Go Go.RowKit
set_option maxRecDepth 100000

theorem infoZ : (Try.prog.info? 106).map (fun i => (i.zero, i.size, i.bytes)) = some (some (.complex .f32 0 0), 1, 8) := by kernel_rfl

/-- the cells of a list of complex numbers -/
def cz (l : List (Nat × Nat)) : List Value := l.map fun x => .complex .f32 x.1 x.2
def gz (l : List (Nat × Nat)) (j : Nat) : Nat × Nat := l.getD j (0, 0)
theorem cz_len (l : List (Nat × Nat)) : (cz l).length = l.length := by simp [cz]
theorem cz_app (l m : List (Nat × Nat)) : cz (l ++ m) = cz l ++ cz m := by simp [cz]
theorem cz_get (l : List (Nat × Nat)) (j : Nat) (h : j < l.length) : (cz l)[j]? = some (.complex .f32 (gz l j).1 (gz l j).2) := by simp [cz, gz, h]
theorem cz_one (l : List (Nat × Nat)) : ∀ u ∈ cz l, u.oneCell' = true := by
  intro u hu
  simp [cz] at hu
  obtain ⟨a, b, _, rfl⟩ := hu
  rfl
def RdZ (w : World) (b o : Nat) (l : List (Nat × Nat)) : Prop := ∀ j, j < l.length → w.cell? ⟨b, o + j, none⟩ = some (.complex .f32 (gz l j).1 (gz l j).2)
theorem RdZ.new1 (w : World) (x : Nat × Nat) (t : TypeId) : RdZ (w.alloc (.cells #[.complex .f32 x.1 x.2] t)) w.heap.size 0 [x] := by
  intro j hj
  obtain rfl : j = 0 := by simp at hj; omega
  simp [gz]
/-- a slice of complex numbers made since block B -/
def NewZ (w : World) (B : Nat) (v : Value) (l : List (Nat × Nat)) : Prop := ∃ g cap, v = .slice (some ⟨g, 0, none⟩) l.length cap ∧ B ≤ g ∧ g < w.heap.size ∧ RdZ w g 0 l
abbrev OwnZ (w : World) (B : Nat) (v : Value) (l : List (Nat × Nat)) : Prop := w.ownsRow B 106 1 v l.length (cz l)
theorem OwnZ.new {w : World} {B : Nat} {v : Value} {l : List (Nat × Nat)} (h : OwnZ w B v l) (hne : v ≠ .slice none 0 0) : NewZ w B v l := by
  rcases h.2 with ⟨rfl, _⟩ | ⟨g, cap, cur, rfl, hb, hh, hn, hc, hs, ht⟩
  · exact absurd rfl hne
  · refine ⟨g, cap, rfl, hb, heap_lt hh, fun j hj => ?_⟩
    have := h.cells (g := g) rfl j _ (cz_get l j hj)
    rw [addLit] at this
    exact this
theorem OwnZ.made (w : World) (B : Nat) (hB : B ≤ w.heap.size) : OwnZ (w.alloc (.cells #[] 106)) B (.slice (some ⟨w.heap.size, 0, none⟩) 0 0) [] :=
  World.ownsRow_made w #[] 0 hB (by simp [maxLen]) (by simp)
/-- append of complex numbers that lie at a known place -/
theorem wpList_appZ {ops : Array Oper} {rest : List Oper} {o : Oper} {a : Act} {w : World} {Q : Exit → Act → World → Prop} (hgd : o.guard = none) (s x : Operand)
    (ho : o.op = .call { callee := .builtin .append, args := #[s, x], argTypes := #[60, 60] }) (base : Nat) (v : Value) (l m : List (Nat × Nat)) (hs : a.eval s = v) (hown : OwnZ w base v l)
    (b of c n : Nat) (hn : n = m.length) (hx : a.eval x = .slice (some ⟨b, of, none⟩) n c) (hr : RdZ w b of m) (hlen : l.length + m.length ≤ 1000000000) (hbase : base ≤ w.heap.size)
    (h : ∀ v' w', OwnZ w' base v' (l ++ m) → w.grownBy w' v.ownBlock → (v' = .slice none 0 0 ↔ v = .slice none 0 0 ∧ m.length = 0) → wpList Try.prog ops Q rest (a.put o.dst v') w') : wpList Try.prog ops Q (o :: rest) a w := by
  obtain ⟨i0, hi0, hz0, hz1, hz2⟩ := info_parts infoZ
  subst hn
  refine wpList_append_own w hgd s x 60 ho base 106 i0 _ 1 8 Try.underlying60 hi0 hz0 hz1 hz2 rfl (by decide) v l.length (cz l) hs hown ⟨b, of, none⟩ m.length c (cz m) hx (by simp [cz]) ?_ (cz_one m) (by simp only [maxLen]; omega) (by omega) hbase ?_
  · intro j u hu
    have hj : j < m.length := by
      have := (List.getElem?_eq_some_iff.1 hu).1
      rwa [cz_len] at this
    rw [cz_get m j hj, Option.some.injEq] at hu
    rw [← hu]
    have ha : (⟨b, of, none⟩ : Addr).add j = ⟨b, of + j, none⟩ := addLit b of j
    rw [ha]
    exact hr j hj
  · intro v' w' h1 h2 h3
    have h4 : w'.ownsRow base 106 1 v' (l ++ m).length (cz (l ++ m)) := by
      rw [cz_app, List.length_append]
      exact h1
    exact h v' w' h4 h2 h3

theorem phases_any (b o c : Nat) (ev : Int) (p : Nat) (l : List Int) (w : World) (hr : RdI w b o l) (ht : vTab ev p l) (h1 : 1 ≤ ev) (h2 : ev ≤ 12) (h3 : 1 ≤ p) (h4 : p < 10) (hbl : b < w.heap.size) :
    Calls Try.prog 35 #[.slice (some ⟨b, o, none⟩) l.length c, .int .i64 p] w fun e w' => ∃ v, e = .returned (.tuple #[v, .bool true]) ∧ NewZ w' w.heap.size v (l.map (ph p)) ∧ Below w.heap.size w w' := by
  have e3 := Lib.hid ht.1
  go_enter Try.func35, Try.ntmps35
  go_wp2_with fail
  refine (tableTimes_true b o c ev p l _ hr ht h1 h2 (by omega) (by omega)).mono ?_
  rintro e w' ⟨rfl, rfl⟩
  obtain ⟨_, ht2⟩ := ht
  go_wp2
  go_loopw [6, 16] (fun v i wr => ∃ (k : Nat), k ≤ l.length ∧ i = .int .i64 k ∧ OwnZ wr w.heap.size v ((l.take k).map (ph p)) ∧ v ≠ .slice none 0 0 ∧ Below w.heap.size w wr) (fun _ i _ => l.length - (intOf i).toNat)
  case atStart => exact ⟨0, by omega, rfl, OwnZ.made w _ (Nat.le_refl _), by simp, (Below.refl _ _).alloc (Nat.le_refl _) _⟩
  case round =>
    obtain ⟨k, hk, rfl, hown, hne, hb⟩ := hrel
    obtain ⟨hbc, hbf⟩ := bcell hb
    by_cases hlt : k < l.length
    · have c0 := hr k hlt
      obtain ⟨b1, b2⟩ := ht2 k hlt
      have hlen : ((l.take k).map (ph p)).length ≤ 12 := by have := e3.out; simp; omega
      have hsn : (l.take (k + 1)).map (ph p) = (l.take k).map (ph p) ++ [ph p (gi l k)] := by
        rw [List.take_succ_eq_append_getElem hlt, List.map_append]; simp [gi, hlt]
      have HS := Lib.hid hsn
      obtain ⟨t, ht⟩ : ∃ t : Nat, gi l k = t := ⟨(gi l k).toNat, by omega⟩
      have hph := phM_eq p t h4 (by omega)
      simp only [phM, Option.bind_eq_some_iff] at hph
      obtain ⟨q, hq, hpq⟩ := hph
      have r1 := fun w => run_float_arith (P := Try.prog) w .quo 66 .f64 _ _ _ hq
      have r2 : ∀ w, (convert 2 66 (.int .i64 (gi l k))).run Try.prog w = .ok (.float .f64 (floatOfInt .f64 t)) w := by
        intro w; rw [ht]; exact run_convert_int_float w _ _ _ _ _ (by kernel_rfl) (by kernel_rfl)
      have r3 : ∀ w, (convert 2 66 (.int .i64 (p : Int))).run Try.prog w = .ok (.float .f64 (floatOfInt .f64 p)) w := fun w => run_convert_int_float w _ _ _ _ _ (by kernel_rfl) (by kernel_rfl)
      rw [← ht] at hpq
      generalize hx : ph p (gi l k) = x at hpq hsn HS
      obtain ⟨xa, xb⟩ := x
      have c1 := fun w => phasor_any q xa xb w hpq
      clear hsn ht2 hq hpq
      go_wp2_with (first | (go_at_call 81; refine (c1 _).mono ?_; rintro e w' ⟨rfl, rfl⟩) | (at_builtin; refine wpList_appZ rfl _ _ rfl w.heap.size _ ((l.take k).map (ph p)) [(xa, xb)] rfl (hown.alloc _) wr.heap.size 0 1 1 rfl rfl (RdZ.new1 _ (xa, xb) _) (by simp only [List.length_singleton]; omega) (by have := hb.size; simp; omega) ?_; intro v' w1 hown1 hg1 hn1))
      have hne' : v' ≠ .slice none 0 0 := fun e => hne (hn1.1 e).1
      have hb1 : Below w.heap.size w w1 := (hb.alloc hb.size _).grown hg1 (by have := hb.size; simp; omega) (fun k hk => (hown.lt k hk).1)
      go_wp2
      go_roundw
      case rel => exact ⟨k + 1, by omega, by go_num, by rw [HS.out]; exact hown1, hne', hb1⟩
      case measure => simp [intOf]; omega
    · have e1 : k = l.length := by omega
      subst e1
      go_wp2
      go_ret2
      rw [List.take_of_length_le (Nat.le_refl _)] at hown
      exact ⟨_, rfl, by simpa using hown.new hne, hb⟩

theorem together_any (b o c : Nat) (ev : Int) (p : Nat) (l : List Int) (r : Nat) (w : World) (hr : RdI w b o l) (ht : vTab ev p l) (h1 : 1 ≤ ev) (h2 : ev ≤ 12) (h3 : 1 ≤ p) (h4 : p < 10) (hbl : b < w.heap.size) (hs : togM (l.map (ph p)) = some r) :
    Calls Try.prog 34 #[.slice (some ⟨b, o, none⟩) l.length c, .int .i64 p] w fun e w' => e = .returned (.tuple #[.float .f32 r, .bool true]) ∧ Below w.heap.size w w' := by
  unfold togM at hs
  simp only [Option.bind_eq_some_iff] at hs
  obtain ⟨⟨re, im⟩, hsum, q, hq, hdiv⟩ := hs
  have HSum := Lib.hid hsum
  have e3 := Lib.hid ht.1
  have hlen : (l.map (ph p)).length = l.length := by simp
  rw [hlen] at hdiv
  have r1 := fun w => run_float_arith (P := Try.prog) w .quo 57 .f32 _ _ _ hdiv
  have r2 : ∀ w, (convert 3 57 (.int .i64 (l.length : Nat))).run Try.prog w = .ok (.float .f32 (floatOfInt .f32 l.length)) w := fun w => run_convert_int_float w _ _ _ _ _ (by kernel_rfl) (by kernel_rfl)
  have c2 := fun w => long_any re im q w hq
  have c1 := phases_any b o c ev p l w hr ht h1 h2 h3 h4 hbl
  clear hsum hdiv hq
  go_enter Try.func34, Try.ntmps34
  go_wp2_with fail
  refine c1.mono ?_
  rintro e w1 ⟨v, rfl, ⟨g, cap, rfl, hg, hg2, hz⟩, hb⟩
  obtain ⟨hbc, hbf⟩ := bcell hb
  rw [hlen]
  generalize hZ : l.map (ph p) = Z at hz HSum hlen
  have HL := Lib.hid hlen
  have HB := Lib.hid hb
  have hle := Nat.le_of_eq hlen
  have hge := Nat.le_of_eq hlen.symm
  have hll : l.length ≤ 12 := by have := e3.out; omega
  clear hZ hlen c1 ht
  go_wp2
  go_loopg [8, 9, 22] l.length (fun gk s8 s9 s22 wr => ∃ (k x y : Nat), gk + k = l.length ∧ s8 = .float .f32 x ∧ s9 = .float .f32 y ∧ s22 = .int .i64 k ∧ sum32 (Z.drop k) (x, y) = some (re, im) ∧ w1 = wr)
  case atStart => exact ⟨0, 0, 0, by omega, rfl, rfl, rfl, HSum.out, rfl⟩
  case round =>
    obtain ⟨k, x, y, hk, rfl, rfl, rfl, hs, rfl⟩ := hrel
    by_cases hlt : k < l.length
    · have hkz : k < Z.length := by omega
      have c0 := hz k hkz
      rw [Nat.zero_add] at c0
      rw [List.drop_eq_getElem_cons hkz, show Z[k] = gz Z k from by simp [gz, hkz]] at hs
      generalize gz Z k = ab at c0 hs
      obtain ⟨a', b'⟩ := ab
      simp only [sum32, Option.bind_eq_some_iff] at hs
      obtain ⟨u, hu, v, hv, hs⟩ := hs
      have s1 := fun w => run_float_arith (P := Try.prog) w .add 57 .f32 _ _ _ hu
      have s2 := fun w => run_float_arith (P := Try.prog) w .add 57 .f32 _ _ _ hv
      have HS := Lib.hid hs
      clear hs hu hv
      go_wp2
      go_roundg (gk - 1)
      case measure => omega
      case rel => exact ⟨k + 1, u, v, by omega, rfl, rfl, by go_num, HS.out, rfl⟩
    · have hzl : Z.length ≤ k := by omega
      rw [List.drop_eq_nil_of_le hzl, sum32] at hs
      simp only [Option.some.injEq, Prod.mk.injEq] at hs
      obtain ⟨rfl, rfl⟩ := hs
      go_wp2_with fail
      refine (c2 _).mono ?_
      rintro e w' ⟨rfl, rfl⟩
      go_wp2
      go_ret2
      exact ⟨rfl, HB.out⟩

theorem gap_one (w : World) : Calls Try.prog 37 #[.float .f64 4607182418800017408, .float .f64 4607182418800017408] w fun e w' => e = .returned (.float .f64 0) ∧ w = w' := by
  have r1 := fun w => run_float_arith (P := Try.prog) w .sub 66 .f64 4607182418800017408 4607182418800017408 0 (by decide +kernel)
  have z0 : (FloatKind.f64.format.order 4607182418800017408 4607182418800017408 == some .lt) = false := by decide +kernel
  go_enter Try.func37, Try.ntmps37
  go_wp2
  go_ret
  exact ⟨rfl, rfl⟩
end Go.Proofs.Yteiofihgpalkiaa
