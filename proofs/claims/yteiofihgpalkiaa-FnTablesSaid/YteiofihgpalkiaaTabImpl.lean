/- The counting, the first and the best table, as the program tells them. -/
import Derived.Test.YteiofihgpalkiaaTables
namespace Go.Proofs.Yteiofihgpalkiaa
open Go Go.RowKit

theorem cfCount : ∀ (args : Array Value) (W : World), (callFunc 67 args).run Try.prog W = .ok (.enter 67 args) W := fun _ _ => by kernel_rfl
theorem cfFirst : ∀ (args : Array Value) (W : World), (callFunc 70 args).run Try.prog W = .ok (.enter 70 args) W := fun _ _ => by kernel_rfl
theorem cfBest : ∀ (args : Array Value) (W : World), (callFunc 72 args).run Try.prog W = .ok (.enter 72 args) W := fun _ _ => by kernel_rfl

/-- block c is one cell -/
def Box (w : World) (c t : Nat) (v : Value) : Prop := w.heap[c]? = some (.cells #[v] t (0, 0))
theorem Box.cell {w : World} {c t : Nat} {v : Value} (h : Box w c t v) : w.cell? ⟨c, 0, none⟩ = some v := by
  have := cell_of_row w c 0 _ _ _ h
  simpa using this
theorem Box.fr0 {w : World} {c t : Nat} {v : Value} (h : Box w c t v) : w.frozen? ⟨c, 0, none⟩ = false := by
  have := h
  unfold Box at this
  simp [World.frozen?, this]
theorem Box.set_ {w : World} {c t : Nat} {v : Value} (h : Box w c t v) (u : Value) : Box (w.setCell ⟨c, 0, none⟩ u) c t u := by
  have := heap_set (i := 0) u h
  simpa [Box] using this
theorem Box.fr {C : Nat → Prop} {w w' : World} {c t : Nat} {v : Value} (h : Box w c t v) (hf : Fr C w w') (hn : ¬ C c) : Box w' c t v := hf.heap h hn
theorem Box.new (w : World) (t : Nat) (v : Value) : Box (w.alloc (.cells #[v] t)) w.heap.size t v := heap_alloc_new w _
theorem Box.lt {w : World} {c t : Nat} {v : Value} (h : Box w c t v) : c < w.heap.size := heap_lt h

/-! ### counting -/
def nxCount (s : Nat) (_ : Nat) : Nat := s + 1
theorem runCount_le (kept : Nat → Bool) : ∀ n, runT kept nxCount 0 n ≤ n := by
  intro n
  induction n with
  | zero => simp [runT]
  | succ n ih =>
    simp only [runT]
    split
    · simp only [nxCount]; omega
    · omega

theorem cbCount (c : Nat) (s : Nat) (a : Value) (x : Int) (W : World) (hb : Box W c 2 (.int .i64 s)) (hs : s ≤ 100000) :
    Calls Try.prog 67 #[a, .int .i64 x, .pointer (some ⟨c, 0, none⟩)] W fun e W' => e = .returned (.bool true) ∧ Box W' c 2 (.int .i64 ((s + 1 : Nat) : Int)) ∧ Fr (fun k => k = c) W W' := by
  have c0 := hb.cell
  have f0 := hb.fr0
  go_enter Try.func67, Try.ntmps67
  go_wp2
  go_ret
  exact ⟨rfl, hb.set_ _, Fr.set_ (C := fun k => k = c) (Fr.refl W) (p := ⟨c, 0, none⟩) (fun _ => rfl) _⟩

theorem count_any (p m rb ro rc : Nat) (rs : List Rul) (w : World)
    (hR : RdR w rb ro rs) (hr : ∀ j, j < rs.length → vRul ((m + 1 : Nat) : Int) p (ru rs j)) (hp : 1 ≤ p) (hp2 : p ≤ 60) (hm : m + 1 ≤ 12) (hpow : p ^ m ≤ 4096) (hl : rs.length ≤ 32) (hRb : rb < w.heap.size) :
    Calls Try.prog 22 #[.int .i64 ((m : Int) + 1), .slice (some ⟨rb, ro, none⟩) rs.length rc, .int .i64 (p : Int)] w fun e w' =>
      e = .returned (.tuple #[.int .i64 (runT (keptB p m rs) nxCount 0 (p ^ m) : Nat), .bool true]) ∧ Below w.heap.size w w' := by
  go_enter Try.func22, Try.ntmps22
  go_wp2_with fail
  refine (tables_any (fun T s W => w.heap.size ≠ T ∧ Box W w.heap.size 2 (.int .i64 (s : Nat))) nxCount 0 true 67 #[.pointer (some ⟨w.heap.size, 0, none⟩)] (fun k => k = w.heap.size) p m rb ro rc rs _ cfCount
    (hR.below ((Below.refl _ _).alloc (Nat.le_refl _) _)) hr hp hp2 hm hpow hl (fun k hk => by simp; omega) (by omega) ?_ ?_ ?_ (fun h => by cases h)).mono ?_
  · exact fun T s W W' h hf => ⟨h.1, h.2.fr hf h.1⟩
  · exact fun T W' hT hf => ⟨by simp at hT; omega, (Box.new w _ _).fr hf (by simp)⟩
  · intro T s W k cap hT hk hI hrow hkp hs _
    have hle := runCount_le (keptB p m rs) k
    exact (cbCount w.heap.size s _ _ W hI.2 (by omega)).mono fun e W' h => ⟨h.1, ⟨hI.1, h.2.1⟩, h.2.2⟩
  · rintro e w1 ⟨rfl, T, hT, hI, hf⟩
    have c0 := hI.2.cell
    have hb : Below w.heap.size w w1 := ((Below.refl _ _).alloc (Nat.le_refl _) _).trans (hf.toBelow (by simp) (fun i hi h => by omega))
    generalize hn : runT (keptB p m rs) nxCount 0 (p ^ m) = n at c0
    have HN := Lib.hid hn
    clear hI hn
    go_wp2
    go_ret2
    exact ⟨by rw [HN.out]; rfl, hb⟩

/-! ### the first one -/
def nxFirst (s : Option Nat) (k : Nat) : Option Nat := match s with | none => some k | some j => some j
theorem runFirst_none (kept : Nat → Bool) : ∀ n, (∀ j, j < n → kept j = false) → runT kept nxFirst none n = none := by
  intro n
  induction n with
  | zero => intro _; rfl
  | succ n ih =>
    intro h
    simp only [runT, h n (by omega)]
    exact ih fun j hj => h j (by omega)
theorem runFirst_keep (kept : Nat → Bool) (i : Nat) : ∀ n k, k ≤ n → runT kept nxFirst none k = some i → runT kept nxFirst none n = some i := by
  intro n
  induction n with
  | zero => intro k hk h; obtain rfl : k = 0 := by omega
            exact h
  | succ n ih =>
    intro k hk h
    by_cases e : k = n + 1
    · subst e; exact h
    · have := ih k (by omega) h
      simp only [runT, this]
      split <;> rfl
theorem runFirst_stop (kept : Nat → Bool) (k n : Nat) (hk : k < n) (h : kept k = true) (hno : ∀ j, j < k → kept j = false) : runT kept nxFirst none n = runT kept nxFirst none (k + 1) := by
  have h1 : runT kept nxFirst none (k + 1) = some k := by
    simp only [runT, h, runFirst_none kept k hno]
    rfl
  rw [h1]
  exact runFirst_keep kept k n (k + 1) (by omega) h1

/-- the slice of a table, or nil -/
def HoldsT (W : World) (B : Nat) (p m : Nat) (v : Value) (s : Option Nat) : Prop := match s with | none => v = .slice none 0 0 | some k => NewI W B v (tab p m k)
theorem HoldsT.fr {C : Nat → Prop} {w w' : World} {B p m : Nat} {v : Value} {s : Option Nat} (h : HoldsT w B p m v s) (hf : Fr C w w') (hC : ∀ k, B ≤ k → ¬ C k) : HoldsT w' B p m v s := by
  cases s with
  | none => exact h
  | some k => exact NewI.fr h hf hC

theorem cbFirst (c T cap p m k : Nat) (x : Int) (W : World) (hb : Box W c 27 (.slice none 0 0)) (hr : RdI W T 0 (tab p m k)) (hm : m + 1 ≤ 12) :
    Calls Try.prog 70 #[.slice (some ⟨T, 0, none⟩) (m + 1) cap, .int .i64 x, .pointer (some ⟨c, 0, none⟩)] W fun e W' => e = .returned (.bool false) ∧ (∃ v, Box W' c 27 v ∧ NewI W' W.heap.size v (tab p m k)) ∧ Fr (fun k => k = c) W W' := by
  have hcl := clone_any T 0 cap (tab p m k) W hr (by rw [tab_len]; omega)
  rw [tab_len] at hcl
  go_enter Try.func70, Try.ntmps70
  go_wp2_with fail
  refine hcl.mono ?_
  rintro e w1 ⟨v, rfl, hn, hbel⟩
  obtain ⟨g, cp, rfl, hg1, hg2, hrd⟩ := hn
  have hb1 : Box w1 c 27 (.slice none 0 0) := hb.fr (C := fun _ => False) (Fr.ofBelow hbel) (fun h => h)
  have c0 := hb1.cell
  have f0 := hb1.fr0
  have hcg : g ≠ c := by have := hb.lt; omega
  clear hcl
  go_wp2
  go_ret
  refine ⟨rfl, ⟨_, hb1.set_ _, ?_⟩, ?_⟩
  · exact NewI.fr ⟨g, cp, rfl, hg1, hg2, hrd⟩ (Fr.set_ (C := fun k => k = c) (Fr.refl w1) (p := ⟨c, 0, none⟩) (fun _ => rfl) _) (fun i hi h => by have := hb.lt; omega)
  · exact (Fr.ofBelow hbel).trans (Fr.set_ (C := fun k => k = c) (Fr.refl w1) (p := ⟨c, 0, none⟩) (fun _ => rfl) _)

theorem first_any (p m rb ro rc : Nat) (rs : List Rul) (w : World)
    (hR : RdR w rb ro rs) (hr : ∀ j, j < rs.length → vRul ((m + 1 : Nat) : Int) p (ru rs j)) (hp : 1 ≤ p) (hp2 : p ≤ 60) (hm : m + 1 ≤ 12) (hpow : p ^ m ≤ 4096) (hl : rs.length ≤ 32) (hRb : rb < w.heap.size) :
    Calls Try.prog 24 #[.int .i64 ((m : Int) + 1), .slice (some ⟨rb, ro, none⟩) rs.length rc, .int .i64 (p : Int)] w fun e w' =>
      ∃ v, e = .returned (.tuple #[v, .bool (runT (keptB p m rs) nxFirst none (p ^ m)).isSome]) ∧ HoldsT w' w.heap.size p m v (runT (keptB p m rs) nxFirst none (p ^ m)) ∧ Below w.heap.size w w' := by
  have hq := fun (w : World) a n c n2 c2 => run_neq_slice_nil_any (P := Try.prog) w 27 2 a n c n2 c2 Try.underlying27
  go_enter Try.func24, Try.ntmps24
  go_wp2_with fail
  refine (tables_any (fun T s W => w.heap.size ≠ T ∧ ∃ v, Box W w.heap.size 27 v ∧ HoldsT W (T + 1) p m v s) nxFirst none false 70 #[.pointer (some ⟨w.heap.size, 0, none⟩)] (fun k => k = w.heap.size) p m rb ro rc rs _ cfFirst
    (hR.below ((Below.refl _ _).alloc (Nat.le_refl _) _)) hr hp hp2 hm hpow hl (fun k hk => by simp; omega) (by omega) ?_ ?_ ?_ (fun _ => runFirst_stop _)).mono ?_
  · rintro T s W W' ⟨h1, v, h2, h3⟩ hf
    exact ⟨h1, v, h2.fr hf h1, h3.fr hf (fun k hk e => by omega)⟩
  · exact fun T W' hT hf => ⟨by simp at hT; omega, _, (Box.new w _ _).fr hf (by simp), rfl⟩
  · intro T s W k cap hT hk hI hrow hkp hs hno
    rw [runFirst_none _ _ (hno rfl)] at hs
    subst hs
    obtain ⟨h1, v, h2, h3⟩ := hI
    obtain rfl : v = .slice none 0 0 := h3
    refine (cbFirst w.heap.size T cap p m k _ W h2 (rdI_tab hrow) hm).mono fun e W' h => ⟨h.1, ⟨h1, ?_⟩, h.2.2⟩
    obtain ⟨v, hb, hn⟩ := h.2.1
    obtain ⟨g, cp, rfl, hg1, hg2, hrd⟩ := hn
    exact ⟨_, hb, g, cp, rfl, by have := hrow.lt; omega, hg2, hrd⟩
  · rintro e w1 ⟨rfl, T, hT, ⟨_, v, hb, hv⟩, hf⟩
    have c0 := hb.cell
    have hbel : Below w.heap.size w w1 := ((Below.refl _ _).alloc (Nat.le_refl _) _).trans (hf.toBelow (by simp) (fun i hi h => by omega))
    simp at hT
    generalize hn : runT (keptB p m rs) nxFirst none (p ^ m) = n at hv
    have HN := Lib.hid hn
    clear hn
    cases n with
    | none =>
      obtain rfl : v = .slice none 0 0 := hv
      go_wp2
      go_quiet (fail)
      go_wp2
      go_ret2
      refine ⟨.slice none 0 0, ?_, ?_, bdrewN hbel _⟩
      · rw [HN.out]; rfl
      · rw [HN.out]; rfl
    | some k =>
      obtain ⟨g, cp, rfl, hg1, hg2, hrd⟩ := hv
      go_wp2
      go_quiet (fail)
      go_wp2
      go_ret2
      refine ⟨.slice (some ⟨g, 0, none⟩) (tab p m k).length cp, ?_, ?_, bdrewN hbel _⟩
      · rw [HN.out]; rfl
      · rw [HN.out]; exact ⟨g, cp, rfl, by omega, hg2, hrd⟩

/-! ### the best one -/
def nxBest (sum : Nat → Int) (s : Option Nat) (k : Nat) : Option Nat := match s with | none => some k | some j => if sum k < sum j then some k else some j
def bestSum (sum : Nat → Int) (s : Option Nat) : Int := match s with | none => 0 | some k => sum k

theorem runBest_lt (kept : Nat → Bool) (sum : Nat → Int) : ∀ n j, runT kept (nxBest sum) none n = some j → j < n := by
  intro n
  induction n with
  | zero => intro j h; cases h
  | succ n ih =>
    intro j h
    simp only [runT] at h
    split at h
    · cases hs : runT kept (nxBest sum) none n with
      | none => rw [hs] at h; simp [nxBest] at h; omega
      | some i =>
        have := ih i hs
        rw [hs] at h
        simp only [nxBest] at h
        split at h <;> simp at h <;> omega
    · have := ih j h
      omega

theorem cbBest_take (c T cap p m k : Nat) (x y : Int) (v : Value) (W : World) (hb : Box W c 27 v) (hb2 : Box W (c + 1) 2 (.int .i64 y)) (hv : v = .slice none 0 0 ∨ (x < y ∧ ∃ g n cp, v = .slice (some ⟨g, 0, none⟩) n cp)) (hr : RdI W T 0 (tab p m k)) (hm : m + 1 ≤ 12) :
    Calls Try.prog 72 #[.slice (some ⟨T, 0, none⟩) (m + 1) cap, .int .i64 x, .pointer (some ⟨c, 0, none⟩), .pointer (some ⟨c + 1, 0, none⟩)] W fun e W' => e = .returned (.bool true) ∧ (∃ v, Box W' c 27 v ∧ NewI W' W.heap.size v (tab p m k)) ∧ Box W' (c + 1) 2 (.int .i64 x) ∧ Fr (fun k => k = c ∨ k = c + 1) W W' := by
  have hcl := clone_any T 0 cap (tab p m k) W hr (by rw [tab_len]; omega)
  rw [tab_len] at hcl
  have hq := fun (w : World) a n c n' c' => Lib.run_eql_slice_nil (P := Try.prog) w 27 2 a n c n' c' Try.underlying27
  have c0 := hb.cell
  have f0 := hb.fr0
  have c1 := hb2.cell
  have f1 := hb2.fr0
  have HV := Lib.hid hv
  rcases hv with rfl | ⟨hlt, g0, n0, cp0, rfl⟩
  all_goals
    go_enter Try.func72, Try.ntmps72
    go_wp2_with fail
    refine hcl.mono ?_
    rintro e w1 ⟨v, rfl, hn, hbel⟩
    obtain ⟨g, cp, rfl, hg1, hg2, hrd⟩ := hn
    have hb1 := hb.fr (C := fun _ => False) (Fr.ofBelow hbel) (fun h => h)
    have hb3 := hb2.fr (C := fun _ => False) (Fr.ofBelow hbel) (fun h => h)
    have d0 := hb1.cell
    have e0 := hb1.fr0
    have d1 := hb3.cell
    have e1 := hb3.fr0
    have hcg : g ≠ c := by have := hb.lt; omega
    clear hcl c0 f0 c1 f1
    go_wp2
    go_ret
    have hf : Fr (fun k => k = c ∨ k = c + 1) w1 ((w1.setCell ⟨c, 0, none⟩ (.slice (some ⟨g, 0, none⟩) (tab p m k).length cp)).setCell ⟨c + 1, 0, none⟩ (.int .i64 x)) :=
      Fr.set_ (p := ⟨c + 1, 0, none⟩) (Fr.set_ (p := ⟨c, 0, none⟩) (Fr.refl w1) (fun _ => .inl rfl) _) (fun _ => .inr rfl) _
    refine ⟨rfl, ⟨.slice (some ⟨g, 0, none⟩) (tab p m k).length cp, ?_, ?_⟩, ?_, (Fr.ofBelow hbel).trans hf⟩
    · exact (hb1.set_ _).fr (C := fun k => k = c + 1) (Fr.one _ (c + 1) 0 _) (by omega)
    · exact NewI.fr (l := tab p m k) ⟨g, cp, rfl, hg1, hg2, hrd⟩ hf (fun i hi h => by have := hb.lt; have := hb2.lt; omega)
    · exact (hb3.fr (C := fun k => k = c) (Fr.one w1 c 0 _) (by omega)).set_ _

theorem cbBest_leave (c : Nat) (a : Value) (x y : Int) (g n cp : Nat) (W : World) (hb : Box W c 27 (.slice (some ⟨g, 0, none⟩) n cp)) (hb2 : Box W (c + 1) 2 (.int .i64 y)) (hge : y ≤ x) :
    Calls Try.prog 72 #[a, .int .i64 x, .pointer (some ⟨c, 0, none⟩), .pointer (some ⟨c + 1, 0, none⟩)] W fun e W' => e = .returned (.bool true) ∧ W = W' := by
  have hq := fun (w : World) a n c n' c' => Lib.run_eql_slice_nil (P := Try.prog) w 27 2 a n c n' c' Try.underlying27
  have c0 := hb.cell
  have c1 := hb2.cell
  go_enter Try.func72, Try.ntmps72
  go_wp2
  go_ret
  exact ⟨rfl, rfl⟩

theorem best_any (p m rb ro rc : Nat) (rs : List Rul) (w : World)
    (hR : RdR w rb ro rs) (hr : ∀ j, j < rs.length → vRul ((m + 1 : Nat) : Int) p (ru rs j)) (hp : 1 ≤ p) (hp2 : p ≤ 60) (hm : m + 1 ≤ 12) (hpow : p ^ m ≤ 4096) (hl : rs.length ≤ 32) (hRb : rb < w.heap.size) :
    Calls Try.prog 25 #[.int .i64 ((m : Int) + 1), .slice (some ⟨rb, ro, none⟩) rs.length rc, .int .i64 (p : Int)] w fun e w' =>
      ∃ v, e = .returned (.tuple #[v, .int .i64 (bestSum (sumT p m rs) (runT (keptB p m rs) (nxBest (sumT p m rs)) none (p ^ m))), .bool (runT (keptB p m rs) (nxBest (sumT p m rs)) none (p ^ m)).isSome]) ∧ HoldsT w' w.heap.size p m v (runT (keptB p m rs) (nxBest (sumT p m rs)) none (p ^ m)) ∧ Below w.heap.size w w' := by
  have hq := fun (w : World) a n c n2 c2 => run_neq_slice_nil_any (P := Try.prog) w 27 2 a n c n2 c2 Try.underlying27
  go_enter Try.func25, Try.ntmps25
  go_wp2_with fail
  have hbel0 : Below w.heap.size w ((w.alloc (.cells #[.slice none 0 0] 27)).alloc (.cells #[.int .i64 0] 2)) := ((Below.refl _ _).alloc (Nat.le_refl _) _).alloc (by simp) _
  have hbx1 : Box ((w.alloc (.cells #[.slice none 0 0] 27)).alloc (.cells #[.int .i64 0] 2)) w.heap.size 27 (.slice none 0 0) := (Box.new w _ _).fr (C := fun _ => False) ((Fr.refl _).alloc _) (fun h => h)
  have hbx2 : Box ((w.alloc (.cells #[.slice none 0 0] 27)).alloc (.cells #[.int .i64 0] 2)) (w.heap.size + 1) 2 (.int .i64 0) := by
    have := Box.new (w.alloc (.cells #[.slice none 0 0] 27)) 2 (.int .i64 0)
    simpa using this
  refine (tables_any (fun T s W => w.heap.size + 1 < T ∧ (∃ v, Box W w.heap.size 27 v ∧ HoldsT W (T + 1) p m v s) ∧ Box W (w.heap.size + 1) 2 (.int .i64 (bestSum (sumT p m rs) s))) (nxBest (sumT p m rs)) none true 72 #[.pointer (some ⟨w.heap.size, 0, none⟩), .pointer (some ⟨w.heap.size + 1, 0, none⟩)] (fun k => k = w.heap.size ∨ k = w.heap.size + 1) p m rb ro rc rs _ cfBest
    (hR.below hbel0) hr hp hp2 hm hpow hl (fun k hk => by simp; omega) (by omega) ?_ ?_ ?_ (fun h => by cases h)).mono ?_
  · rintro T s W W' ⟨h1, ⟨v, h2, h3⟩, h4⟩ hf
    exact ⟨h1, ⟨v, h2.fr hf (by omega), h3.fr hf (fun k hk e => by omega)⟩, h4.fr hf (by omega)⟩
  · exact fun T W' hT hf => ⟨by simp at hT; omega, ⟨_, hbx1.fr hf (fun h => h), rfl⟩, hbx2.fr hf (fun h => h)⟩
  · rintro T s W k cap hT hk ⟨h1, ⟨v, h2, h3⟩, h4⟩ hrow hkp hs _
    by_cases htake : nxBest (sumT p m rs) s k = some k
    · have hv : v = .slice none 0 0 ∨ (sumT p m rs k < bestSum (sumT p m rs) s ∧ ∃ g n cp, v = .slice (some ⟨g, 0, none⟩) n cp) := by
        cases s with
        | none => exact .inl h3
        | some j =>
          obtain ⟨g, cp, rfl, _⟩ := h3
          refine .inr ⟨?_, g, _, cp, rfl⟩
          by_cases hlt : sumT p m rs k < sumT p m rs j
          · exact hlt
          · simp [nxBest, hlt] at htake
            subst htake
            have := runBest_lt _ _ _ _ hs.symm
            omega
      refine (cbBest_take w.heap.size T cap p m k _ _ v W h2 h4 hv (rdI_tab hrow) hm).mono fun e W' h => ⟨h.1, ⟨h1, ?_, ?_⟩, h.2.2.2⟩
      · obtain ⟨v, hb, g, cp, rfl, hg1, hg2, hrd⟩ := h.2.1
        rw [htake]
        exact ⟨_, hb, g, cp, rfl, by have := hrow.lt; omega, hg2, hrd⟩
      · rw [htake]; exact h.2.2.1
    · cases s with
      | none => exact absurd rfl htake
      | some j =>
        have hge : ¬ sumT p m rs k < sumT p m rs j := fun h => htake (by simp [nxBest, h])
        have hn : nxBest (sumT p m rs) (some j) k = some j := by simp [nxBest, hge]
        obtain ⟨g, cp, rfl, hr3⟩ := h3
        refine (cbBest_leave w.heap.size _ _ _ g _ cp W h2 h4 (by simp only [bestSum]; omega)).mono ?_
        rintro e W' ⟨rfl, rfl⟩
        rw [hn]
        exact ⟨rfl, ⟨h1, ⟨_, h2, g, cp, rfl, hr3⟩, h4⟩, Fr.refl _⟩
  · rintro e w1 ⟨rfl, T, hT, ⟨hT2, ⟨v, hb, hv⟩, hb2⟩, hf⟩
    have c0 := hb.cell
    have hbel : Below w.heap.size w w1 := hbel0.trans (hf.toBelow (by simp; omega) (fun i hi h => by omega))
    generalize hn : runT (keptB p m rs) (nxBest (sumT p m rs)) none (p ^ m) = n at hv hb2
    have HN := Lib.hid hn
    clear hn hbx1 hbx2 hbel0
    cases n with
    | none =>
      obtain rfl : v = .slice none 0 0 := hv
      have c1 := hb2.cell
      simp only [bestSum] at c1
      go_wp2
      go_quiet (fail)
      go_wp2
      go_ret3
      refine ⟨.slice none 0 0, ?_, ?_, bdrewN hbel _⟩
      · rw [HN.out]; rfl
      · rw [HN.out]; rfl
    | some k =>
      obtain ⟨g, cp, rfl, hg1, hg2, hrd⟩ := hv
      have c1 := hb2.cell
      simp only [bestSum] at c1
      go_wp2
      go_quiet (fail)
      go_wp2
      go_ret3
      refine ⟨.slice (some ⟨g, 0, none⟩) (tab p m k).length cp, ?_, ?_, bdrewN hbel _⟩
      · rw [HN.out]; rfl
      · rw [HN.out]; exact ⟨g, cp, rfl, by omega, hg2, hrd⟩
end Go.Proofs.Yteiofihgpalkiaa
