/- The plain law of shifts: which texts are shifts, in which order, how many they are, which one is behind another one. -/
import Derived.WalkKit
namespace Go.Proofs.YteiofihgpalkiaaDoor

structure SR where
  slots : Int
  least : Int
  most : Int
  row : Int
  pause : Int
structure St where
  slot : Int
  worked : Int
  row : Int
  pause : Int
  begun : Bool

def nxt (r : SR) (s : St) (b : Bool) : Option St :=
  if s.slot = r.slots then none
  else if b = true then
    if (s.begun = true ∧ s.row = 0 ∧ s.pause < r.pause) ∨ s.row = r.row ∨ s.worked = r.most then none
    else some ⟨s.slot + 1, s.worked + 1, s.row + 1, 0, true⟩
  else some ⟨s.slot + 1, s.worked, 0, min (s.pause + 1) r.pause, s.begun⟩

/-- all shifts behind a state, in their order -/
def lst (r : SR) : Nat → St → List (List Bool)
  | 0, s => if r.least ≤ s.worked then [[]] else []
  | n + 1, s => (match nxt r s false with | none => [] | some t => (lst r n t).map (false :: ·)) ++ (match nxt r s true with | none => [] | some t => (lst r n t).map (true :: ·))
def acc (r : SR) : List Bool → St → Bool
  | [], s => decide (r.least ≤ s.worked)
  | b :: t, s => match nxt r s b with | none => false | some s' => acc r t s'

theorem mem_lst (r : SR) : ∀ (n : Nat) (s : St) (t : List Bool), t ∈ lst r n s ↔ t.length = n ∧ acc r t s = true := by
  intro n
  induction n with
  | zero =>
    intro s t
    unfold lst
    constructor
    · intro h
      split at h
      · simp at h; subst h; simpa [acc]
      · simp at h
    · rintro ⟨h, ha⟩
      obtain rfl : t = [] := List.eq_nil_of_length_eq_zero h
      simp [acc] at ha
      rw [if_pos ha]; simp
  | succ n ih =>
    intro s t
    unfold lst
    cases t with
    | nil => cases h1 : nxt r s false <;> cases h2 : nxt r s true <;> simp
    | cons b t =>
      cases b
      · cases h1 : nxt r s false <;> cases h2 : nxt r s true <;> simp [acc, h1, ih]
      · cases h1 : nxt r s false <;> cases h2 : nxt r s true <;> simp [acc, h2, ih]

/-- the text of n slots in the bits of a number -/
def bitsOf : Nat → Nat → List Bool
  | 0, _ => []
  | n + 1, x => (x % 2 == 1) :: bitsOf n (x / 2)
theorem bitsOf_len : ∀ n x, (bitsOf n x).length = n := by
  intro n
  induction n with
  | zero => intro x; rfl
  | succ n ih => intro x; simp [bitsOf, ih]
theorem bitsOf_get : ∀ n x k, k < n → (bitsOf n x)[k]? = some (x / 2 ^ k % 2 == 1) := by
  intro n
  induction n with
  | zero => intro x k hk; omega
  | succ n ih =>
    intro x k hk
    cases k with
    | zero => simp [bitsOf]
    | succ k =>
      simp only [bitsOf, List.getElem?_cons_succ]
      rw [ih _ _ (by omega), Nat.div_div_eq_div_mul, Nat.pow_succ, Nat.mul_comm 2]
def cnt (p : Nat → Bool) : Nat → Nat
  | 0 => 0
  | n + 1 => cnt p n + (if p n then 1 else 0)
theorem cnt_two (p : Nat → Bool) : ∀ m, cnt p (2 * m) = cnt (fun y => p (2 * y)) m + cnt (fun y => p (2 * y + 1)) m := by
  intro m
  induction m with
  | zero => rfl
  | succ m ih =>
    rw [show 2 * (m + 1) = 2 * m + 1 + 1 by omega]
    simp only [cnt, ih]
    omega
theorem cnt_ext (p q : Nat → Bool) : ∀ m, (∀ y, y < m → p y = q y) → cnt p m = cnt q m := by
  intro m
  induction m with
  | zero => intro _; rfl
  | succ m ih => intro h; simp only [cnt]; rw [ih (fun y hy => h y (by omega)), h m (by omega)]
theorem cnt_none (p : Nat → Bool) : ∀ m, (∀ y, p y = false) → cnt p m = 0 := by
  intro m
  induction m with
  | zero => intro _; rfl
  | succ m ih => intro h; simp only [cnt]; rw [ih h, h m]; rfl
theorem cnt_lst (r : SR) : ∀ (n : Nat) (s : St), cnt (fun x => acc r (bitsOf n x) s) (2 ^ n) = (lst r n s).length := by
  intro n
  induction n with
  | zero =>
    intro s
    by_cases h : r.least ≤ s.worked <;> simp [cnt, bitsOf, acc, lst, h]
  | succ n ih =>
    intro s
    rw [Nat.pow_succ, Nat.mul_comm, cnt_two]
    have e0 : ∀ y, bitsOf (n + 1) (2 * y) = false :: bitsOf n y := fun y => by
      have h1 : (2 * y) % 2 = 0 := by omega
      have h2 : (2 * y) / 2 = y := by omega
      simp [bitsOf, h1, h2]
    have e1 : ∀ y, bitsOf (n + 1) (2 * y + 1) = true :: bitsOf n y := fun y => by
      have h1 : (2 * y + 1) % 2 = 1 := by omega
      have h2 : (2 * y + 1) / 2 = y := by omega
      simp [bitsOf, h1, h2]
    simp only [e0, e1, acc, lst, List.length_append]
    congr 1
    · cases h : nxt r s false with
      | none => simp [cnt_none]
      | some t => simp [ih]
    · cases h : nxt r s true with
      | none => simp [cnt_none]
      | some t => simp [ih]

/-- the shift behind one -/
def sc (r : SR) : List Bool → St → Option (List Bool)
  | [], _ => none
  | true :: t, s => match nxt r s true with | none => none | some s' => (sc r t s').map (true :: ·)
  | false :: t, s =>
    match (match nxt r s false with | none => none | some s' => sc r t s') with
    | some u => some (false :: u)
    | none => match nxt r s true with | none => none | some s' => (lst r t.length s').head?.map (true :: ·)

theorem sc_lst (r : SR) : ∀ (n : Nat) (s : St) (A B : List (List Bool)) (t : List Bool), lst r n s = A ++ t :: B → sc r t s = B.head? := by
  intro n
  induction n with
  | zero =>
    intro s A B t h
    unfold lst at h
    split at h
    · cases A with
      | nil =>
        simp at h
        obtain ⟨rfl, rfl⟩ := h
        rfl
      | cons a A => simp at h
    · simp at h
  | succ n ih =>
    intro s A B t h
    have hm : t ∈ lst r (n + 1) s := by rw [h]; simp
    have ht := ((mem_lst r _ _ _).1 hm).1
    unfold lst at h
    cases t with
    | nil => simp at ht
    | cons b t =>
      have htl : t.length = n := by simpa using ht
      have split_at : ∀ (L1 L2 : List (List Bool)), L1 ++ L2 = A ++ (b :: t) :: B → (∃ B1, L1 = A ++ (b :: t) :: B1 ∧ B = B1 ++ L2) ∨ (∃ A2, A = L1 ++ A2 ∧ L2 = A2 ++ (b :: t) :: B) := by
        intro L1 L2 e
        rcases List.append_eq_append_iff.1 e with ⟨as, h1, h2⟩ | ⟨bs, h1, h2⟩
        · exact .inr ⟨as, h1, h2⟩
        · cases bs with
          | nil =>
            simp at h2 h1
            exact .inr ⟨[], by simp [h1], by simp [h2]⟩
          | cons x bs =>
            simp at h2
            obtain ⟨rfl, h2⟩ := h2
            exact .inl ⟨bs, h1, h2⟩
      cases b
      · -- the text goes on with a free slot
        cases h1 : nxt r s false with
        | none =>
          rw [h1] at h
          exfalso
          simp only [List.nil_append] at h
          cases h2 : nxt r s true with
          | none => rw [h2] at h; simp at h
          | some s2 =>
            rw [h2] at h
            simp only at h
            have : (false :: t) ∈ (lst r n s2).map (true :: ·) := by rw [h]; simp
            simp at this
        | some s1 =>
          rw [h1] at h
          simp only at h
          rcases split_at _ _ h with ⟨B1, e1, e2⟩ | ⟨A2, e1, e2⟩
          · obtain ⟨A0, R0, q1, q2, q3⟩ := List.map_eq_append_iff.1 e1
            obtain ⟨t0, B0, rfl, q4, q5⟩ := List.map_eq_cons_iff.1 q3
            simp at q4
            subst q4
            have hs := ih s1 A0 B0 t0 q1
            unfold sc
            rw [h1]
            simp only [hs]
            rw [e2, ← q5]
            cases B0 with
            | cons u B0 => simp
            | nil =>
              simp only [List.head?_nil, List.map_nil, List.nil_append]
              cases h2 : nxt r s true with
              | none => simp
              | some s2 => simp [htl]
          · exfalso
            cases h2 : nxt r s true with
            | none => rw [h2] at e2; simp at e2
            | some s2 =>
              rw [h2] at e2
              simp only at e2
              have : (false :: t) ∈ (lst r n s2).map (true :: ·) := by rw [e2]; simp
              simp at this
      · cases h2 : nxt r s true with
        | none =>
          rw [h2] at h
          exfalso
          cases h1 : nxt r s false with
          | none => rw [h1] at h; simp at h
          | some s1 =>
            rw [h1] at h
            simp only [List.append_nil] at h
            have : (true :: t) ∈ (lst r n s1).map (false :: ·) := by rw [h]; simp
            simp at this
        | some s2 =>
          rw [h2] at h
          simp only at h
          rcases split_at _ _ h with ⟨B1, e1, e2⟩ | ⟨A2, e1, e2⟩
          · exfalso
            cases h1 : nxt r s false with
            | none => rw [h1] at e1; simp at e1
            | some s1 =>
              rw [h1] at e1
              simp only at e1
              have : (true :: t) ∈ (lst r n s1).map (false :: ·) := by rw [e1]; simp
              simp at this
          · obtain ⟨A0, R0, q1, q2, q3⟩ := List.map_eq_append_iff.1 e2
            obtain ⟨t0, B0, rfl, q4, q5⟩ := List.map_eq_cons_iff.1 q3
            simp at q4
            subst q4
            have hs := ih s2 A0 B0 t0 q1
            unfold sc
            rw [h2]
            simp only [hs]
            rw [← q5]
            cases B0 <;> simp

/-- what the law itself asks of a text -/
def r8go (r : SR) : List Bool → Int → Int → Int → Bool
  | [], w, _, _ => decide (r.least ≤ w) && decide (w ≤ r.most)
  | false :: t, w, _, f => r8go r t w 0 (f + 1)
  | true :: t, w, k, f => if 0 < w ∧ 0 < f ∧ f < r.pause then false else if r.row < k + 1 then false else r8go r t (w + 1) (k + 1) 0
theorem r8go_more (r : SR) : ∀ (t : List Bool) (w k f : Int), r.most < w → r8go r t w k f = false := by
  intro t
  induction t with
  | nil => intro w k f h; simp [r8go]; omega
  | cons b t ih =>
    intro w k f h
    cases b
    · simp [r8go, ih _ _ _ h]
    · simp only [r8go]
      split
      · rfl
      · split
        · rfl
        · exact ih _ _ _ (by omega)
theorem acc_r8 (r : SR) : ∀ (t : List Bool) (s : St) (w k f : Int), s.slot + t.length = r.slots → s.worked = w → s.row = k → (s.begun = true ↔ 0 < w) → (0 < w → s.pause = min f r.pause) → 0 ≤ w → w ≤ r.most → 0 ≤ k → k ≤ r.row → 0 ≤ f → (0 < w → (k = 0 ↔ 0 < f)) → 0 < r.pause → acc r t s = r8go r t w k f := by
  intro t
  induction t with
  | nil =>
    intro s w k f h1 h2 h3 h4 h5 h6 h7 h8 h9 h10 h11 h12
    simp [acc, r8go, h2, h7]
  | cons b t ih =>
    intro s w k f h1 h2 h3 h4 h5 h6 h7 h8 h9 h10 h11 h12
    have hs : s.slot ≠ r.slots := by simp at h1; omega
    have hl : s.slot + 1 + t.length = r.slots := by simp at h1; omega
    cases b
    · simp only [acc, r8go, nxt, if_neg hs]
      simp only [Bool.false_eq_true, if_false]
      refine ih _ w 0 (f + 1) hl h2 rfl h4 ?_ h6 h7 (by omega) (by omega) (by omega) (by omega) h12
      intro hw
      simp only
      rw [h5 hw]
      omega
    · simp only [acc, r8go, nxt, if_neg hs, if_true]
      by_cases c1 : 0 < w ∧ 0 < f ∧ f < r.pause
      · rw [if_pos c1, if_pos]
        left
        refine ⟨h4.2 c1.1, by rw [h3]; exact (h11 c1.1).2 c1.2.1, by rw [h5 c1.1]; omega⟩
      · rw [if_neg c1]
        by_cases c2 : r.row < k + 1
        · rw [if_pos c2, if_pos]
          right; left; omega
        · rw [if_neg c2]
          by_cases c3 : w = r.most
          · rw [if_pos (by right; right; omega), r8go_more _ _ _ _ _ (by omega)]
          · rw [if_neg]
            · simp only
              exact ih _ (w + 1) (k + 1) 0 hl (by simp only; omega) (by simp only; omega) (by simp; omega) (by intro _; simp only; omega) (by omega) (by omega) (by omega) (by omega) (by omega) (by omega) h12
            · rintro (⟨q1, q2, q3⟩ | q | q)
              · have hw := h4.1 q1
                apply c1
                rw [h5 hw] at q3
                have := (h11 hw).1 (by omega)
                omega
              · omega
              · omega
end Go.Proofs.YteiofihgpalkiaaDoor
