/- The plain law of shifts: the states along a shift, the shift behind one; how many work in each slot. -/
import Derived.Test.YteiofihgpalkiaaDoorShD
namespace Go.Proofs.YteiofihgpalkiaaDoor
open Go Go.RowKit

/-- the states ahead of each slot, and behind the last one, as far as the text goes -/
def pth (r : SR) : List Bool → St → List St
  | [], s => [s]
  | b :: t, s => s :: (match nxt r s b with | none => [] | some s' => pth r t s')
theorem pth_head (r : SR) (t : List Bool) (s : St) : (pth r t s)[0]? = some s := by cases t <;> rfl
theorem acc_cons {r : SR} {b : Bool} {t : List Bool} {s : St} (h : acc r (b :: t) s = true) : ∃ s1, nxt r s b = some s1 ∧ acc r t s1 = true := by
  unfold acc at h
  cases hx : nxt r s b with
  | none => rw [hx] at h; cases h
  | some s1 => rw [hx] at h; exact ⟨s1, rfl, h⟩
theorem pth_step (r : SR) : ∀ (t : List Bool) (s : St) (i : Nat) (si : St), acc r t s = true → (pth r t s)[i]? = some si → (h : i < t.length) → ∃ s', nxt r si t[i] = some s' ∧ (pth r t s)[i + 1]? = some s' := by
  intro t
  induction t with
  | nil => intro s i si _ _ h; simp at h
  | cons b t ih =>
    intro s i si ha hp h
    obtain ⟨s1, hx, ha1⟩ := acc_cons ha
    cases i with
    | zero =>
      rw [pth_head] at hp
      simp only [Option.some.injEq] at hp
      subst hp
      refine ⟨s1, by simpa using hx, ?_⟩
      simp only [pth, hx, List.getElem?_cons_succ]
      exact pth_head r t s1
    | succ i =>
      simp only [pth, hx, List.getElem?_cons_succ] at hp
      obtain ⟨s', h1, h2⟩ := ih s1 i si ha1 hp (by simpa using h)
      exact ⟨s', by simpa using h1, by simpa [pth, hx] using h2⟩
theorem pth_len (r : SR) : ∀ (t : List Bool) (s : St), acc r t s = true → (pth r t s).length = t.length + 1 := by
  intro t
  induction t with
  | nil => intro s _; rfl
  | cons b t ih =>
    intro s ha
    obtain ⟨s1, hx, ha1⟩ := acc_cons ha
    simp [pth, hx, ih s1 ha1]
theorem pth_at {r : SR} (hr : r.Ok) {t : List Bool} {s : St} (ha : acc r t s = true) (hs : s.In r) : ∀ i, i ≤ t.length → ∃ si, (pth r t s)[i]? = some si ∧ si.In r ∧ si.slot = s.slot + i := by
  intro i
  induction i with
  | zero => intro _; exact ⟨s, pth_head r t s, hs, by simp⟩
  | succ i ih =>
    intro hi
    obtain ⟨si, h1, h2, h3⟩ := ih (by omega)
    obtain ⟨s', h4, h5⟩ := pth_step r t s i si ha h1 (by omega)
    obtain ⟨h6, h7⟩ := h2.nxt hr h4
    exact ⟨s', h5, h6, by omega⟩
theorem sc_up (r : SR) : ∀ (t : List Bool) (s : St) (i : Nat) (si : St) (u : List Bool), acc r t s = true → (pth r t s)[i]? = some si → i ≤ t.length → sc r (t.drop i) si = some u → sc r t s = some (t.take i ++ u) := by
  intro t
  induction t with
  | nil => intro s i si u _ _ _ h; simp [sc] at h
  | cons b t ih =>
    intro s i si u ha hp hi h
    obtain ⟨s1, hx, ha1⟩ := acc_cons ha
    cases i with
    | zero =>
      rw [pth_head] at hp
      simp only [Option.some.injEq] at hp
      subst hp
      simpa using h
    | succ i =>
      simp only [pth, hx, List.getElem?_cons_succ] at hp
      have h1 := ih s1 i si u ha1 hp (by simpa using hi) (by simpa using h)
      cases b <;> simp [sc, hx, h1]
theorem sc_true {r : SR} {t : List Bool} {s s1 : St} (hx : nxt r s true = some s1) (h : sc r t s1 = none) : sc r (true :: t) s = none := by simp [sc, hx, h]
theorem sc_false_none {r : SR} {t : List Bool} {s s1 : St} (hx : nxt r s false = some s1) (h : sc r t s1 = none) (hy : nxt r s true = none) : sc r (false :: t) s = none := by simp [sc, hx, h, hy]
theorem sc_false_some {r : SR} {t : List Bool} {s s1 s2 : St} (hx : nxt r s false = some s1) (h : sc r t s1 = none) (hy : nxt r s true = some s2) : sc r (false :: t) s = (lst r t.length s2).head?.map (true :: ·) := by simp [sc, hx, h, hy]

/-- how many work in slot k -/
def cov : List (List Bool) → List Int → Nat → Int
  | t :: S, c :: C, k => (if t.getD k false = true then c else 0) + cov S C k
  | _, _, _ => 0
theorem cov_snoc : ∀ (S : List (List Bool)) (C : List Int) (t : List Bool) (c : Int) (k : Nat), S.length = C.length → cov (S ++ [t]) (C ++ [c]) k = cov S C k + (if t.getD k false = true then c else 0) := by
  intro S
  induction S with
  | nil =>
    intro C t c k h
    obtain rfl : C = [] := List.eq_nil_of_length_eq_zero (by simpa using h.symm)
    simp [cov]
  | cons a S ih =>
    intro C t c k h
    cases C with
    | nil => simp at h
    | cons d C =>
      simp only [List.cons_append, cov]
      rw [ih C t c k (by simpa using h)]
      omega
theorem cov_set : ∀ (S : List (List Bool)) (C : List Int) (i : Nat) (k : Nat), S.length = C.length → i < S.length → cov S (C.set i (gi C i + 1)) k = cov S C k + (if (S.getD i []).getD k false = true then 1 else 0) := by
  intro S
  induction S with
  | nil => intro C i k _ h; simp at h
  | cons a S ih =>
    intro C i k h hi
    cases C with
    | nil => simp at h
    | cons d C =>
      cases i with
      | zero =>
        simp only [List.set_cons_zero, cov, gi, List.getD_cons_zero]
        split <;> omega
      | succ i =>
        simp only [List.set_cons_succ, cov]
        have e : gi (d :: C) (i + 1) = gi C i := by simp [gi]
        rw [e, ih C i k (by simpa using h) (by simpa using hi)]
        simp only [List.getD_cons_succ]
        omega
theorem cov_zero : ∀ (S : List (List Bool)) (n : Nat) (k : Nat), cov S (List.replicate n 0) k = 0 := by
  intro S
  induction S with
  | nil => intro n k; simp [cov]
  | cons a S ih =>
    intro n k
    cases n with
    | zero => simp [cov]
    | succ n =>
      simp only [List.replicate_succ, cov, ih]
      split <;> rfl
/-- the sum of what is positive -/
def psum : List Int → Nat
  | [] => 0
  | x :: l => x.toNat + psum l
theorem psum_le (m : Nat) : ∀ (l : List Int), (∀ x ∈ l, x ≤ m) → psum l ≤ m * l.length := by
  intro l
  induction l with
  | nil => intro _; simp [psum]
  | cons a l ih =>
    intro h
    have h1 := ih (fun x hx => h x (by simp [hx]))
    have h2 := h a (by simp)
    simp only [psum, List.length_cons, Nat.mul_succ]
    omega
theorem psum_set_le : ∀ (l : List Int) (i : Nat), psum (l.set i (gi l i - 1)) ≤ psum l ∧ (i < l.length → 0 < gi l i → psum (l.set i (gi l i - 1)) < psum l) := by
  intro l
  induction l with
  | nil => intro i; simp [psum]
  | cons a l ih =>
    intro i
    cases i with
    | zero =>
      simp only [List.set_cons_zero, psum, gi, List.getD_cons_zero]
      constructor
      · omega
      · intro _ h; omega
    | succ i =>
      have e : gi (a :: l) (i + 1) = gi l i := by simp [gi]
      obtain ⟨h1, h2⟩ := ih i
      simp only [List.set_cons_succ, psum]
      rw [e]
      refine ⟨by omega, fun h3 h4 => ?_⟩
      have := h2 (by simpa using h3) h4
      omega
end Go.Proofs.YteiofihgpalkiaaDoor
