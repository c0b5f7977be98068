/- Sines and phasors: the walks, each along what its operations give. -/
import Derived.Test.YteiofihgpalkiaaBase
import Derived.Laws.FloatArith
import Derived.Deep.LoopGhost
namespace Go.Proofs.Yteiofihgpalkiaa
open Go Go.RowKit

abbrev fb (op : BinOp) (x y : Nat) : Option Nat := floatBits op .f64 x y
def fOne : Nat := 4607182418800017408
def fHalf : Nat := 4602678819172646912
def fQuarter : Nat := 4598175219545276416
def fTurn : Nat := 4618760256179416344
def fTwo : Nat := 4611686018427387904
def lt64 (x y : Nat) : Bool := FloatKind.f64.format.order x y == some .lt
def gt64 (x y : Nat) : Bool := FloatKind.f64.format.order x y == some .gt
def ge64 (x y : Nat) : Bool := FloatKind.f64.format.order x y == some .gt || FloatKind.f64.format.order x y == some .eq

def fractionM (x : Nat) : Option Nat :=
  (floatToIntVal .f64 x .i64).bind fun n => (fb .sub x (floatOfInt .f64 n)).bind fun f => if lt64 f 0 then fb .add f fOne else some f

theorem fraction_any (x r : Nat) (w : World) (h : fractionM x = some r) :
    Calls Try.prog 133 #[.float .f64 x] w fun e w' => e = .returned (.float .f64 r) ∧ w = w' := by
  simp only [fractionM, Option.bind_eq_some_iff] at h
  obtain ⟨n, hn, f, hf, h⟩ := h
  have r1 := fun w => run_convert_float_int (P := Try.prog) w 66 2 .f64 .i64 x n (by kernel_rfl) Try.underlying2 hn
  have r2 := fun w => run_float_arith (P := Try.prog) w .sub 66 .f64 x _ _ hf
  by_cases hl : lt64 f 0 = true
  · rw [if_pos hl] at h
    have r3 := fun w => run_float_arith (P := Try.prog) w .add 66 .f64 f _ _ h
    unfold lt64 at hl
    unfold fOne at r3
    clear hn hf h
    go_enter Try.func133, Try.ntmps133
    go_wp2
    go_ret
    exact ⟨rfl, rfl⟩
  · rw [if_neg hl] at h
    have he := Option.some.inj h
    subst he
    have hl' : lt64 f 0 = false := by simpa using hl
    unfold lt64 at hl'
    clear hn hf hl
    go_enter Try.func133, Try.ntmps133
    go_wp2
    go_ret
    exact ⟨rfl, rfl⟩

/-- the numbers 0 to 8 -/
def kb (k : Nat) : Nat := [0, 4607182418800017408, 4611686018427387904, 4613937818241073152, 4616189618054758400, 4617315517961601024, 4618441417868443648, 4619567317775286272, 4620693217682128896].getD k 0
def denM (k : Nat) : Option Nat := (fb .mul fTwo (kb k)).bind fun b => (fb .add b fOne).bind fun c => fb .mul b c
def stepM (u p k : Nat) : Option Nat := (fb .mul u p).bind fun a => (denM k).bind fun d => (fb .quo a d).bind fun e => fb .sub fOne e
def loopM (u : Nat) : Nat → Nat → Option Nat
  | 0, p => some p
  | k + 1, p => (stepM u p (k + 1)).bind fun q => loopM u k q
/-- the sine of a fraction of at most a quarter -/
def sineM (x : Nat) : Option Nat :=
  (fractionM x).bind fun f => if ge64 f fHalf || gt64 f fQuarter then none else
    (fb .mul f fTurn).bind fun z => (fb .mul z z).bind fun u => (loopM u 8 fOne).bind fun p => fb .mul z p

theorem kb_step : ∀ k : Fin 8, ge64 (kb (k + 1)) fOne = true ∧ fb .sub (kb (k + 1)) fOne = some (kb k) := by decide +kernel
theorem kb_end : ge64 (kb 0) fOne = false := by decide +kernel

theorem kb_run (k : Nat) (hk : k < 8) : ((FloatKind.f64.format.order (kb (k + 1)) 4607182418800017408 == some .gt || FloatKind.f64.format.order (kb (k + 1)) 4607182418800017408 == some .eq) = true) ∧
    ∀ w, (binOp .sub 66 (.float .f64 (kb (k + 1))) (.float .f64 4607182418800017408)).run Try.prog w = .ok (.float .f64 (kb k)) w := by
  obtain ⟨h1, h2⟩ := kb_step ⟨k, hk⟩
  exact ⟨h1, fun w => run_float_arith (P := Try.prog) w .sub 66 .f64 _ _ _ h2⟩

set_option maxHeartbeats 1000000 in
theorem sine_plain (x r : Nat) (w : World) (h : sineM x = some r) :
    Calls Try.prog 134 #[.float .f64 x] w fun e w' => e = .returned (.float .f64 r) ∧ w = w' := by
  simp only [sineM, Option.bind_eq_some_iff] at h
  obtain ⟨f, hf, h⟩ := h
  have hc : (ge64 f fHalf || gt64 f fQuarter) = false := by
    cases hb : (ge64 f fHalf || gt64 f fQuarter)
    · rfl
    · rw [hb] at h; simp at h
  rw [hc] at h
  simp only [Bool.false_eq_true, if_false, Option.bind_eq_some_iff] at h
  obtain ⟨z, hz, u, hu, p, hp, hr⟩ := h
  obtain ⟨hc1, hc2⟩ := Bool.or_eq_false_iff.1 hc
  have c1 := fraction_any x f w hf
  have r1 := fun w => run_float_arith (P := Try.prog) w .mul 66 .f64 _ _ _ hz
  have r2 := fun w => run_float_arith (P := Try.prog) w .mul 66 .f64 _ _ _ hu
  have r3 := fun w => run_float_arith (P := Try.prog) w .mul 66 .f64 _ _ _ hr
  unfold ge64 fHalf at hc1
  unfold gt64 fQuarter at hc2
  unfold fTurn at r1
  clear hf hz hu hr hc
  have Hp := Lib.hid hp
  clear hp
  go_enter Try.func134, Try.ntmps134
  go_wp2_with fail
  refine c1.mono ?_
  rintro e w' ⟨rfl, rfl⟩
  clear c1
  go_wp2
  go_loopg [7, 8] 8 (fun gk s7 s8 wr => ∃ q, gk ≤ 8 ∧ s8 = .float .f64 (kb gk) ∧ s7 = .float .f64 q ∧ loopM u gk q = some p ∧ w = wr)
  case atStart => exact ⟨fOne, Nat.le_refl _, rfl, rfl, Hp.out, rfl⟩
  case round =>
    obtain ⟨q, hk8, rfl, rfl, hq, rfl⟩ := hrel
    cases gk with
    | zero =>
      have he : q = p := Option.some.inj hq
      subst he
      have hend : (FloatKind.f64.format.order (kb 0) 4607182418800017408 == some .gt || FloatKind.f64.format.order (kb 0) 4607182418800017408 == some .eq) = false := kb_end
      clear hq
      go_wp2
      go_ret
      exact ⟨rfl, rfl⟩
    | succ k =>
      obtain ⟨t1, t2⟩ := kb_run k (by omega)
      simp only [loopM, stepM, denM, Option.bind_eq_some_iff] at hq
      obtain ⟨q', ⟨a, ha, d, ⟨b, hb, c, hc, hd⟩, e, he, hs⟩, hl⟩ := hq
      have s1 := fun w => run_float_arith (P := Try.prog) w .mul 66 .f64 _ _ _ ha
      have s2 := fun w => run_float_arith (P := Try.prog) w .mul 66 .f64 _ _ _ hb
      have s3 := fun w => run_float_arith (P := Try.prog) w .add 66 .f64 _ _ _ hc
      have s4 := fun w => run_float_arith (P := Try.prog) w .mul 66 .f64 _ _ _ hd
      have s5 := fun w => run_float_arith (P := Try.prog) w .quo 66 .f64 _ _ _ he
      have s6 := fun w => run_float_arith (P := Try.prog) w .sub 66 .f64 _ _ _ hs
      unfold fTwo at s2
      unfold fOne at s3 s6
      have HL := Lib.hid hl
      clear ha hb hc hd he hs hl
      go_wp2
      go_roundg k
      case measure => omega
      case rel => exact ⟨q', by omega, rfl, rfl, HL.out, rfl⟩

/-- what a 64-bit number becomes narrowed: defined where it does not overflow -/
def narrowM (x : Nat) : Option Nat :=
  match FloatKind.f64.decode x with
  | .number s m e => if (FloatKind.f32.decode (FloatKind.f32.encode (.number s m e))).isInfinity then none else some (FloatKind.f32.encode (.number s m e))
  | _ => none
theorem run_narrow (x r : Nat) (h : narrowM x = some r) (w : World) : (convert 66 57 (.float .f64 x)).run Try.prog w = .ok (.float .f32 r) w := by
  unfold narrowM at h
  cases hd : FloatKind.f64.decode x with
  | nan s t => rw [hd] at h; cases h
  | infinity s => rw [hd] at h; cases h
  | number s m e =>
    rw [hd] at h
    simp only at h
    by_cases hi : (FloatKind.f32.decode (FloatKind.f32.encode (.number s m e))).isInfinity = true
    · rw [if_pos hi] at h; cases h
    · rw [if_neg hi] at h
      have he := Option.some.inj h
      subst he
      simp [convert, run_underlying Try.underlying66, run_underlying Try.underlying57, Conv.floatToFloat, hd, hi]
/-- what a 32-bit number becomes widened: a number stays one -/
def widenM (x : Nat) : Option Nat :=
  match FloatKind.f32.decode x with
  | .number s m e => if (FloatKind.f64.decode (FloatKind.f64.encode (.number s m e))).isInfinity then none else some (FloatKind.f64.encode (.number s m e))
  | _ => none
theorem run_widen (x r : Nat) (h : widenM x = some r) (w : World) : (convert 57 66 (.float .f32 x)).run Try.prog w = .ok (.float .f64 r) w := by
  unfold widenM at h
  cases hd : FloatKind.f32.decode x with
  | nan s t => rw [hd] at h; cases h
  | infinity s => rw [hd] at h; cases h
  | number s m e =>
    rw [hd] at h
    simp only at h
    by_cases hi : (FloatKind.f64.decode (FloatKind.f64.encode (.number s m e))).isInfinity = true
    · rw [if_pos hi] at h; cases h
    · rw [if_neg hi] at h
      have he := Option.some.inj h
      subst he
      simp [convert, run_underlying Try.underlying66, run_underlying Try.underlying57, Conv.floatToFloat, hd, hi]

theorem ext_bits (x : Nat) (w : World) : (callFunc 157 #[.float .f64 x]).run Try.prog w = .ok (.value (.int .u64 (x : Int))) w := by kernel_rfl
theorem ext_from (n : Int) (w : World) : (callFunc 156 #[.int .u64 n]).run Try.prog w = .ok (.value (.float .f64 n.toNat)) w := by kernel_rfl
theorem ext_sqrt0 (x : Nat) (w : World) : (callFunc 154 #[.float .f64 x]).run Try.prog w = (do let v ← Extern.MathSqrt.sqrt #[.float .f64 x]; pure (Next.value v) : Sem Next).run Try.prog w := by kernel_rfl
theorem ext_sqrt (x r : Nat) (w : World) (h : FloatKind.f64.format.sqrt x = some r) : (callFunc 154 #[.float .f64 x]).run Try.prog w = .ok (.value (.float .f64 r)) w := by
  rw [ext_sqrt0]
  have e : Extern.MathSqrt.sqrt #[.float .f64 x] = (match FloatKind.f64.format.sqrt x with | some r => pure (.float .f64 r) | none => do pure (.float .f64 (← choose (.nanBits .f64 x x)))) := rfl
  rw [e, h]
  rfl

theorem mask63 (x : Nat) (h : x < 9223372036854775808) : bits .andNot .u64 (x : Int) 9223372036854775808 = (x : Int) := by
  have := u64_andNot_nat x 9223372036854775808 (by omega) (by omega)
  rw [show ((9223372036854775808 : Nat) : Int) = 9223372036854775808 from rfl] at this
  rw [this]
  have e := Nat.and_two_pow_sub_one_eq_mod x 63
  rw [show (18446744073709551615 - 9223372036854775808 : Nat) = 2 ^ 63 - 1 from by decide, e, Nat.mod_eq_of_lt (by omega)]

theorem abs_any (x : Nat) (w : World) (h : x < 9223372036854775808) :
    Calls Try.prog 132 #[.float .f64 x] w fun e w' => e = .returned (.float .f64 x) ∧ w = w' := by
  have hb := mask63 x h
  have Hb := Lib.hid hb
  clear hb h
  have e1 := ext_bits
  have e2 := ext_from
  go_enter Try.func132, Try.ntmps132
  go_wp2
  go_ret
  refine ⟨?_, rfl⟩
  show Ending.returned (Value.float .f64 (bits .andNot .u64 (x : Int) 9223372036854775808).toNat) = _
  rw [Hb.out]
  rfl

theorem sqrt_any (x r : Nat) (w : World) (h : FloatKind.f64.format.sqrt x = some r) :
    Calls Try.prog 128 #[.float .f64 x] w fun e w' => e = .returned (.float .f64 r) ∧ w = w' := by
  have e1 := fun w => ext_sqrt x r w h
  clear h
  go_enter Try.func128, Try.ntmps128
  go_wp2
  go_ret
  exact ⟨rfl, rfl⟩

/-- a quarter turn less how often -/
def quarters : Nat → Nat → Nat → Option (Nat × Nat)
  | 0, _, _ => none
  | n + 1, f, q => if ge64 f fQuarter then (fb .sub f fQuarter).bind fun g => quarters n g (q + 1) else some (f, q)
/-- the phasor, where nothing is strange on the way -/
def phasorM (x : Nat) : Option (Nat × Nat) :=
  if x < 9223372036854775808 && (fb .sub x x == some 0) && !ge64 x 4841369599423283200 then
    (fractionM x).bind fun f => (quarters 5 f 0).bind fun (g, q) => (fb .sub fQuarter g).bind fun h => (sineM h).bind fun c => (sineM g).bind fun s =>
      (fb .sub 0 s).bind fun ns => (fb .sub 0 c).bind fun nc =>
        let (a, b) := if q = 1 then (ns, c) else if q = 2 then (nc, ns) else if q = 3 then (s, nc) else (c, s)
        (narrowM a).bind fun a => (narrowM b).bind fun b => some (a, b)
  else none

set_option maxHeartbeats 1000000 in
theorem phasor_any (x a b : Nat) (w : World) (h : phasorM x = some (a, b)) :
    Calls Try.prog 81 #[.float .f64 x] w fun e w' => e = .returned (.complex .f32 a b) ∧ w = w' := by
  unfold phasorM at h
  split at h
  case isFalse => cases h
  rename_i hcond
  simp only [Bool.and_eq_true, decide_eq_true_eq, beq_iff_eq, Bool.not_eq_true'] at hcond
  obtain ⟨⟨hx, hsub⟩, hbig⟩ := hcond
  simp only [Option.bind_eq_some_iff] at h
  obtain ⟨f, hf, ⟨g, q⟩, hq, h', hh, c, hc, s, hs, ns, hns, nc, hnc, h⟩ := h
  have c0 := abs_any x w hx
  have c1 := fraction_any x f w hf
  have c2 := sine_plain h' c w hc
  have c3 := sine_plain g s w hs
  have r0 := fun w => run_float_arith (P := Try.prog) w .sub 66 .f64 _ _ _ hsub
  have r1 := fun w => run_float_arith (P := Try.prog) w .sub 66 .f64 _ _ _ hh
  have r2 := fun w => run_float_arith (P := Try.prog) w .sub 66 .f64 _ _ _ hns
  have r3 := fun w => run_float_arith (P := Try.prog) w .sub 66 .f64 _ _ _ hnc
  have z0 : (FloatKind.f64.format.order 0 0 == some .eq) = true := by decide +kernel
  unfold ge64 at hbig
  unfold fQuarter at r1
  have Hq := Lib.hid hq
  have H := Lib.hid h
  clear hf hh hc hs hns hnc hsub hq h
  go_enter Try.func81, Try.ntmps81
  go_wp2_with fail
  go_in
  go_wp2_with fail
  refine c0.mono ?_
  rintro e w' ⟨rfl, rfl⟩
  go_wp2_with fail
  refine c1.mono ?_
  rintro e w' ⟨rfl, rfl⟩
  clear c0 c1 r0 z0 hbig hx
  go_wp2
  go_loopg [4, 5] 5 (fun gk s4 s5 wr => ∃ (f' q' : Nat), gk + q' ≤ 5 ∧ s4 = .float .f64 f' ∧ s5 = .int .i64 q' ∧ quarters gk f' q' = some (g, q) ∧ w = wr)
  case atStart => exact ⟨f, 0, by omega, rfl, rfl, Hq.out, rfl⟩
  case round =>
    obtain ⟨f', q', hb, rfl, rfl, hq, rfl⟩ := hrel
    cases gk with
    | zero => cases hq
    | succ n =>
      unfold quarters at hq
      by_cases hge : ge64 f' fQuarter = true
      · rw [if_pos hge] at hq
        simp only [Option.bind_eq_some_iff] at hq
        obtain ⟨f2, hf2, hq2⟩ := hq
        have s1 := fun w => run_float_arith (P := Try.prog) w .sub 66 .f64 _ _ _ hf2
        unfold ge64 fQuarter at hge
        unfold fQuarter at s1
        have HQ := Lib.hid hq2
        clear hf2 hq2
        go_wp2
        go_roundg n
        case measure => omega
        case rel => exact ⟨f2, q' + 1, by omega, rfl, by go_num, HQ.out, rfl⟩
      · rw [if_neg hge] at hq
        have hge' : ge64 f' fQuarter = false := by simpa using hge
        have he := Option.some.inj hq
        simp only [Prod.mk.injEq] at he
        obtain ⟨rfl, rfl⟩ := he
        unfold ge64 fQuarter at hge'
        clear hq hge
        have H' := H.out
        clear H Hq
        have e1 : ∀ y r : Nat, narrowM y = some r → ∀ w, (convert 66 57 (.float .f64 y)).run Try.prog w = .ok (.float .f32 r) w := run_narrow
        by_cases q1 : q' = 1
        · subst q1
          simp only [if_true] at H'
          obtain ⟨a', ha, b', hb', hab⟩ := H'
          simp only [Option.some.injEq, Prod.mk.injEq] at hab
          obtain ⟨rfl, rfl⟩ := hab
          have n1 := e1 _ _ ha
          have n2 := e1 _ _ hb'
          clear e1 ha hb'
          go_wp2_with fail
          refine c2.mono ?_
          rintro e w' ⟨rfl, rfl⟩
          go_wp2_with fail
          refine c3.mono ?_
          rintro e w' ⟨rfl, rfl⟩
          clear c2 c3
          go_wp2
          go_ret
          exact ⟨rfl, rfl⟩
        · by_cases q2 : q' = 2
          · subst q2
            rw [if_neg q1, if_pos rfl] at H'
            obtain ⟨a', ha, b', hb', hab⟩ := H'
            simp only [Option.some.injEq, Prod.mk.injEq] at hab
            obtain ⟨rfl, rfl⟩ := hab
            have n1 := e1 _ _ ha
            have n2 := e1 _ _ hb'
            clear e1 ha hb'
            go_wp2_with fail
            refine c2.mono ?_
            rintro e w' ⟨rfl, rfl⟩
            go_wp2_with fail
            refine c3.mono ?_
            rintro e w' ⟨rfl, rfl⟩
            clear c2 c3
            go_wp2
            go_ret
            exact ⟨rfl, rfl⟩
          · by_cases q3 : q' = 3
            · subst q3
              rw [if_neg q1, if_neg q2, if_pos rfl] at H'
              obtain ⟨a', ha, b', hb', hab⟩ := H'
              simp only [Option.some.injEq, Prod.mk.injEq] at hab
              obtain ⟨rfl, rfl⟩ := hab
              have n1 := e1 _ _ ha
              have n2 := e1 _ _ hb'
              clear e1 ha hb'
              go_wp2_with fail
              refine c2.mono ?_
              rintro e w' ⟨rfl, rfl⟩
              go_wp2_with fail
              refine c3.mono ?_
              rintro e w' ⟨rfl, rfl⟩
              clear c2 c3
              go_wp2
              go_ret
              exact ⟨rfl, rfl⟩
            · rw [if_neg q1, if_neg q2, if_neg q3] at H'
              obtain ⟨a', ha, b', hb', hab⟩ := H'
              simp only [Option.some.injEq, Prod.mk.injEq] at hab
              obtain ⟨rfl, rfl⟩ := hab
              have n1 := e1 _ _ ha
              have n2 := e1 _ _ hb'
              have z1 : (((q' : Nat) : Int) == 1) = false := by simp; omega
              have z2 : (((q' : Nat) : Int) == 2) = false := by simp; omega
              have z3 : (((q' : Nat) : Int) == 3) = false := by simp; omega
              clear e1 ha hb'
              go_wp2_with fail
              refine c2.mono ?_
              rintro e w' ⟨rfl, rfl⟩
              go_wp2_with fail
              refine c3.mono ?_
              rintro e w' ⟨rfl, rfl⟩
              clear c2 c3
              go_wp2
              go_ret
              exact ⟨rfl, rfl⟩

/-- the length of a complex number, where nothing is strange -/
def powerM (a b : Nat) : Option Nat := (widenM a).bind fun x => (widenM b).bind fun y => (fb .mul x x).bind fun u => (fb .mul y y).bind fun v => fb .add u v
def longM (a b : Nat) : Option Nat := (powerM a b).bind fun p => (FloatKind.f64.format.sqrt p).bind fun r => narrowM r

theorem power_any (a b p : Nat) (w : World) (h : powerM a b = some p) :
    Calls Try.prog 129 #[.complex .f32 a b] w fun e w' => e = .returned (.float .f64 p) ∧ w = w' := by
  simp only [powerM, Option.bind_eq_some_iff] at h
  obtain ⟨x, hx, y, hy, u, hu, v, hv, hp⟩ := h
  have c1 := run_widen a x hx
  have c2 := run_widen b y hy
  have r1 := fun w => run_float_arith (P := Try.prog) w .mul 66 .f64 _ _ _ hu
  have r2 := fun w => run_float_arith (P := Try.prog) w .mul 66 .f64 _ _ _ hv
  have r3 := fun w => run_float_arith (P := Try.prog) w .add 66 .f64 _ _ _ hp
  clear hx hy hu hv hp
  go_enter Try.func129, Try.ntmps129
  go_wp2
  go_ret
  exact ⟨rfl, rfl⟩

theorem long_any (a b r : Nat) (w : World) (h : longM a b = some r) :
    Calls Try.prog 80 #[.complex .f32 a b] w fun e w' => e = .returned (.float .f32 r) ∧ w = w' := by
  simp only [longM, Option.bind_eq_some_iff] at h
  obtain ⟨p, hp, s, hs, hr⟩ := h
  have c1 := power_any a b p w hp
  have c2 := sqrt_any p s w hs
  have c3 := run_narrow s r hr
  clear hp hs hr
  go_enter Try.func80, Try.ntmps80
  go_wp2_with fail
  refine c1.mono ?_
  rintro e w' ⟨rfl, rfl⟩
  go_wp2_with fail
  refine c2.mono ?_
  rintro e w' ⟨rfl, rfl⟩
  clear c1 c2
  go_wp2
  go_ret
  exact ⟨rfl, rfl⟩
end Go.Proofs.Yteiofihgpalkiaa
