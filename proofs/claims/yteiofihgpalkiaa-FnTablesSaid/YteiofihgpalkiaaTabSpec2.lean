/- What the reference's functions on tables return. -/
import Derived.Test.YteiofihgpalkiaaTabLook
namespace Go.Proofs.Yteiofihgpalkiaa
open Go Go.RowKit

/-- a slice that holds a table, or nil: its shape -/
theorem HoldsT.shape {W : World} {B p m : Nat} {v : Value} {s : Option Nat} (h : HoldsT W B p m v s) : ∃ (a : Option Addr) (n c : Nat), v = .slice a n c := by
  cases s with
  | none => exact ⟨none, 0, 0, h⟩
  | some k => obtain ⟨g, c, rfl, _⟩ := h; exact ⟨_, _, _, rfl⟩

section
variable (p m rb ro rc : Nat) (rs : List Rul) (w : World)
    (hR : RdR w rb ro rs) (hr : ∀ j, j < rs.length → vRul ((m + 1 : Nat) : Int) p (ru rs j)) (hp : 1 ≤ p) (hp2 : p ≤ 60) (hm : m + 1 ≤ 12) (hpow : p ^ m ≤ 4096) (hl : rs.length ≤ 32)
include hR hr hp hp2 hm hpow hl

theorem specCount_any :
    Calls Try.prog 23 #[.int .i64 ((m : Int) + 1), .slice (some ⟨rb, ro, none⟩) rs.length rc, .int .i64 (p : Int)] w fun e w' =>
      e = .returned (.tuple #[.int .i64 (runT (keptB p m rs) nxCount 0 (p ^ m) : Nat), .bool true]) ∧ Below w.heap.size w w' := by
  have hr' := hr
  rw [show ((m + 1 : Nat) : Int) = (m : Int) + 1 by omega] at hr'
  have h1 := specRules_true ((m : Int) + 1) p rb ro rc rs w hR hr' (by omega) (by omega) (by omega) (by omega) hl
  have h2 := fun W (hd : Drew w W) => look_any p m rb ro rc rs W (hR.fr (C := fun _ => False) hd.fr (fun h => h)) hr hp hp2 hm hpow hl
  have H2 := Lib.hid h2
  clear h2 hr hr'
  go_enter Try.func23, Try.ntmps23
  go_wp2_with fail
  refine h1.mono ?_
  rintro e w1 ⟨rfl, hd1⟩
  clear h1
  go_wp2_with fail
  refine (H2.out _ hd1).mono ?_
  rintro e w2 ⟨v1, v2, rfl, hh1, hh2, hb2⟩
  obtain ⟨a1, n1, c1, rfl⟩ := hh1.shape
  obtain ⟨a2, n2, c2, rfl⟩ := hh2.shape
  have hb : Below w.heap.size w w2 := hd1.below.trans (hb2.mono (by obtain ⟨n, rfl⟩ := hd1; exact Nat.le_refl _))
  go_wp2
  go_ret2
  exact ⟨rfl, hb.alloc hb.size _⟩

theorem specFirst_any :
    Calls Try.prog 29 #[.int .i64 ((m : Int) + 1), .slice (some ⟨rb, ro, none⟩) rs.length rc, .int .i64 (p : Int)] w fun e w' =>
      ∃ v, e = .returned (.tuple #[v, .bool (runT (keptB p m rs) nxFirst none (p ^ m)).isSome]) ∧ HoldsT w' w.heap.size p m v (runT (keptB p m rs) nxFirst none (p ^ m)) ∧ Below w.heap.size w w' := by
  have hr' := hr
  rw [show ((m + 1 : Nat) : Int) = (m : Int) + 1 by omega] at hr'
  have h1 := specRules_true ((m : Int) + 1) p rb ro rc rs w hR hr' (by omega) (by omega) (by omega) (by omega) hl
  have h2 := fun W (hd : Drew w W) => look_any p m rb ro rc rs W (hR.fr (C := fun _ => False) hd.fr (fun h => h)) hr hp hp2 hm hpow hl
  have H2 := Lib.hid h2
  have hcf := count_first (keptB p m rs) (p ^ m)
  clear h2 hr hr'
  go_enter Try.func29, Try.ntmps29
  go_wp2_with fail
  refine h1.mono ?_
  rintro e w1 ⟨rfl, hd1⟩
  clear h1
  go_wp2_with fail
  refine (H2.out _ hd1).mono ?_
  rintro e w2 ⟨v1, v2, rfl, hh1, hh2, hb2⟩
  obtain ⟨a1, n1, c1, rfl⟩ := hh1.shape
  obtain ⟨a2, n2, c2, rfl⟩ := hh2.shape
  have hb : Below w.heap.size w w2 := hd1.below.trans (hb2.mono (by obtain ⟨n, rfl⟩ := hd1; exact Nat.le_refl _))
  have hsz : w1.heap.size = w.heap.size := by obtain ⟨n, rfl⟩ := hd1; rfl
  rw [hsz] at hh1
  clear hh2 hsz hb2
  cases hfs : runT (keptB p m rs) nxFirst none (p ^ m) with
  | none =>
    have hc := hcf.2 hfs
    rw [hc]
    have HFs := Lib.hid hfs
    clear hc hfs hcf hh1
    go_wp2
    go_ret2
    refine ⟨.slice none 0 0, by rw [HFs.out]; rfl, by rw [HFs.out]; rfl, hb.alloc hb.size _⟩
  | some k =>
    have hc : ¬ runT (keptB p m rs) nxCount 0 (p ^ m) = 0 := fun h => by rw [hcf.1 h] at hfs; cases hfs
    generalize hcc : runT (keptB p m rs) nxCount 0 (p ^ m) = cc at hc ⊢
    have hcz : (((cc : Nat) : Int) == 0) = false := by simp; omega
    rw [hfs] at hh1
    have HFs := Lib.hid hfs
    clear hfs hcf hcc hc
    go_wp2
    go_ret2
    refine ⟨.slice a1 n1 c1, by rw [HFs.out]; rfl, by rw [HFs.out]; exact hh1.fr (C := fun _ => False) ((Fr.refl _).alloc _) (fun _ _ h => h), hb.alloc hb.size _⟩

theorem specBest_any :
    Calls Try.prog 30 #[.int .i64 ((m : Int) + 1), .slice (some ⟨rb, ro, none⟩) rs.length rc, .int .i64 (p : Int)] w fun e w' =>
      ∃ v, e = .returned (.tuple #[v, .int .i64 (bestSum (sumT p m rs) (runT (keptB p m rs) (nxBest (sumT p m rs)) none (p ^ m))), .bool (runT (keptB p m rs) (nxBest (sumT p m rs)) none (p ^ m)).isSome]) ∧ HoldsT w' w.heap.size p m v (runT (keptB p m rs) (nxBest (sumT p m rs)) none (p ^ m)) ∧ Below w.heap.size w w' := by
  have hr' := hr
  rw [show ((m + 1 : Nat) : Int) = (m : Int) + 1 by omega] at hr'
  have h1 := specRules_true ((m : Int) + 1) p rb ro rc rs w hR hr' (by omega) (by omega) (by omega) (by omega) hl
  have h2 := fun W (hd : Drew w W) => look_any p m rb ro rc rs W (hR.fr (C := fun _ => False) hd.fr (fun h => h)) hr hp hp2 hm hpow hl
  have H2 := Lib.hid h2
  have hcf := count_first (keptB p m rs) (p ^ m)
  have hbf := best_first (keptB p m rs) (sumT p m rs) (p ^ m)
  clear h2 hr hr'
  go_enter Try.func30, Try.ntmps30
  go_wp2_with fail
  refine h1.mono ?_
  rintro e w1 ⟨rfl, hd1⟩
  clear h1
  go_wp2_with fail
  refine (H2.out _ hd1).mono ?_
  rintro e w2 ⟨v1, v2, rfl, hh1, hh2, hb2⟩
  obtain ⟨a1, n1, c1, rfl⟩ := hh1.shape
  obtain ⟨a2, n2, c2, rfl⟩ := hh2.shape
  have hb : Below w.heap.size w w2 := hd1.below.trans (hb2.mono (by obtain ⟨n, rfl⟩ := hd1; exact Nat.le_refl _))
  have hsz : w1.heap.size = w.heap.size := by obtain ⟨n, rfl⟩ := hd1; rfl
  rw [hsz] at hh2
  clear hh1 hsz hb2
  cases hfs : runT (keptB p m rs) (nxBest (sumT p m rs)) none (p ^ m) with
  | none =>
    have hc := hcf.2 (hbf.1 hfs)
    rw [hc]
    have HFs := Lib.hid hfs
    clear hc hfs hcf hbf hh2
    go_wp2
    go_ret3
    refine ⟨.slice none 0 0, by rw [HFs.out]; rfl, by rw [HFs.out]; rfl, hb.alloc hb.size _⟩
  | some k =>
    have hc : ¬ runT (keptB p m rs) nxCount 0 (p ^ m) = 0 := fun h => by rw [hbf.2 (hcf.1 h)] at hfs; cases hfs
    generalize hcc : runT (keptB p m rs) nxCount 0 (p ^ m) = cc at hc ⊢
    have hcz : (((cc : Nat) : Int) == 0) = false := by simp; omega
    rw [hfs] at hh2
    have HFs := Lib.hid hfs
    clear hfs hcf hcc hc hbf
    go_wp2
    go_quiet (fail)
    go_wp2
    go_ret3
    refine ⟨.slice a2 n2 c2, by rw [HFs.out]; rfl, by rw [HFs.out]; exact hh2.fr (C := fun _ => False) (((Fr.refl _).alloc _).drewN _) (fun _ _ h => h), bdrewN (hb.alloc hb.size _) _⟩
end
end Go.Proofs.Yteiofihgpalkiaa
