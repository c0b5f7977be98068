/- The phases of tables: which numbers they are, and that together they are no longer than one, nearly. -/
import Derived.Test.YteiofihgpalkiaaFlt
import Derived.Test.YteiofihgpalkiaaTabLaw
namespace Go.Proofs.Yteiofihgpalkiaa
open Go Go.RowKit
set_option maxRecDepth 100000

def phM (p t : Nat) : Option (Nat × Nat) := (fb .quo (floatOfInt .f64 t) (floatOfInt .f64 p)).bind phasorM
/-- the phasors of t of p turns, for p from 0 to 9 -/
def phTab : List (List (Nat × Nat)) := [[], [(1065353216, 0)], [(1065353216, 0), (3212836864, 0)],
  [(1065353216, 0), (3204448256, 1063105495), (3204448256, 3210589143)],
  [(1065353216, 0), (0, 1065353216), (3212836864, 0), (0, 3212836864)],
  [(1065353216, 0), (1050556282, 1064532081), (3209632701, 1058437400), (3209632701, 3205921048), (1050556282, 3212015729)],
  [(1065353216, 0), (1056964608, 1063105495), (3204448256, 1063105495), (3212836864, 0), (3204448256, 3210589143), (1056964608, 3210589143)],
  [(1065353216, 0), (1059036423, 1061692956), (3194215559, 1064932576), (3211175397, 1054746114), (3211175397, 3202229762), (3194215559, 3212416224), (1059036423, 3209176604)],
  [(1065353216, 0), (1060439283, 1060439283), (0, 1065353216), (3207922931, 1060439283), (3212836864, 0), (3207922931, 3207922931), (0, 3212836864), (1060439283, 3207922931)],
  [(1065353216, 0), (1061428093, 1059360187), (1043452116, 1065098332), (3204448256, 1063105495), (3211825074, 1051663684), (3211825074, 3199147332), (3204448256, 3210589143), (1043452116, 3212581980), (1061428093, 3206843835)]]
def ph (p : Nat) (t : Int) : Nat × Nat := (phTab.getD p []).getD t.toNat (0, 0)

theorem ph_all : ((List.range 10).all fun p => (List.range p).all fun t => phM p t == some (ph p t)) = true := by decide +kernel
theorem phM_eq (p t : Nat) (hp : p < 10) (ht : t < p) : phM p t = some (ph p t) := by
  have h := List.all_eq_true.1 (List.all_eq_true.1 ph_all p (List.mem_range.2 hp)) t (List.mem_range.2 ht)
  simpa using h

def sum32 : List (Nat × Nat) → Nat × Nat → Option (Nat × Nat)
  | [], s => some s
  | (a, b) :: l, (x, y) => (floatBits .add .f32 x a).bind fun u => (floatBits .add .f32 y b).bind fun v => sum32 l (u, v)
def togM (ps : List (Nat × Nat)) : Option Nat := (sum32 ps (0, 0)).bind fun (re, im) => (longM re im).bind fun l => floatBits .quo .f32 l (floatOfInt .f32 ps.length)
def near1 (r : Option Nat) : Bool := match r with | none => false | some r => match widenM r with | none => false | some d => lt64 d 4607186922399644778
def chk (p m k : Nat) : Bool := near1 (togM ((tab p m k).map (ph p)))
def low (p : Nat) : Bool := (List.range 3).all fun m => (List.range (p ^ m)).all fun k => chk p m k
def blk (p c : Nat) : Bool := (List.range (p ^ 2)).all fun j => chk p 3 (p ^ 2 * c + j)
theorem low2 : low 2 = true := by decide +kernel
theorem blk2_0 : blk 2 0 = true := by decide +kernel
theorem blk2_1 : blk 2 1 = true := by decide +kernel
theorem low3 : low 3 = true := by decide +kernel
theorem blk3_0 : blk 3 0 = true := by decide +kernel
theorem blk3_1 : blk 3 1 = true := by decide +kernel
theorem blk3_2 : blk 3 2 = true := by decide +kernel
theorem low4 : low 4 = true := by decide +kernel
theorem blk4_0 : blk 4 0 = true := by decide +kernel
theorem blk4_1 : blk 4 1 = true := by decide +kernel
theorem blk4_2 : blk 4 2 = true := by decide +kernel
theorem blk4_3 : blk 4 3 = true := by decide +kernel
theorem low5 : low 5 = true := by decide +kernel
theorem blk5_0 : blk 5 0 = true := by decide +kernel
theorem blk5_1 : blk 5 1 = true := by decide +kernel
theorem blk5_2 : blk 5 2 = true := by decide +kernel
theorem blk5_3 : blk 5 3 = true := by decide +kernel
theorem blk5_4 : blk 5 4 = true := by decide +kernel
theorem low6 : low 6 = true := by decide +kernel
theorem blk6_0 : blk 6 0 = true := by decide +kernel
theorem blk6_1 : blk 6 1 = true := by decide +kernel
theorem blk6_2 : blk 6 2 = true := by decide +kernel
theorem blk6_3 : blk 6 3 = true := by decide +kernel
theorem blk6_4 : blk 6 4 = true := by decide +kernel
theorem blk6_5 : blk 6 5 = true := by decide +kernel
theorem low7 : low 7 = true := by decide +kernel
theorem blk7_0 : blk 7 0 = true := by decide +kernel
theorem blk7_1 : blk 7 1 = true := by decide +kernel
theorem blk7_2 : blk 7 2 = true := by decide +kernel
theorem blk7_3 : blk 7 3 = true := by decide +kernel
theorem blk7_4 : blk 7 4 = true := by decide +kernel
theorem blk7_5 : blk 7 5 = true := by decide +kernel
theorem blk7_6 : blk 7 6 = true := by decide +kernel
theorem low8 : low 8 = true := by decide +kernel
theorem blk8_0 : blk 8 0 = true := by decide +kernel
theorem blk8_1 : blk 8 1 = true := by decide +kernel
theorem blk8_2 : blk 8 2 = true := by decide +kernel
theorem blk8_3 : blk 8 3 = true := by decide +kernel
theorem blk8_4 : blk 8 4 = true := by decide +kernel
theorem blk8_5 : blk 8 5 = true := by decide +kernel
theorem blk8_6 : blk 8 6 = true := by decide +kernel
theorem blk8_7 : blk 8 7 = true := by decide +kernel
theorem low9 : low 9 = true := by decide +kernel
theorem blk9_0 : blk 9 0 = true := by decide +kernel
theorem blk9_1 : blk 9 1 = true := by decide +kernel
theorem blk9_2 : blk 9 2 = true := by decide +kernel
theorem blk9_3 : blk 9 3 = true := by decide +kernel
theorem blk9_4 : blk 9 4 = true := by decide +kernel
theorem blk9_5 : blk 9 5 = true := by decide +kernel
theorem blk9_6 : blk 9 6 = true := by decide +kernel
theorem blk9_7 : blk 9 7 = true := by decide +kernel
theorem blk9_8 : blk 9 8 = true := by decide +kernel
theorem blks2 (c : Nat) (h : c < 2) : blk 2 c = true := by
  match c, h with
  | 0, _ => exact blk2_0
  | 1, _ => exact blk2_1
  | _ + 2, h => omega
theorem blks3 (c : Nat) (h : c < 3) : blk 3 c = true := by
  match c, h with
  | 0, _ => exact blk3_0
  | 1, _ => exact blk3_1
  | 2, _ => exact blk3_2
  | _ + 3, h => omega
theorem blks4 (c : Nat) (h : c < 4) : blk 4 c = true := by
  match c, h with
  | 0, _ => exact blk4_0
  | 1, _ => exact blk4_1
  | 2, _ => exact blk4_2
  | 3, _ => exact blk4_3
  | _ + 4, h => omega
theorem blks5 (c : Nat) (h : c < 5) : blk 5 c = true := by
  match c, h with
  | 0, _ => exact blk5_0
  | 1, _ => exact blk5_1
  | 2, _ => exact blk5_2
  | 3, _ => exact blk5_3
  | 4, _ => exact blk5_4
  | _ + 5, h => omega
theorem blks6 (c : Nat) (h : c < 6) : blk 6 c = true := by
  match c, h with
  | 0, _ => exact blk6_0
  | 1, _ => exact blk6_1
  | 2, _ => exact blk6_2
  | 3, _ => exact blk6_3
  | 4, _ => exact blk6_4
  | 5, _ => exact blk6_5
  | _ + 6, h => omega
theorem blks7 (c : Nat) (h : c < 7) : blk 7 c = true := by
  match c, h with
  | 0, _ => exact blk7_0
  | 1, _ => exact blk7_1
  | 2, _ => exact blk7_2
  | 3, _ => exact blk7_3
  | 4, _ => exact blk7_4
  | 5, _ => exact blk7_5
  | 6, _ => exact blk7_6
  | _ + 7, h => omega
theorem blks8 (c : Nat) (h : c < 8) : blk 8 c = true := by
  match c, h with
  | 0, _ => exact blk8_0
  | 1, _ => exact blk8_1
  | 2, _ => exact blk8_2
  | 3, _ => exact blk8_3
  | 4, _ => exact blk8_4
  | 5, _ => exact blk8_5
  | 6, _ => exact blk8_6
  | 7, _ => exact blk8_7
  | _ + 8, h => omega
theorem blks9 (c : Nat) (h : c < 9) : blk 9 c = true := by
  match c, h with
  | 0, _ => exact blk9_0
  | 1, _ => exact blk9_1
  | 2, _ => exact blk9_2
  | 3, _ => exact blk9_3
  | 4, _ => exact blk9_4
  | 5, _ => exact blk9_5
  | 6, _ => exact blk9_6
  | 7, _ => exact blk9_7
  | 8, _ => exact blk9_8
  | _ + 9, h => omega
theorem low_eq (p : Nat) (h1 : 2 ≤ p) (h2 : p ≤ 9) : low p = true := by
  match p, h1, h2 with
  | 2, _, _ => exact low2
  | 3, _, _ => exact low3
  | 4, _, _ => exact low4
  | 5, _, _ => exact low5
  | 6, _, _ => exact low6
  | 7, _, _ => exact low7
  | 8, _, _ => exact low8
  | 9, _, _ => exact low9
  | 0, h, _ => omega
  | 1, h, _ => omega
  | _ + 10, _, h => omega
theorem blk_eq (p c : Nat) (h1 : 2 ≤ p) (h2 : p ≤ 9) (h : c < p) : blk p c = true := by
  match p, h1, h2, h with
  | 2, _, _, h => exact blks2 c h
  | 3, _, _, h => exact blks3 c h
  | 4, _, _, h => exact blks4 c h
  | 5, _, _, h => exact blks5 c h
  | 6, _, _, h => exact blks6 c h
  | 7, _, _, h => exact blks7 c h
  | 8, _, _, h => exact blks8 c h
  | 9, _, _, h => exact blks9 c h
  | 0, h, _, _ => omega
  | 1, h, _, _ => omega
  | _ + 10, _, h, _ => omega
theorem chk_eq (p m k : Nat) (h1 : 2 ≤ p) (h2 : p ≤ 9) (hm : m ≤ 3) (hk : k < p ^ m) : chk p m k = true := by
  by_cases h3 : m = 3
  · subst h3
    have hp : 0 < p ^ 2 := Nat.pow_pos (by omega)
    have hc : k / p ^ 2 < p := by
      rw [Nat.div_lt_iff_lt_mul hp]; rwa [show p * p ^ 2 = p ^ 3 from by rw [Nat.pow_succ p 2, Nat.mul_comm]]
    have h := List.all_eq_true.1 (blk_eq p (k / p ^ 2) h1 h2 hc) (k % p ^ 2) (List.mem_range.2 (Nat.mod_lt _ hp))
    rwa [Nat.div_add_mod] at h
  · exact List.all_eq_true.1 (List.all_eq_true.1 (low_eq p h1 h2) m (List.mem_range.2 (by omega))) k (List.mem_range.2 hk)
theorem tog_one : togM [(1065353216, 0), (1065353216, 0)] = some 1065353216 := by decide +kernel
theorem ph_zero (p : Nat) (h1 : 1 ≤ p) (h2 : p < 10) : ph p 0 = (1065353216, 0) := by
  match p, h1, h2 with
  | 0, h, _ => omega
  | 1, _, _ => rfl
  | 2, _, _ => rfl
  | 3, _, _ => rfl
  | 4, _, _ => rfl
  | 5, _, _ => rfl
  | 6, _, _ => rfl
  | 7, _, _ => rfl
  | 8, _, _ => rfl
  | 9, _, _ => rfl
  | _ + 10, _, h => omega
theorem tog_pair (p : Nat) (h1 : 1 ≤ p) (h2 : p < 10) : togM ([0, 0].map (ph p)) = some 1065353216 := by
  rw [List.map_cons, List.map_cons, List.map_nil, ph_zero p h1 h2]; exact tog_one
theorem near_tab (p m k : Nat) (h1 : 2 ≤ p) (h2 : p ≤ 9) (hm : m ≤ 3) (hk : k < p ^ m) : ∃ r d, togM ((tab p m k).map (ph p)) = some r ∧ widenM r = some d ∧ lt64 d 4607186922399644778 = true := by
  have h := chk_eq p m k h1 h2 hm hk
  unfold chk near1 at h
  split at h
  · cases h
  · rename_i r hr
    split at h
    · cases h
    · rename_i d hd
      exact ⟨r, d, hr, hd, h⟩
end Go.Proofs.Yteiofihgpalkiaa
