/- strings.Trim at this program, laid off the shelf; a text of dots and w's is one of work. -/
import Derived.Test.YteiofihgpalkiaaDoorShH
import Derived.Shelf.Strings.SlTrimAscii
namespace Go.Proofs.YteiofihgpalkiaaDoor
open Go Go.RowKit
open Go.Shelf
def laysTrim_ren : Go.Shelf.Ren := ⟨fun | 160 => 34 | 232 => 36 | 231 => 35 | 227 => 37 | 234 => 39 | 233 => 38 | 236 => 41 | 235 => 40 | 228 => 42 | 271 => 45 | 151 => 44 | 197 => 43 | 120 => 48 | 152 => 47 | 260 => 46 | 137 => 49 | 119 => 50 | 224 => 51 | 225 => 52 | 217 => 53 | 266 => 54 | n => n, fun | 9 => 9 | 4 => 4 | 3 => 3 | 5 => 5 | 117 => 82 | 116 => 81 | 0 => 0 | 124 => 85 | 21 => 21 | 105 => 87 | 46 => 42 | 119 => 91 | 139 => 94 | 138 => 93 | n => n, fun | 3 => 0 | 4 => 1 | n => n⟩
theorem laysTrim : Go.Proofs.Lays.n160 Tryd.prog laysTrim_ren := {
  mixed := by kernel_rfl
  f119 := Tryd.func50.trans (congrArg some (by kernel_rfl))
  f120 := Tryd.func48.trans (congrArg some (by kernel_rfl))
  f137 := Tryd.func49.trans (congrArg some (by kernel_rfl))
  f151 := Tryd.func44.trans (congrArg some (by kernel_rfl))
  f152 := Tryd.func47.trans (congrArg some (by kernel_rfl))
  f160 := Tryd.func34.trans (congrArg some (by kernel_rfl))
  f197 := Tryd.func43.trans (congrArg some (by kernel_rfl))
  f217 := Tryd.func53.trans (congrArg some (by kernel_rfl))
  f224 := Tryd.func51.trans (congrArg some (by kernel_rfl))
  f225 := Tryd.func52.trans (congrArg some (by kernel_rfl))
  f227 := Tryd.func37.trans (congrArg some (by kernel_rfl))
  f228 := Tryd.func42.trans (congrArg some (by kernel_rfl))
  f231 := Tryd.func35.trans (congrArg some (by kernel_rfl))
  f232 := Tryd.func36.trans (congrArg some (by kernel_rfl))
  f233 := Tryd.func38.trans (congrArg some (by kernel_rfl))
  f234 := Tryd.func39.trans (congrArg some (by kernel_rfl))
  f235 := Tryd.func40.trans (congrArg some (by kernel_rfl))
  f236 := Tryd.func41.trans (congrArg some (by kernel_rfl))
  f260 := Tryd.func46.trans (congrArg some (by kernel_rfl))
  f266 := Tryd.func54.trans (congrArg some (by kernel_rfl))
  f271 := Tryd.func45.trans (congrArg some (by kernel_rfl))
  t0 := Tryd.underlying0
  a0 := Tryd.isAgg0
  z0 := Tryd.sizeOf0
  v0 := Tryd.zeroValue0
  t3 := Tryd.underlying3
  a3 := Tryd.isAgg3
  z3 := Tryd.sizeOf3
  v3 := Tryd.zeroValue3
  t4 := Tryd.underlying4
  a4 := Tryd.isAgg4
  z4 := Tryd.sizeOf4
  v4 := Tryd.zeroValue4
  t5 := Tryd.underlying5
  a5 := Tryd.isAgg5
  z5 := Tryd.sizeOf5
  v5 := Tryd.zeroValue5
  t9 := Tryd.underlying9
  a9 := Tryd.isAgg9
  z9 := Tryd.sizeOf9
  v9 := Tryd.zeroValue9
  t21 := Tryd.underlying21
  a21 := Tryd.isAgg21
  z21 := Tryd.sizeOf21
  v21 := Tryd.zeroValue21
  t46 := Tryd.underlying42
  a46 := Tryd.isAgg42
  z46 := Tryd.sizeOf42
  v46 := Tryd.zeroValue42
  t105 := Tryd.underlying87
  a105 := Tryd.isAgg87
  z105 := Tryd.sizeOf87
  v105 := Tryd.zeroValue87
  t116 := Tryd.underlying81
  a116 := Tryd.isAgg81
  z116 := Tryd.sizeOf81
  t117 := Tryd.underlying82
  a117 := Tryd.isAgg82
  z117 := Tryd.sizeOf82
  v117 := Tryd.zeroValue82
  t119 := Tryd.underlying91
  a119 := Tryd.isAgg91
  z119 := Tryd.sizeOf91
  t124 := Tryd.underlying85
  a124 := Tryd.isAgg85
  z124 := Tryd.sizeOf85
  v124 := Tryd.zeroValue85
  t138 := Tryd.underlying93
  a138 := Tryd.isAgg93
  z138 := Tryd.sizeOf93
  v138 := Tryd.zeroValue93
  t139 := Tryd.underlying94
  a139 := Tryd.isAgg94
  z139 := Tryd.sizeOf94
  v139 := Tryd.zeroValue94
  g3 := by kernel_rfl
  g4 := by kernel_rfl }

theorem bts_list (t : List Bool) : (bts t).data.toList = t.map fun b => if b then (119 : UInt8) else 46 := by simp [bts]
theorem dropWhile_all {α : Type} (p : α → Bool) : ∀ l : List α, (∀ x ∈ l, p x = true) → l.dropWhile p = [] := by
  intro l
  induction l with
  | nil => intro _; rfl
  | cons a l ih =>
    intro h
    rw [List.dropWhile_cons, if_pos (h a (by simp))]
    exact ih (fun x hx => h x (by simp [hx]))
theorem trim_bts (t : List Bool) : Lib.trimS (bts t).data.toList [119, 46] = [] := by
  have hm : ∀ x ∈ (t.map fun b => if b then (119 : UInt8) else 46), ([119, 46] : List UInt8).contains x = true := by
    intro x hx
    obtain ⟨b, _, rfl⟩ := List.mem_map.1 hx
    cases b <;> decide
  have hr : Lib.trimRightS (t.map fun b => if b then (119 : UInt8) else 46) [119, 46] = [] := by
    unfold Lib.trimRightS
    rw [dropWhile_all _ _ (fun x hx => hm x (List.mem_reverse.1 hx))]
    rfl
  rw [bts_list]
  unfold Lib.trimS Lib.trimLeftS
  rw [hr]
  rfl

theorem isWork_true (t : List Bool) (ht : t.length ≤ 1000) (w : World) : Calls Tryd.prog 30 #[.string (bts t)] w fun e w' => e = .returned (.bool true) ∧ Below w.heap.size w w' := by
  have hT := Any.strings_Trim_laid (P := Tryd.prog) laysTrim (by kernel_rfl) (bts t) ⟨#[119, 46]⟩ w (by rw [bts_size]; omega) (by decide) (ascii_of_all (by decide))
  have e1 : (⟨#[119, 46]⟩ : ByteArray).data.toList = [119, 46] := rfl
  rw [e1, trim_bts] at hT
  have HT := Lib.hid hT
  clear hT e1
  go_enter Tryd.func30, Tryd.ntmps30
  go_wp2_with fail
  refine HT.out.mono ?_
  rintro e w' ⟨rfl, hb⟩
  go_wp2
  go_ret
  exact ⟨rfl, hb⟩
end Go.Proofs.YteiofihgpalkiaaDoor
