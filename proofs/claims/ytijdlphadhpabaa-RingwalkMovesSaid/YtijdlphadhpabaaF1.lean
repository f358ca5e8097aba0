/- Models of functions, and that their calls do what the models say. Printed by gen.py. -/
import Derived.Test.YtijdlphadhpabaaProg
import Derived.Test.YtijdlphadhpabaaA3
import Derived.Test.YtijdlphadhpabaaA4
import Derived.Test.YtijdlphadhpabaaA1
import Derived.Test.YtijdlphadhpabaaA6
import Derived.Test.YtijdlphadhpabaaA8
import Derived.Test.YtijdlphadhpabaaA5
import Derived.Test.YtijdlphadhpabaaA7
import Derived.Test.YtijdlphadhpabaaA2
import Derived.Test.YtijdlphadhpabaaA9
import Derived.Shelf.SlSortCmp.NoneTotal
import Derived.Shelf.SlicesE.Delete
import Derived.WalkKit
section
namespace Go.AM
open Go Go.RowKit Go.Proofs
noncomputable section
def region_ok_j1 (x : Int) : Option (Bool) :=
    ifB (decide (x ≥ (-4096 : Int)))
    (some (decide (x < (4096 : Int))))
    (some false)
noncomputable def region_ok (x : Int) : Option Bool :=
  (region_ok_j1 x).bind fun t2 =>
  some t2
end
end Go.AM
end
section
namespace Go.AM
open Go Go.RowKit Go.Proofs
noncomputable section
def runs_fits_j1 (r_ : Run) : Option (Bool) :=
    ifB (decide (r_.frm ≥ (-1048576 : Int)))
    (ifB (decide (r_.frm ≤ (1048576 : Int)))
      (ifB (decide (r_.to ≥ (-1048576 : Int)))
        (some (decide (r_.to ≤ (1048576 : Int))))
        (some false))
      (some false))
    (some false)
noncomputable def runs_fits (r_ : Run) : Option Bool :=
  (runs_fits_j1 r_).bind fun t2 =>
  some t2
end
end Go.AM
end
section
namespace Go.AM
open Go Go.RowKit Go.Proofs
noncomputable section
def runs_Valid_j1 (r_ : Run) (t7 : Int) (l : (List Run)) : Option (Bool) :=
    ifB (decide (r_.frm ≥ r_.to))
    (some true)
    ((runs_fits r_).bind fun b =>
      ifB (!b)
      (some true)
      (ifB (decide (t7 > (0 : Int)))
        (chk (InR .i64 (t7 - 1 : Int))
          ((getI l (t7 - 1 : Int)).bind fun r_1 =>
          some (decide (r_.frm ≤ r_1.to))))
        (some false)))
def runs_Valid_l2 (l : (List Run)) (s : Int) : Option ((Int) ⊕ ((Unit) ⊕ (Unit))) :=
  match s with
  | t7 =>
    ifB (decide (t7 < (l.length : Int)))
    ((getI l t7).bind fun r_ =>
      (runs_Valid_j1 r_ t7 l).bind fun t36 =>
      ifB (t36)
      (some (.inr (.inr ())))
      (chk (InR .i64 (t7 + 1 : Int))
        (some (.inl (t7 + 1)))))
    (some (.inr (.inl ())))
noncomputable def runs_Valid (l : (List Run)) : Option Bool :=
  (loopP (runs_Valid_l2 l) 0).bind fun o => match o with
  | .inl _ => some true
  | .inr _ => some false
end
end Go.AM
end
section
namespace Go.AM
open Go Go.RowKit Go.Proofs
noncomputable section
def region_Valid_j1 (r_ : Row) (t8 : Int) (t0 : Region) : Option (Bool) :=
    (region_ok r_.y).bind fun b =>
    ifB (!b)
    (some true)
    (ifB (decide (t8 > (0 : Int)))
      (chk (InR .i64 (t8 - 1 : Int))
        ((getI t0.rows (t8 - 1 : Int)).bind fun r_1 =>
        ifB (decide (r_.y ≤ r_1.y))
        (some true)
        (ifB ((r_.runs.length : Int) == (0 : Int))
          (some true)
          ((runs_Valid r_.runs).bind fun b1 =>
            some (!b1)))))
      (ifB ((r_.runs.length : Int) == (0 : Int))
        (some true)
        ((runs_Valid r_.runs).bind fun b2 =>
          some (!b2))))
def region_Valid_j2 (r_ : Row) : Option (Bool) :=
    (getI r_.runs (0 : Int)).bind fun r_2 =>
    (region_ok r_2.frm).bind fun b3 =>
    ifB (!b3)
    (some true)
    (chk (InR .i64 (((r_.runs.length : Int)) - 1 : Int))
      ((getI r_.runs (((r_.runs.length : Int)) - 1 : Int)).bind fun r_3 =>
      chk (InR .i64 (r_3.to - 1 : Int))
      ((region_ok (r_3.to - 1)).bind fun b4 =>
      some (!b4))))
def region_Valid_l3 (t0 : Region) (s : Int) : Option ((Int) ⊕ ((Unit) ⊕ (Unit))) :=
  match s with
  | t8 =>
    ifB (decide (t8 < (t0.rows.length : Int)))
    ((getI t0.rows t8).bind fun r_ =>
      (region_Valid_j1 r_ t8 t0).bind fun t44 =>
      ifB (t44)
      (some (.inr (.inr ())))
      ((region_Valid_j2 r_).bind fun t65 =>
        ifB (t65)
        (some (.inr (.inr ())))
        (chk (InR .i64 (t8 + 1 : Int))
          (some (.inl (t8 + 1))))))
    (some (.inr (.inl ())))
noncomputable def region_Valid (t0 : Region) : Option Bool :=
  (loopP (region_Valid_l3 t0) 0).bind fun o => match o with
  | .inl _ => some true
  | .inr _ => some false
end
end Go.AM
end
section
namespace Go.AM
open Go Go.RowKit Go.Proofs
noncomputable section
def boundary_around_j1 (i : Int) (r_ : Region) (r_1 : Row) : Option (Bool) :=
    ifB (decide (i > (0 : Int)))
    (chk (InR .i64 (i - 1 : Int))
      ((getI r_.rows (i - 1 : Int)).bind fun r_2 =>
      chk (InR .i64 (r_1.y - 1 : Int))
      (some (r_2.y == (r_1.y - 1 : Int)))))
    (some false)
def boundary_around_j2 (i : Int) (r_ : Region) (r_1 : Row) : Option ((List Run)) :=
    (boundary_around_j1 i r_ r_1).bind fun t26 =>
    ifB (t26)
    (chk (InR .i64 (i - 1 : Int))
      ((getI r_.rows (i - 1 : Int)).bind fun r_3 =>
      some r_3.runs))
    (some ([] : List Run))
def boundary_around_j3 (i : Int) (r_ : Region) (r_1 : Row) : Option (Bool) :=
    chk (InR .i64 (i + 1 : Int))
    (ifB (decide ((i + 1 : Int) < (r_.rows.length : Int)))
    ((getI r_.rows (i + 1 : Int)).bind fun r_4 =>
      chk (InR .i64 (r_1.y + 1 : Int))
      (some (r_4.y == (r_1.y + 1 : Int))))
    (some false))
def boundary_around_j4 (i : Int) (r_ : Region) (r_1 : Row) : Option ((List Run)) :=
    (boundary_around_j3 i r_ r_1).bind fun t51 =>
    ifB (t51)
    (chk (InR .i64 (i + 1 : Int))
      ((getI r_.rows (i + 1 : Int)).bind fun r_5 =>
      some r_5.runs))
    (some ([] : List Run))
noncomputable def boundary_around (r_ : Region) (i : Int) : Option ((List Run) × (List Run)) :=
  (getI r_.rows i).bind fun r_1 =>
  (boundary_around_j2 i r_ r_1).bind fun below =>
  (boundary_around_j4 i r_ r_1).bind fun above =>
  some (below, above)
end
end Go.AM
end
section
namespace Go.AM
open Go Go.RowKit Go.Proofs
noncomputable section
def runs_Subtract_1_j1 (inA : Bool) (inB : Bool) : Option (Bool) :=
    ifB (inA)
    (some (!inB))
    (some false)
noncomputable def runs_Subtract_1 (inA : Bool) (inB : Bool) : Option Bool :=
  (runs_Subtract_1_j1 inA inB).bind fun t4 =>
  some t4
end
end Go.AM
end
section
namespace Go.AM
open Go Go.RowKit Go.Proofs
noncomputable section
noncomputable def runs_bounds_over (bRuns : (List Run)) (bAt : Int) : Option Bool :=
  chk (InR .i64 (2 * ((bRuns.length : Int)) : Int))
  (some (bAt == (2 * ((bRuns.length : Int)) : Int)))
end
end Go.AM
end
section
namespace Go.AM
open Go Go.RowKit Go.Proofs
noncomputable section
noncomputable def runs_bounds_inside (_bRuns : (List Run)) (bAt : Int) : Option Bool :=
  some ((bAt.tmod (2 : Int) : Int) == (1 : Int))
end
end Go.AM
end
section
namespace Go.AM
open Go Go.RowKit Go.Proofs
noncomputable section
noncomputable def runs_bounds_next (bRuns : (List Run)) (bAt : Int) : Option Int :=
  (runs_bounds_over bRuns bAt).bind fun b =>
  ifB (b)
  (some 1048577)
  ((runs_bounds_inside bRuns bAt).bind fun b1 =>
    ifB (b1)
    (chk (((2 : Int) ≠ 0 ∧ InR .i64 (bAt.tdiv (2 : Int))))
      ((getI bRuns (bAt.tdiv (2 : Int) : Int)).bind fun r_ =>
      some r_.to))
    (chk (((2 : Int) ≠ 0 ∧ InR .i64 (bAt.tdiv (2 : Int))))
      ((getI bRuns (bAt.tdiv (2 : Int) : Int)).bind fun r_1 =>
      some r_1.frm)))
end
end Go.AM
end
section
namespace Go.AM
open Go Go.RowKit Go.Proofs
noncomputable section
noncomputable def runs_bounds_pass (bRuns : (List Run)) (bAt : Int) (x : Int) : Option Int :=
  (runs_bounds_next bRuns bAt).bind fun n =>
  ifB (n == x)
  (chk (InR .i64 (bAt + 1 : Int))
    (some (bAt + 1)))
  (some bAt)
end
end Go.AM
end
section
namespace Go.AM
open Go Go.RowKit Go.Proofs
noncomputable section
def runs_sweep_j1 (t0 : (List Run)) (t1 : (List Run)) : Option (Bool) :=
    (runs_Valid t0).bind fun b =>
    ifB (!b)
    (some true)
    ((runs_Valid t1).bind fun b1 =>
      some (!b1))
def runs_sweep_j2 (t0 : (List Run)) (t23At : Int) (t1 : (List Run)) (t26At : Int) : Option (Bool) :=
    (runs_bounds_over t0 t23At).bind fun b2 =>
    ifB (!b2)
    (some true)
    ((runs_bounds_over t1 t26At).bind fun b3 =>
      some (!b3))
def runs_sweep_j3 (b6 : Bool) (t10 : Bool) : Option (Bool) :=
    ifB (b6)
    (some (!t10))
    (some false)
def runs_sweep_j4 (b6 : Bool) (t10 : Bool) : Option (Bool) :=
    ifB (!b6)
    (some t10)
    (some false)
def runs_sweep_j5 (b6 : Bool) (t10 : Bool) (t91 : (List Run)) (n : Int) (n1 : Int) : Option ((List Run)) :=
    (runs_sweep_j3 b6 t10).bind fun t52 =>
    ifB (t52)
    (chk (t91.length + ([Run.mk (min n n1) 0]).length ≤ 1099511627776)
      (some (t91 ++ ([Run.mk (min n n1) 0]))))
    ((runs_sweep_j4 b6 t10).bind fun t63 =>
      ifB (t63)
      (chk (InR .i64 (((t91.length : Int)) - 1 : Int))
        ((getI t91 (((t91.length : Int)) - 1 : Int)).bind fun r_ =>
        some (t91.set (((t91.length : Int)) - 1 : Int).toNat (Run.mk r_.frm (min n n1)))))
      (some t91))
def runs_sweep_l6 (t0 : (List Run)) (t1 : (List Run)) (s : (List Run) × Bool × Int × Int) : Option (((List Run) × Bool × Int × Int) ⊕ ((List Run))) :=
  match s with
  | (t91, t10, t23At, t26At) =>
    (runs_sweep_j2 t0 t23At t1 t26At).bind fun t34 =>
    ifB (t34)
    ((runs_bounds_next t0 t23At).bind fun n =>
      (runs_bounds_next t1 t26At).bind fun n1 =>
      (runs_bounds_pass t0 t23At (min n n1)).bind fun n2 =>
      (runs_bounds_pass t1 t26At (min n n1)).bind fun n3 =>
      (runs_bounds_inside t0 n2).bind fun b4 =>
      (runs_bounds_inside t1 n3).bind fun b5 =>
      (runs_Subtract_1 b4 b5).bind fun b6 =>
      (runs_sweep_j5 b6 t10 t91 n n1).bind fun t9 =>
      some (.inl (t9, b6, n2, n3)))
    (some (.inr t91))
noncomputable def runs_sweep (t0 : (List Run)) (t1 : (List Run)) : Option (List Run) :=
  (runs_sweep_j1 t0 t1).bind fun t20 =>
  ifB (t20)
  (some ([] : (List Run)))
  ((loopP (runs_sweep_l6 t0 t1) (([] : List Run), false, 0, 0)).bind fun t92 =>
    some t92)
end
end Go.AM
end
section
namespace Go.AM
open Go Go.RowKit Go.Proofs
noncomputable section
noncomputable def runs_Subtract (a : (List Run)) (b : (List Run)) : Option (List Run) :=
  (runs_sweep a b).bind fun v =>
  some v
end
end Go.AM
end
section
namespace Go.AM
open Go Go.RowKit Go.Proofs
noncomputable section
def boundary_collect_l1 (r_1 : Run) (r_ : Row) (s : Int × (List (Pt × (List Int)))) : Option ((Int × (List (Pt × (List Int)))) ⊕ ((List (Pt × (List Int))))) :=
  match s with
  | (t10, m) =>
    ifB (decide (t10 < r_1.to))
    ((cracks_add m (Pt.mk t10 r_.y) 0).bind fun v2 =>
      chk (InR .i64 (t10 + 1 : Int))
      (some (.inl (t10 + 1, v2))))
    (some (.inr m))
def boundary_collect_l2 (v1 : (List Run)) (r_ : Row) (s : Int × (List (Pt × (List Int)))) : Option ((Int × (List (Pt × (List Int)))) ⊕ ((List (Pt × (List Int))))) :=
  match s with
  | (t36, m2) =>
    ifB (decide (t36 < (v1.length : Int)))
    ((getI v1 t36).bind fun r_1 =>
      (loopP (boundary_collect_l1 r_1 r_) (r_1.frm, m2)).bind fun m1 =>
      chk (InR .i64 (t36 + 1 : Int))
      (some (.inl (t36 + 1, m1))))
    (some (.inr m2))
def boundary_collect_l3 (r_2 : Run) (r_ : Row) (s : Int × (List (Pt × (List Int)))) : Option ((Int × (List (Pt × (List Int)))) ⊕ ((List (Pt × (List Int))))) :=
  match s with
  | (t13, m4) =>
    ifB (decide (t13 < r_2.to))
    (chk (InR .i64 (t13 + 1 : Int))
      (chk (InR .i64 (r_.y + 1 : Int))
      ((cracks_add m4 (Pt.mk (t13 + 1) (r_.y + 1)) 2).bind fun v4 =>
      some (.inl (t13 + 1, v4)))))
    (some (.inr m4))
def boundary_collect_l4 (v3 : (List Run)) (r_ : Row) (s : Int × (List (Pt × (List Int)))) : Option ((Int × (List (Pt × (List Int)))) ⊕ ((List (Pt × (List Int))))) :=
  match s with
  | (t60, m6) =>
    ifB (decide (t60 < (v3.length : Int)))
    ((getI v3 t60).bind fun r_2 =>
      (loopP (boundary_collect_l3 r_2 r_) (r_2.frm, m6)).bind fun m5 =>
      chk (InR .i64 (t60 + 1 : Int))
      (some (.inl (t60 + 1, m5))))
    (some (.inr m6))
def boundary_collect_l5 (r_ : Row) (s : Int × (List (Pt × (List Int)))) : Option ((Int × (List (Pt × (List Int)))) ⊕ ((List (Pt × (List Int))))) :=
  match s with
  | (t84, m8) =>
    ifB (decide (t84 < (r_.runs.length : Int)))
    ((getI r_.runs t84).bind fun r_3 =>
      (cracks_add m8 (Pt.mk r_3.to r_.y) 1).bind fun v5 =>
      chk (InR .i64 (r_.y + 1 : Int))
      ((cracks_add v5 (Pt.mk r_3.frm (r_.y + 1)) 3).bind fun v6 =>
      chk (InR .i64 (t84 + 1 : Int))
      (some (.inl (t84 + 1, v6)))))
    (some (.inr m8))
def boundary_collect_l6 (t0 : Region) (s : Int × (List (Pt × (List Int)))) : Option ((Int × (List (Pt × (List Int)))) ⊕ ((List (Pt × (List Int))))) :=
  match s with
  | (t20, m10) =>
    ifB (decide (t20 < (t0.rows.length : Int)))
    ((getI t0.rows t20).bind fun r_ =>
      (boundary_around t0 t20).bind fun v =>
      (runs_Subtract r_.runs v.1).bind fun v1 =>
      (loopP (boundary_collect_l2 v1 r_) (0, m10)).bind fun m3 =>
      (runs_Subtract r_.runs v.2).bind fun v3 =>
      (loopP (boundary_collect_l4 v3 r_) (0, m3)).bind fun m7 =>
      (loopP (boundary_collect_l5 r_) (0, m7)).bind fun m9 =>
      chk (InR .i64 (t20 + 1 : Int))
      (some (.inl (t20 + 1, m9))))
    (some (.inr m10))
noncomputable def boundary_collect (t0 : Region) : Option (List (Pt × (List Int))) :=
  (loopP (boundary_collect_l6 t0) (0, ([] : (List (Pt × (List Int)))))).bind fun m11 =>
  some m11
end
end Go.AM
end
section
namespace Go.Proofs
open Go.Shelf
def Try.sortPt_ren : Go.Shelf.Ren := ⟨fun | 6 => 26 | 15 => 48 | 14 => 47 | 28 => 71 | 29 => 72 | 20 => 63 | 21 => 64 | 22 => 65 | 23 => 66 | 24 => 67 | 25 => 68 | 26 => 69 | 27 => 70 | 46 => 82 | 47 => 83 | 48 => 84 | 49 => 85 | 50 => 86 | 57 => 87 | n => n, fun | 22 => 51 | 24 => 63 | 25 => 65 | 3 => 3 | 39 => 92 | 0 => 0 | 53 => 115 | 55 => 117 | 4 => 4 | 46 => 108 | 45 => 107 | 50 => 112 | 5 => 5 | 9 => 9 | 66 => 128 | 70 => 132 | 76 => 134 | 77 => 135 | n => n, fun | n => n⟩
theorem Try.sortPt : Go.Proofs.SlLaysF0.n6 Try.prog Try.sortPt_ren := {
  mixed := by kernel_rfl
  f6 := ⟨Try.f26.name, by decide, Try.func26.trans (congrArg some (by kernel_rfl))⟩
  f14 := ⟨Try.f47.name, by decide, Try.func47.trans (congrArg some (by kernel_rfl))⟩
  f15 := Try.func48.trans (congrArg some (by kernel_rfl))
  f20 := ⟨Try.f63.name, by decide, Try.func63.trans (congrArg some (by kernel_rfl))⟩
  f21 := ⟨Try.f64.name, by decide, Try.func64.trans (congrArg some (by kernel_rfl))⟩
  f22 := ⟨Try.f65.name, by decide, Try.func65.trans (congrArg some (by kernel_rfl))⟩
  f23 := ⟨Try.f66.name, by decide, Try.func66.trans (congrArg some (by kernel_rfl))⟩
  f24 := ⟨Try.f67.name, by decide, Try.func67.trans (congrArg some (by kernel_rfl))⟩
  f25 := ⟨Try.f68.name, by decide, Try.func68.trans (congrArg some (by kernel_rfl))⟩
  f26 := ⟨Try.f69.name, by decide, Try.func69.trans (congrArg some (by kernel_rfl))⟩
  f27 := ⟨Try.f70.name, by decide, Try.func70.trans (congrArg some (by kernel_rfl))⟩
  f28 := Try.func71.trans (congrArg some (by kernel_rfl))
  f29 := Try.func72.trans (congrArg some (by kernel_rfl))
  f46 := ⟨Try.f82.name, by decide, Try.func82.trans (congrArg some (by kernel_rfl))⟩
  f47 := Try.func83.trans (congrArg some (by kernel_rfl))
  f48 := Try.func84.trans (congrArg some (by kernel_rfl))
  f49 := ⟨Try.f85.name, by decide, Try.func85.trans (congrArg some (by kernel_rfl))⟩
  f50 := ⟨Try.f86.name, by decide, Try.func86.trans (congrArg some (by kernel_rfl))⟩
  f57 := ⟨Try.f87.name, by decide, Try.func87.trans (congrArg some (by kernel_rfl))⟩
  t0 := Try.underlying0
  a0 := Try.isAgg0
  z0 := Try.sizeOf0
  v0 := Try.zeroValue0
  t3 := Try.underlying3
  a3 := Try.isAgg3
  z3 := Try.sizeOf3
  v3 := Try.zeroValue3
  t4 := Try.underlying4
  a4 := Try.isAgg4
  z4 := Try.sizeOf4
  v4 := Try.zeroValue4
  t5 := Try.underlying5
  a5 := Try.isAgg5
  z5 := Try.sizeOf5
  v5 := Try.zeroValue5
  t9 := Try.underlying9
  a9 := Try.isAgg9
  z9 := Try.sizeOf9
  v9 := Try.zeroValue9
  t22 := Try.underlying51
  a22 := Try.isAgg51
  z22 := Try.sizeOf51
  v22 := Try.zeroValue51
  t25 := Try.underlying65
  a25 := Try.isAgg65
  z25 := Try.sizeOf65
  v25 := Try.zeroValue65
  t39 := Try.underlying92
  a39 := Try.isAgg92
  z39 := Try.sizeOf92
  v39 := Try.zeroValue92
  t45 := Try.underlying107
  a45 := Try.isAgg107
  z45 := Try.sizeOf107
  v45 := Try.zeroValue107
  t46 := Try.underlying108
  a46 := Try.isAgg108
  z46 := Try.sizeOf108
  v46 := Try.zeroValue108
  t50 := Try.underlying112
  a50 := Try.isAgg112
  z50 := Try.sizeOf112
  v50 := Try.zeroValue112
  t53 := Try.underlying115
  a53 := Try.isAgg115
  z53 := Try.sizeOf115
  v53 := Try.zeroValue115
  t55 := Try.underlying117
  a55 := Try.isAgg117
  z55 := Try.sizeOf117
  v55 := Try.zeroValue117
  t66 := Try.underlying128
  a66 := Try.isAgg128
  z66 := Try.sizeOf128
  v66 := Try.zeroValue128
  t70 := Try.underlying132
  a70 := Try.isAgg132
  z70 := Try.sizeOf132
  v70 := Try.zeroValue132
  t76 := Try.underlying134
  a76 := Try.isAgg134
  z76 := Try.sizeOf134
  v76 := Try.zeroValue134
  t77 := Try.underlying135
  a77 := Try.isAgg135
  z77 := Try.sizeOf135
  v77 := Try.zeroValue135 }
def Try.delHd_ren : Go.Shelf.Ren := ⟨fun | 45 => 74 | n => n, fun | 22 => 66 | 23 => 89 | 3 => 3 | 4 => 4 | 0 => 0 | n => n, fun | n => n⟩
theorem Try.delHd : Go.Proofs.SlLaysE.n45 Try.prog Try.delHd_ren := {
  mixed := by kernel_rfl
  f45 := ⟨Try.f74.name, by decide, Try.func74.trans (congrArg some (by kernel_rfl))⟩
  t0 := Try.underlying0
  a0 := Try.isAgg0
  z0 := Try.sizeOf0
  v0 := Try.zeroValue0
  t3 := Try.underlying3
  a3 := Try.isAgg3
  z3 := Try.sizeOf3
  v3 := Try.zeroValue3
  t4 := Try.underlying4
  a4 := Try.isAgg4
  z4 := Try.sizeOf4
  v4 := Try.zeroValue4
  t22 := Try.underlying66
  a22 := Try.isAgg66
  z22 := Try.sizeOf66
  v22 := Try.zeroValue66
  a23 := Try.isAgg89
  z23 := Try.sizeOf89 }
end Go.Proofs
end
section
namespace Go.AM
open Go Go.RowKit Go.Proofs Go.Sort
/-- Points within the bounds in which 'before' does not wrap. -/
structure BPt where
  val : Pt
  hb : -1048576 ≤ val.x ∧ val.x ≤ 1048576 ∧ -1048576 ≤ val.y ∧ val.y ≤ 1048576
instance : Inhabited BPt := ⟨⟨⟨0, 0⟩, by decide⟩⟩
def BPt.ic (p : BPt) : List Int := [p.1.x, p.1.y]
def BPt.cf (a b : BPt) : Int := if a.1.y ≠ b.1.y then a.1.y - b.1.y else a.1.x - b.1.x
set_option maxHeartbeats 1000000 in
theorem before_lays (x1 y1 x2 y2 : Int) (a1 : -1048576 ≤ x1) (a2 : x1 ≤ 1048576) (b1 : -1048576 ≤ y1) (b2 : y1 ≤ 1048576) (c1 : -1048576 ≤ x2) (c2 : x2 ≤ 1048576) (d1 : -1048576 ≤ y2) (d2 : y2 ≤ 1048576) (W : World) :
    Calls Try.prog 27 #[.agg #[.int .i64 x1, .int .i64 y1], .agg #[.int .i64 x2, .int .i64 y2]] W fun e w' => e = .returned (.int .i64 (if y1 ≠ y2 then y1 - y2 else x1 - x2)) ∧ ∃ q os', w' = grow (W.drewN q) os' := by
  by_cases h : y1 = y2
  · subst h
    rw [if_neg (fun h => h rfl)]
    go_enter Try.func27, Try.ntmps27
    go_wp2
    go_ret
    exact ⟨rfl, 0, _, by rw [alloc_eq_grow, alloc_eq_grow, grow_grow]; rfl⟩
  · rw [if_pos h]
    have hne : (y1 != y2) = true := by simpa using h
    clear h
    go_enter Try.func27, Try.ntmps27
    go_wp2
    go_ret
    exact ⟨rfl, 0, _, by rw [alloc_eq_grow, alloc_eq_grow, grow_grow]; rfl⟩
def BPt.enc (p : BPt) : List Value := icV BPt.ic p
theorem BPt.cmp (blk off size : Nat) (w : World) : CmpLays Try.prog 27 #[] (icV BPt.ic) 2 BPt.cf blk off size w := fun _ _ _ _ x y =>
  before_lays x.1.x x.1.y y.1.x y.1.y x.2.1 x.2.2.1 x.2.2.2.1 x.2.2.2.2 y.2.1 y.2.2.1 y.2.2.2.1 y.2.2.2.2 _
theorem BPt.lt (a b : BPt) : ltOf BPt.cf a b = decide (a.1.y < b.1.y ∨ a.1.y = b.1.y ∧ a.1.x < b.1.x) := by
  unfold ltOf BPt.cf
  congr 1
  by_cases h : a.1.y = b.1.y
  · simp only [h, ne_eq, not_true_eq_false, if_false, true_and]; apply propext; omega
  · simp only [h, ne_eq, not_false_eq_true, if_true, false_and, or_false]; apply propext; omega
theorem BPt.swo : SWO (ltOf BPt.cf) where
  irrefl x := by rw [BPt.lt]; simp
  trans x y z h1 h2 := by rw [BPt.lt, decide_eq_true_eq] at *; omega
  ntrans x y z h1 h2 := by rw [BPt.lt, decide_eq_false_iff_not] at *; omega
theorem BPt.tot (a b : BPt) (h1 : ltOf BPt.cf a b = false) (h2 : ltOf BPt.cf b a = false) : a = b := by
  rw [BPt.lt, decide_eq_false_iff_not] at h1 h2
  obtain ⟨⟨x1, y1⟩, _⟩ := a
  obtain ⟨⟨x2, y2⟩, _⟩ := b
  simp only at h1 h2
  have : x1 = x2 ∧ y1 = y2 := by omega
  obtain ⟨rfl, rfl⟩ := this
  rfl
def BPt.le (a b : BPt) : Bool := !(ltOf BPt.cf) b a
def lePt (a b : Pt) : Bool := decide (a.y < b.y ∨ a.y = b.y ∧ a.x ≤ b.x)
theorem BPt.le_eq (a b : BPt) : BPt.le a b = lePt a.1 b.1 := by
  unfold BPt.le lePt
  rw [BPt.lt, Bool.eq_iff_iff]
  simp only [Bool.not_eq_true', decide_eq_false_iff_not, decide_eq_true_eq]
  omega
def PtIn (p : Pt) : Prop := -1048576 ≤ p.x ∧ p.x ≤ 1048576 ∧ -1048576 ≤ p.y ∧ p.y ≤ 1048576
instance (p : Pt) : Decidable (PtIn p) := by unfold PtIn; infer_instance
def sort_pt (l : List Pt) : Option (List Pt) := chk ((∀ p ∈ l, PtIn p) ∧ l.length < 4611686018427387904) (some (l.mergeSort lePt))
theorem map_ms (l : List BPt) : (l.mergeSort BPt.le).map (·.1) = (l.map (·.1)).mergeSort lePt := List.map_mergeSort fun a _ b _ => BPt.le_eq a b
theorem icP_Pt (l : List BPt) : l.flatMap (icP BPt.ic) = (l.map (·.1)).flatMap Pt.cs := by
  induction l with
  | nil => rfl
  | cons a l ih => rw [List.flatMap_cons, List.map_cons, List.flatMap_cons, ih]; rfl
theorem toB : ∀ (l : List Pt), (∀ p ∈ l, PtIn p) → ∃ L : List BPt, l = L.map (·.1)
  | [], _ => ⟨[], rfl⟩
  | p :: l, h => by
    obtain ⟨L, hL⟩ := toB l fun q hq => h q (by simp [hq])
    have hp : PtIn p := h p (by simp)
    exact ⟨⟨p, hp⟩ :: L, congrArg (p :: ·) hL⟩
set_option maxRecDepth 100000 in
theorem sort_pt_ok {l r : List Pt} (h : sort_pt l = some r) : ASpec Try.prog 26 [.own 0 0 l.length 2, .fn 27 [] []] [(0, .row 63 (l.flatMap Pt.cs))] (.tup []) [(0, .row 63 (r.flatMap Pt.cs))] := by
  refine chk_el h fun hb h => ?_
  obtain rfl := Option.some.inj h
  obtain ⟨hin, hlen⟩ := hb
  obtain ⟨L, rfl⟩ := toB l hin
  rw [← map_ms, ← icP_Pt, ← icP_Pt, List.length_map]
  have hC : Callable Try.prog 26 := ⟨Try.f26, Try.func26, by kernel_rfl, by kernel_rfl⟩
  have eg : ∀ args w, (callFunc 27 args).run Try.prog w = .ok (.enter 27 args) w := enters_of Try.func27 (by kernel_rfl) rfl
  refine aspec_sort (ic := BPt.ic) (k := 2) hC (fun _ => rfl) (by decide) (fun a n hn => ?_) (List.length_mergeSort _) 63 ?_ ?_
  · have := a.2
    simp only [BPt.ic, List.mem_cons, List.not_mem_nil, or_false] at hn
    exact WalkArith.wf_i64 (by omega)
  · intro w blk cap hH hblk
    have hcon := AnyQ.slices_SortFunc_total Try.sortPt 2 Try.isAgg63 Try.sizeOf63 (icV BPt.ic) (fun _ => rfl) (fun x v hv => by simp only [icV, BPt.ic, List.map_cons, List.map_nil, List.mem_cons, List.not_mem_nil, or_false] at hv; rcases hv with rfl | rfl <;> rfl) BPt.cf BPt.swo 27 #[] blk 0 cap L.toArray w eg (BPt.cmp blk 0 _ w) hH hblk (by simpa using hlen) BPt.tot
    have e : L.toArray.size = L.length := by simp
    rw [e] at hcon
    exact hcon
  · intro w p cap
    exact AnyF.slices_SortFunc_none Try.sortPt p cap _ w
theorem lePt_total (a b : Pt) : (lePt a b || lePt b a) = true := by
  unfold lePt; rw [Bool.or_eq_true, decide_eq_true_eq, decide_eq_true_eq]; omega
theorem lePt_trans (a b c : Pt) (h1 : lePt a b = true) (h2 : lePt b c = true) : lePt a c = true := by
  unfold lePt at *; rw [decide_eq_true_eq] at *; omega
theorem lePt_antisymm (a b : Pt) (h1 : lePt a b = true) (h2 : lePt b a = true) : a = b := by
  unfold lePt at *; rw [decide_eq_true_eq] at *
  obtain ⟨x1, y1⟩ := a
  obtain ⟨x2, y2⟩ := b
  simp only at h1 h2
  have : x1 = x2 ∧ y1 = y2 := by omega
  obtain ⟨rfl, rfl⟩ := this
  rfl
theorem sort_pt_perm {l k : List Pt} (h : l.Perm k) : sort_pt k = sort_pt l := by
  have e : k.mergeSort lePt = l.mergeSort lePt := by
    refine List.Perm.eq_of_pairwise (le := fun a b => lePt a b = true) (fun a b _ _ h1 h2 => lePt_antisymm a b h1 h2) (List.pairwise_mergeSort (fun a b c => lePt_trans a b c) lePt_total k) (List.pairwise_mergeSort (fun a b c => lePt_trans a b c) lePt_total l) ?_
    exact ((List.mergeSort_perm k lePt).trans h.symm).trans (List.mergeSort_perm l lePt).symm
  unfold sort_pt chk
  rw [e, h.length_eq]
  have e2 : (∀ p ∈ k, PtIn p) ↔ (∀ p ∈ l, PtIn p) := ⟨fun q p hp => q p (h.mem_iff.1 hp), fun q p hp => q p (h.mem_iff.2 hp)⟩
  by_cases h1 : (∀ p ∈ k, PtIn p) ∧ k.length < 4611686018427387904
  · rw [if_pos h1, if_pos ⟨e2.1 h1.1, h1.2⟩]
  · rw [if_neg h1, if_neg (fun q => h1 ⟨e2.2 q.1, q.2⟩)]
theorem sort_pt_len {l r : List Pt} (h : sort_pt l = some r) (id sz : Nat) : some (AV.own id 0 l.length sz) = some (AV.own id 0 r.length sz) := by
  refine chk_el h fun _ h => ?_
  obtain rfl := Option.some.inj h
  rw [List.length_mergeSort]
end Go.AM
end
section
namespace Go.AM
open Go Go.RowKit Go.Proofs
noncomputable section
def slices_Index_l1 (s_ : (List Int)) (v : Int) (s : Int) : Option ((Int) ⊕ ((Unit) ⊕ (Int))) :=
  match s with
  | t8 =>
    ifB (decide (t8 < (s_.length : Int)))
    ((getI s_ t8).bind fun h_ =>
      ifB (v == h_)
      (some (.inr (.inr t8)))
      (chk (InR .i64 (t8 + 1 : Int))
        (some (.inl (t8 + 1)))))
    (some (.inr (.inl ())))
noncomputable def slices_Index (s_ : (List Int)) (v : Int) : Option Int :=
  (loopP (slices_Index_l1 s_ v) 0).bind fun o => match o with
  | .inl _ => some (-1)
  | .inr t4 => some t4
end
end Go.AM
end
section
namespace Go.AM
open Go Go.RowKit Go.Proofs Go.Sort
def hd_delete (l : List Int) (i j : Int) : Option (List Int) := chk (l ≠ [] ∧ 0 ≤ i ∧ i ≤ j ∧ j ≤ (l.length : Int)) (some (l.take i.toNat ++ l.drop j.toNat))
set_option maxRecDepth 100000 in
theorem hd_delete_ok {l : List Int} {i j : Int} {r : List Int} (h : hd_delete l i j = some r) : ASpec Try.prog 74 [.own 0 0 l.length 1, pI i, pI j] [(0, .row 89 (l.flatMap iC))] (.p (encL iC r)) [] := by
  refine chk_el h fun hb h => ?_
  obtain rfl := Option.some.inj h
  refine aspec_delete ⟨Try.f74, Try.func74, by kernel_rfl, by kernel_rfl⟩ ?_ 89 hb.1 hb.2.1 hb.2.2.1 hb.2.2.2
  have hi : (Try.prog.info? 89).map (fun i => i.size) = some 1 := by kernel_rfl
  obtain ⟨i0, hi1, hi2⟩ := Option.map_eq_some_iff.1 hi
  intro w blk cap i j d hH h1 h2 h3 h4
  exact AnyE.slices_Delete Try.delHd (Value.int .i64) (fun _ => rfl) 0 Try.zeroValue89 i0 hi1 hi2 blk 0 cap i j d w hH h1 h2 h3 h4
end Go.AM
end
section
namespace Go.AM
open Go Go.RowKit Go.Proofs
noncomputable section
noncomputable def slices_Clone (s_ : (List Int)) : Option (List Int) :=
  chk (s_ ≠ [])
  (chk ((([] : List Int)).length + s_.length ≤ 1099511627776)
  (some ((([] : List Int)) ++ s_)))
end
end Go.AM
end
section
namespace Go.AM
open Go Go.RowKit Go.Proofs
noncomputable section
def boundary_cracks_take_j1 (p_ : Pt) (c : (List (Pt × (List Int)))) (n : Int) : Option ((List (Pt × (List Int)))) :=
    ifB ((((getT ([] : (List Int)) p_ c).length : Int) : Int) == (1 : Int))
    (some (delT p_ c))
    ((slices_Clone (getT ([] : (List Int)) p_ c)).bind fun v =>
      chk (InR .i64 (n + 1 : Int))
      ((hd_delete v n (n + 1)).bind fun v1 =>
      some (setT p_ v1 c)))
noncomputable def boundary_cracks_take (c : (List (Pt × (List Int)))) (p_ : Pt) (h_ : Int) : Option (Bool × (List (Pt × (List Int)))) :=
  (slices_Index (getT ([] : (List Int)) p_ c) h_).bind fun n =>
  ifB (decide (n < (0 : Int)))
  (some (false, c))
  ((boundary_cracks_take_j1 p_ c n).bind fun c1 =>
    some (true, c1))
end
end Go.AM
end
section
namespace Go.AM
open Go Go.RowKit Go.Proofs
noncomputable section
def boundary_heading_from_j1 (h_ : Int) (p_ : Pt) : Option (Int × Int) :=
    ifB (h_ == (0 : Int))
    (chk (InR .i64 (p_.x + 1 : Int))
      (some (p_.x + 1, p_.y)))
    (ifB (h_ == (1 : Int))
      (chk (InR .i64 (p_.y + 1 : Int))
        (some (p_.x, p_.y + 1)))
      (ifB (h_ == (2 : Int))
        (chk (InR .i64 (p_.x - 1 : Int))
          (some (p_.x - 1, p_.y)))
        (chk (InR .i64 (p_.y - 1 : Int))
          (some (p_.x, p_.y - 1)))))
noncomputable def boundary_heading_from (h_ : Int) (p_ : Pt) : Option Pt :=
  (boundary_heading_from_j1 h_ p_).bind fun (pX, pY) =>
  some (Pt.mk pX pY)
end
end Go.AM
end
section
namespace Go.AM
open Go Go.RowKit Go.Proofs
noncomputable section
noncomputable def boundary_heading_left (h_ : Int) : Option Int :=
  chk (InR .i64 (h_ + 1 : Int))
  (some ((h_ + 1 : Int).tmod (4 : Int)))
end
end Go.AM
end
section
namespace Go.AM
open Go Go.RowKit Go.Proofs
noncomputable section
noncomputable def boundary_heading_right (h_ : Int) : Option Int :=
  chk (InR .i64 (h_ + 3 : Int))
  (some ((h_ + 3 : Int).tmod (4 : Int)))
end
end Go.AM
end
section
namespace Go.AM
open Go Go.RowKit Go.Proofs
noncomputable section
noncomputable def slices_Contains (s_ : (List Int)) (v : Int) : Option Bool :=
  (slices_Index s_ v).bind fun n =>
  some (decide (n ≥ (0 : Int)))
end
end Go.AM
end
section
namespace Go.AM
open Go Go.RowKit Go.Proofs
noncomputable section
def boundary_cracks_walk_j1 (x : Int) (h_3 : Int) (out_3 : (List Pt)) (v1 : Pt) : Option ((List Pt)) :=
    ifB (x != h_3)
    (chk (out_3.length + ([v1]).length ≤ 1099511627776)
      (some (out_3 ++ ([v1]))))
    (some out_3)
def boundary_cracks_walk_l2 (n : Int) (h_3 : Int) (n1 : Int) (v1 : Pt) (v : (Bool × (List (Pt × (List Int))))) (out_3 : (List Pt)) (s : Int) : Option ((Int) ⊕ (Int × (List Pt))) :=
  match s with
  | t35 =>
    ifB (decide (t35 < (3 : Int)))
    ((getI ([n, h_3, n1]) t35).bind fun x =>
      (slices_Contains (getT ([] : (List Int)) v1 v.2) x).bind fun b =>
      ifB (b)
      ((boundary_cracks_walk_j1 x h_3 out_3 v1).bind fun out_ =>
        some (.inr (x, out_)))
      (chk (InR .i64 (t35 + 1 : Int))
        (some (.inl (t35 + 1)))))
    (some (.inr (h_3, out_3)))
def boundary_cracks_walk_l3 (start : Pt) (s : Int × (List (Pt × (List Int))) × (List Pt) × Int × Int) : Option ((Int × (List (Pt × (List Int))) × (List Pt) × Int × Int) ⊕ ((List Pt) × (List (Pt × (List Int))))) :=
  match s with
  | (h_3, c1, out_3, pX, pY) =>
    (boundary_cracks_take c1 (Pt.mk pX pY) h_3).bind fun v =>
    ifB (v.1)
    ((boundary_heading_from h_3 (Pt.mk pX pY)).bind fun v1 =>
      ifB ((v1.x == start.x) && ((v1.y == start.y) && true))
      (some (.inr (out_3, v.2)))
      ((boundary_heading_left h_3).bind fun n =>
        (boundary_heading_right h_3).bind fun n1 =>
        (loopP (boundary_cracks_walk_l2 n h_3 n1 v1 v out_3) 0).bind fun (h_2, out_2) =>
        some (.inl (h_2, v.2, out_2, v1.x, v1.y))))
    (some (.inr (out_3, v.2)))
noncomputable def boundary_cracks_walk (c : (List (Pt × (List Int)))) (start : Pt) : Option (Poly × (List (Pt × (List Int)))) :=
  (getI (getT ([] : (List Int)) start c) (0 : Int)).bind fun h_ =>
  (loopP (boundary_cracks_walk_l3 start) (h_, c, [start], start.x, start.y)).bind fun (out_4, c3) =>
  some (Poly.mk out_4, c3)
end
end Go.AM
end
section
namespace Go.AM
open Go Go.RowKit Go.Proofs
noncomputable section
def boundary_Trace_j1 (v1 : (List Pt)) (t28 : Int) (m1 : (List (Pt × (List Int)))) (out_1 : (List Poly)) : Option ((List Poly) × (List (Pt × (List Int)))) :=
    (getI v1 t28).bind fun p_ =>
    ifB (decide ((((getT ([] : (List Int)) p_ m1).length : Int) : Int) > (0 : Int)))
    ((boundary_cracks_walk m1 p_).bind fun v2 =>
      chk (out_1.length + ([Poly.mk v2.1.pts]).length ≤ 1099511627776)
      (some (out_1 ++ ([Poly.mk v2.1.pts]), v2.2)))
    (some (out_1, m1))
def boundary_Trace_l2 (v1 : (List Pt)) (s : (List Poly) × Int × (List (Pt × (List Int)))) : Option (((List Poly) × Int × (List (Pt × (List Int)))) ⊕ ((List Poly))) :=
  match s with
  | (out_1, t28, m1) =>
    ifB (decide (t28 < (v1.length : Int)))
    ((boundary_Trace_j1 v1 t28 m1 out_1).bind fun (out_, m) =>
      chk (InR .i64 (t28 + 1 : Int))
      (some (.inl (out_, t28 + 1, m))))
    (some (.inr out_1))
noncomputable def boundary_Trace (r_ : Region) : Option (List Poly) :=
  (region_Valid r_).bind fun b =>
  ifB (!b)
  (some ([] : (List Poly)))
  ((boundary_collect r_).bind fun v =>
    chk (v.length ≤ 1099511627776)
    ((some (List.map (fun x => x.1) v)).bind fun keys =>
    (sort_pt keys).bind fun v1 =>
    (loopP (boundary_Trace_l2 v1) (([] : List Poly), 0, v)).bind fun out_2 =>
    some out_2))
end
end Go.AM
end
section
namespace Go.AM
open Go Go.RowKit Go.Proofs
noncomputable section
noncomputable def ringwalk_sign (n : Int) : Option Int :=
  ifB (decide (n > (0 : Int)))
  (some 1)
  (ifB (decide (n < (0 : Int)))
    (some (-1))
    (some 0))
end
end Go.AM
end
section
namespace Go.AM
open Go Go.RowKit Go.Proofs
noncomputable section
noncomputable def ringwalk_direction (a : Pt) (b : Pt) : Option Pt :=
  chk (InR .i64 (b.x - a.x : Int))
  ((ringwalk_sign (b.x - a.x)).bind fun n =>
  chk (InR .i64 (b.y - a.y : Int))
  ((ringwalk_sign (b.y - a.y)).bind fun n1 =>
  some (Pt.mk n n1)))
end
end Go.AM
end
section
namespace Go.AM
open Go Go.RowKit Go.Proofs
noncomputable section
def ringwalk_add_j1 (l : (List Cell)) (c : Cell) : Option (Bool) :=
    ifB (decide ((l.length : Int) > (0 : Int)))
    (chk (InR .i64 (((l.length : Int)) - 1 : Int))
      ((getI l (((l.length : Int)) - 1 : Int)).bind fun c1 =>
      some ((c1.x == c.x) && ((c1.y == c.y) && true))))
    (some false)
noncomputable def ringwalk_add (l : (List Cell)) (c : Cell) : Option (List Cell) :=
  (ringwalk_add_j1 l c).bind fun t17 =>
  ifB (t17)
  (some l)
  (chk (l.length + ([c]).length ≤ 1099511627776)
    (some (l ++ ([c]))))
end
end Go.AM
end
section
namespace Go.AM
open Go Go.RowKit Go.Proofs
noncomputable section
noncomputable def ringwalk_left (p_ : Pt) (d : Pt) : Option Cell :=
  ifB ((d.x == (1 : Int)) && ((d.y == (0 : Int)) && true))
  (some (Cell.mk p_.x p_.y))
  (ifB ((d.x == (0 : Int)) && ((d.y == (1 : Int)) && true))
    (chk (InR .i64 (p_.x - 1 : Int))
      (some (Cell.mk (p_.x - 1) p_.y)))
    (ifB ((d.x == (-1 : Int)) && ((d.y == (0 : Int)) && true))
      (chk (InR .i64 (p_.x - 1 : Int))
        (chk (InR .i64 (p_.y - 1 : Int))
        (some (Cell.mk (p_.x - 1) (p_.y - 1)))))
      (chk (InR .i64 (p_.y - 1 : Int))
        (some (Cell.mk p_.x (p_.y - 1))))))
end
end Go.AM
end
section
namespace Go.AM
open Go Go.RowKit Go.Proofs
noncomputable section
def ringwalk_walk_l1 (t4 : Int) (t0 : (List Pt)) (t6X : Int) (t6Y : Int) (s : (List Cell) × Int × Int) : Option (((List Cell) × Int × Int) ⊕ ((List Cell) × Int × Int)) :=
  match s with
  | (t3, t5X, t5Y) =>
    chk (InR .i64 (t4 + 1 : Int))
    (chk ((t0.length : Int) ≠ 0)
    ((getI t0 ((t4 + 1 : Int).tmod (t0.length : Int) : Int)).bind fun p_2 =>
    ifB (!((t5X == p_2.x) && ((t5Y == p_2.y) && true)))
    ((ringwalk_left (Pt.mk t5X t5Y) (Pt.mk t6X t6Y)).bind fun v1 =>
      (ringwalk_add t3 v1).bind fun v2 =>
      chk (InR .i64 (t5X + t6X : Int))
      (chk (InR .i64 (t5Y + t6Y : Int))
      (some (.inl (v2, t5X + t6X, t5Y + t6Y)))))
    (some (.inr (t3, t5X, t5Y)))))
def ringwalk_walk_j2 (t6X : Int) (v3 : Pt) (t6Y : Int) (t5X1 : Int) (t5Y1 : Int) (t31 : (List Cell)) : Option ((List Cell)) :=
    chk (InR .i64 (t6X * v3.y : Int))
    (chk (InR .i64 (t6Y * v3.x : Int))
    (chk (InR .i64 ((t6X * v3.y) - (t6Y * v3.x) : Int))
    (ifB (decide (((t6X * v3.y) - (t6Y * v3.x) : Int) < (0 : Int)))
    (chk (InR .i64 (t5X1 - t6X : Int))
      (chk (InR .i64 (t5Y1 - t6Y : Int))
      ((ringwalk_left (Pt.mk (t5X1 - t6X) (t5Y1 - t6Y)) (Pt.mk t6X t6Y)).bind fun v4 =>
      chk (InR .i64 (v4.x + t6X : Int))
      (chk (InR .i64 (v4.y + t6Y : Int))
      ((ringwalk_add t31 (Cell.mk (v4.x + t6X) (v4.y + t6Y))).bind fun v5 =>
      some v5)))))
    (some t31))))
def ringwalk_walk_l3 (t0 : (List Pt)) (s : (List Cell) × Int × Int × Int × Int × Int) : Option (((List Cell) × Int × Int × Int × Int × Int) ⊕ ((List Cell))) :=
  match s with
  | (t33, t4, t5X2, t5Y2, t6X, t6Y) =>
    (loopP (ringwalk_walk_l1 t4 t0 t6X t6Y) (t33, t5X2, t5Y2)).bind fun (t31, t5X1, t5Y1) =>
    chk (InR .i64 (t4 + 1 : Int))
    (chk ((t0.length : Int) ≠ 0)
    ((getI t0 ((t4 + 1 : Int).tmod (t0.length : Int) : Int)).bind fun p_3 =>
    chk (InR .i64 ((t4 + 1) + 1 : Int))
    ((getI t0 (((t4 + 1) + 1 : Int).tmod (t0.length : Int) : Int)).bind fun p_4 =>
    (ringwalk_direction p_3 p_4).bind fun v3 =>
    (ringwalk_walk_j2 t6X v3 t6Y t5X1 t5Y1 t31).bind fun t32 =>
    ifB ((t4 + 1 : Int) == (t0.length : Int))
    (some (.inr t32))
    (some (.inl (t32, t4 + 1, t5X1, t5Y1, v3.x, v3.y))))))
def ringwalk_walk_j4 (t35 : (List Cell)) : Option (Bool) :=
    ifB (decide ((t35.length : Int) > (1 : Int)))
    ((getI t35 (0 : Int)).bind fun c =>
      chk (InR .i64 (((t35.length : Int)) - 1 : Int))
      ((getI t35 (((t35.length : Int)) - 1 : Int)).bind fun c1 =>
      some ((c.x == c1.x) && ((c.y == c1.y) && true))))
    (some false)
def ringwalk_walk_j5 (t35 : (List Cell)) : Option ((List Cell)) :=
    (ringwalk_walk_j4 t35).bind fun t120 =>
    ifB (t120)
    (chk (InR .i64 (((t35.length : Int)) - 1 : Int))
      (chk ((0 ≤ (((t35.length : Int)) - 1 : Int) ∧ (((t35.length : Int)) - 1 : Int) ≤ (t35.length : Int)))
      (some (t35.take (((t35.length : Int)) - 1 : Int).toNat))))
    (some t35)
noncomputable def ringwalk_walk (t0 : (List Pt)) : Option (List Cell) :=
  (getI t0 (0 : Int)).bind fun p_ =>
  (getI t0 (1 : Int)).bind fun p_1 =>
  (ringwalk_direction p_ p_1).bind fun v =>
  (loopP (ringwalk_walk_l3 t0) (([] : List Cell), 0, p_.x, p_.y, v.x, v.y)).bind fun t35 =>
  (ringwalk_walk_j5 t35).bind fun t36 =>
  some t36
end
end Go.AM
end
section
namespace Go.AM
open Go Go.RowKit Go.Proofs
noncomputable section
def ringwalk_Walk_j1 (v : (List Poly)) (t10 : Int) (out_1 : (List Track)) : Option ((List Track)) :=
    (getI v t10).bind fun p_ =>
    (ringwalk_walk p_.pts).bind fun v1 =>
    ifB (decide ((v1.length : Int) ≤ (65536 : Int)))
    (chk (out_1.length + ([Track.mk 1 true v1]).length ≤ 1099511627776)
      (some (out_1 ++ ([Track.mk 1 true v1]))))
    (some out_1)
def ringwalk_Walk_l2 (v : (List Poly)) (s : (List Track) × Int) : Option (((List Track) × Int) ⊕ ((List Track))) :=
  match s with
  | (out_1, t10) =>
    ifB (decide (t10 < (v.length : Int)))
    ((ringwalk_Walk_j1 v t10 out_1).bind fun out_ =>
      chk (InR .i64 (t10 + 1 : Int))
      (some (.inl (out_, t10 + 1))))
    (some (.inr out_1))
noncomputable def ringwalk_Walk (r_ : Region) : Option (List Track) :=
  (boundary_Trace r_).bind fun v =>
  (loopP (ringwalk_Walk_l2 v) (([] : List Track), 0)).bind fun out_2 =>
  some out_2
end
end Go.AM
end
section
namespace Go.AM
open Go Go.RowKit Go.Proofs
noncomputable section
def region_Box_j1 (t0 : Region) : Option (Bool) :=
    (region_Valid t0).bind fun b =>
    ifB (!b)
    (some true)
    (some ((t0.rows.length : Int) == (0 : Int)))
def region_Box_l2 (t0 : Region) (s : Int × Int × Int) : Option ((Int × Int × Int) ⊕ (Int × Int)) :=
  match s with
  | (t39, t5X, t6X) =>
    ifB (decide (t39 < (t0.rows.length : Int)))
    ((getI t0.rows t39).bind fun r_2 =>
      (getI r_2.runs (0 : Int)).bind fun r_3 =>
      chk (InR .i64 (((r_2.runs.length : Int)) - 1 : Int))
      ((getI r_2.runs (((r_2.runs.length : Int)) - 1 : Int)).bind fun r_4 =>
      chk (InR .i64 (r_4.to - 1 : Int))
      (chk (InR .i64 (t39 + 1 : Int))
      (some (.inl (t39 + 1, min t5X r_3.frm, max t6X (r_4.to - 1 : Int)))))))
    (some (.inr (t5X, t6X)))
noncomputable def region_Box (t0 : Region) : Option (Cell × Cell × Bool) :=
  (region_Box_j1 t0).bind fun t17 =>
  ifB (t17)
  (some (Cell.mk 0 0, Cell.mk 0 0, false))
  ((getI t0.rows (0 : Int)).bind fun r_ =>
    chk (InR .i64 (((t0.rows.length : Int)) - 1 : Int))
    ((getI t0.rows (((t0.rows.length : Int)) - 1 : Int)).bind fun r_1 =>
    (loopP (region_Box_l2 t0) (0, 4096, -4096)).bind fun (t5X1, t6X1) =>
    some (Cell.mk t5X1 r_.y, Cell.mk t6X1 r_1.y, true)))
end
end Go.AM
end
section
namespace Go.AM
open Go Go.RowKit Go.Proofs
noncomputable section
def region_near_j1 (d : Int) : Option (Bool) :=
    ifB (decide (d ≥ (-8192 : Int)))
    (some (decide (d ≤ (8192 : Int))))
    (some false)
noncomputable def region_near (d : Int) : Option Bool :=
  (region_near_j1 d).bind fun t2 =>
  some t2
end
end Go.AM
end
section
namespace Go.AM
open Go Go.RowKit Go.Proofs
noncomputable section
def runs_Shift_j1 (t1 : Int) (t0 : (List Run)) : Option (Bool) :=
    ifB (decide (t1 < (-2097152 : Int)))
    (some true)
    (ifB (decide (t1 > (2097152 : Int)))
      (some true)
      ((getI t0 (0 : Int)).bind fun r_ =>
        chk (InR .i64 (r_.frm + t1 : Int))
        (ifB (decide ((r_.frm + t1 : Int) < (-1048576 : Int)))
        (some true)
        (chk (InR .i64 (((t0.length : Int)) - 1 : Int))
          ((getI t0 (((t0.length : Int)) - 1 : Int)).bind fun r_1 =>
          chk (InR .i64 (r_1.to + t1 : Int))
          (some (decide ((r_1.to + t1 : Int) > (1048576 : Int)))))))))
def runs_Shift_l2 (t0 : (List Run)) (t1 : Int) (s : (List Run) × Int) : Option (((List Run) × Int) ⊕ ((List Run))) :=
  match s with
  | (t6, t50) =>
    ifB (decide (t50 < (t0.length : Int)))
    ((getI t0 t50).bind fun r_2 =>
      chk (InR .i64 (r_2.frm + t1 : Int))
      (chk (InR .i64 (r_2.to + t1 : Int))
      ((getI t6 t50).bind fun _ =>
      chk (InR .i64 (t50 + 1 : Int))
      (some (.inl (t6.set t50.toNat (Run.mk (r_2.frm + t1) (r_2.to + t1)), t50 + 1))))))
    (some (.inr t6))
noncomputable def runs_Shift (t0 : (List Run)) (t1 : Int) : Option ((List Run) × Int) :=
  (runs_Valid t0).bind fun b =>
  ifB (!b)
  (some (([] : (List Run)), 1))
  (ifB ((t0.length : Int) == (0 : Int))
    (some (([] : (List Run)), 0))
    ((runs_Shift_j1 t1 t0).bind fun t17 =>
      ifB (t17)
      (some (([] : (List Run)), 8))
      (chk ((0 ≤ (t0.length : Int) ∧ (t0.length : Int) ≤ (t0.length : Int) ∧ (16 : Int) * (t0.length : Int) ≤ 281474976710656 ∧ (t0.length : Int) ≤ 9223372036854775807))
        ((loopP (runs_Shift_l2 t0 t1) (List.replicate (t0.length : Int).toNat (Run.mk 0 0), 0)).bind fun t61 =>
        some (t61, 0)))))
end
end Go.AM
end
section
namespace Go.AM
open Go Go.RowKit Go.Proofs
noncomputable section
def region_Shift_j1 (t1 : Int) (t2 : Int) (v : (Cell × Cell × Bool)) : Option (Bool) :=
    (region_near t1).bind fun b1 =>
    ifB (!b1)
    (some true)
    ((region_near t2).bind fun b2 =>
      ifB (!b2)
      (some true)
      (chk (InR .i64 (v.1.x + t1 : Int))
        ((region_ok (v.1.x + t1)).bind fun b3 =>
        ifB (!b3)
        (some true)
        (chk (InR .i64 (v.2.1.x + t1 : Int))
          ((region_ok (v.2.1.x + t1)).bind fun b4 =>
          ifB (!b4)
          (some true)
          (chk (InR .i64 (v.1.y + t2 : Int))
            ((region_ok (v.1.y + t2)).bind fun b5 =>
            ifB (!b5)
            (some true)
            (chk (InR .i64 (v.2.1.y + t2 : Int))
              ((region_ok (v.2.1.y + t2)).bind fun b6 =>
              some (!b6))))))))))
def region_Shift_l2 (t0 : Region) (t1 : Int) (t2 : Int) (s : Int × (List Row)) : Option ((Int × (List Row)) ⊕ ((List Row))) :=
  match s with
  | (t76, t11) =>
    ifB (decide (t76 < (t0.rows.length : Int)))
    ((getI t0.rows t76).bind fun r_ =>
      (runs_Shift r_.runs t1).bind fun v1 =>
      chk (InR .i64 (r_.y + t2 : Int))
      (chk (t11.length + ([Row.mk (r_.y + t2) v1.1]).length ≤ 1099511627776)
      (chk (InR .i64 (t76 + 1 : Int))
      (some (.inl (t76 + 1, t11 ++ ([Row.mk (r_.y + t2) v1.1])))))))
    (some (.inr t11))
noncomputable def region_Shift (t0 : Region) (t1 : Int) (t2 : Int) : Option (Region × Int) :=
  (region_Box t0).bind fun v =>
  (region_Valid t0).bind fun b =>
  ifB (!b)
  (some (Region.mk (([] : (List Row))), 1))
  (ifB (!v.2.2)
    (some (Region.mk (([] : (List Row))), 0))
    ((region_Shift_j1 t1 t2 v).bind fun t31 =>
      ifB (t31)
      (some (Region.mk (([] : (List Row))), 8))
      ((loopP (region_Shift_l2 t0 t1 t2) (0, ([] : List Row))).bind fun t111 =>
        some (Region.mk t111, 0))))
end
end Go.AM
end
section
namespace Go.AM
open Go Go.RowKit Go.Proofs
noncomputable section
def R18_fine_j1 (l : (List Run)) (i : Int) : Option (Bool) :=
    (getI l i).bind fun r_ =>
    ifB (decide (r_.frm < (-4096 : Int)))
    (some true)
    (ifB (decide (r_.frm ≥ r_.to))
      (some true)
      (ifB (decide (r_.to > (4096 : Int)))
        (some true)
        (ifB (decide (i > (0 : Int)))
          (chk (InR .i64 (i - 1 : Int))
            ((getI l (i - 1 : Int)).bind fun r_1 =>
            some (decide (r_.frm ≤ r_1.to))))
          (some false))))
def R18_fine_l2 (l : (List Run)) (s : Int) : Option ((Int) ⊕ ((Unit) ⊕ (Unit))) :=
  match s with
  | i =>
    ifB (decide (i < (l.length : Int)))
    ((R18_fine_j1 l i).bind fun t54 =>
      ifB (t54)
      (some (.inr (.inr ())))
      (chk (InR .i64 (i + 1 : Int))
        (some (.inl (i + 1)))))
    (some (.inr (.inl ())))
noncomputable def R18_fine (l : (List Run)) : Option Bool :=
  (loopP (R18_fine_l2 l) 0).bind fun o => match o with
  | .inl _ => some (decide ((l.length : Int) > (0 : Int)))
  | .inr _ => some false
end
end Go.AM
end
section
namespace Go.AM
open Go Go.RowKit Go.Proofs
noncomputable section
def R18_Valid_j1 (r_1 : Row) (i : Int) (r_ : Region) : Option (Bool) :=
    ifB (decide (r_1.y < (-4096 : Int)))
    (some true)
    (ifB (decide (r_1.y ≥ (4096 : Int)))
      (some true)
      (ifB (decide (i > (0 : Int)))
        (chk (InR .i64 (i - 1 : Int))
          ((getI r_.rows (i - 1 : Int)).bind fun r_2 =>
          ifB (decide (r_1.y ≤ r_2.y))
          (some true)
          ((R18_fine r_1.runs).bind fun b =>
            some (!b))))
        ((R18_fine r_1.runs).bind fun b1 =>
          some (!b1))))
def R18_Valid_l2 (r_ : Region) (s : Int) : Option ((Int) ⊕ ((Unit) ⊕ (Unit))) :=
  match s with
  | i =>
    ifB (decide (i < (r_.rows.length : Int)))
    ((getI r_.rows i).bind fun r_1 =>
      (R18_Valid_j1 r_1 i r_).bind fun t48 =>
      ifB (t48)
      (some (.inr (.inr ())))
      (chk (InR .i64 (i + 1 : Int))
        (some (.inl (i + 1)))))
    (some (.inr (.inl ())))
noncomputable def R18_Valid (r_ : Region) : Option Bool :=
  (loopP (R18_Valid_l2 r_) 0).bind fun o => match o with
  | .inl _ => some true
  | .inr _ => some false
end
end Go.AM
end
section
namespace Go.AM
open Go Go.RowKit Go.Proofs
noncomputable section
def R18_Count_l1 (r_ : Region) (i : Int) (s : Int × Int) : Option ((Int × Int) ⊕ (Int)) :=
  match s with
  | (n, k) =>
    (getI r_.rows i).bind fun r_1 =>
    ifB (decide (k < (r_1.runs.length : Int)))
    ((getI r_1.runs k).bind fun r_2 =>
      chk (InR .i64 (r_2.to - r_2.frm : Int))
      (chk (InR .i64 (n + (r_2.to - r_2.frm) : Int))
      (chk (InR .i64 (k + 1 : Int))
      (some (.inl (n + (r_2.to - r_2.frm), k + 1))))))
    (some (.inr n))
def R18_Count_l2 (r_ : Region) (s : Int × Int) : Option ((Int × Int) ⊕ (Int)) :=
  match s with
  | (n2, i) =>
    ifB (decide (i < (r_.rows.length : Int)))
    ((loopP (R18_Count_l1 r_ i) (n2, 0)).bind fun n1 =>
      chk (InR .i64 (i + 1 : Int))
      (some (.inl (n1, i + 1))))
    (some (.inr n2))
noncomputable def R18_Count (r_ : Region) : Option Int :=
  (R18_Valid r_).bind fun b =>
  ifB (!b)
  (some 0)
  ((loopP (R18_Count_l2 r_) (0, 0)).bind fun n3 =>
    some n3)
end
end Go.AM
end
section
namespace Go.AM
open Go Go.RowKit Go.Proofs
noncomputable section
def L18_Small_l1 (r_ : Region) (s : Int) : Option ((Int) ⊕ ((Unit) ⊕ (Unit))) :=
  match s with
  | i =>
    ifB (decide (i < (r_.rows.length : Int)))
    ((getI r_.rows i).bind fun r_1 =>
      ifB (decide ((r_1.runs.length : Int) > (40 : Int)))
      (some (.inr (.inr ())))
      (chk (InR .i64 (i + 1 : Int))
        (some (.inl (i + 1)))))
    (some (.inr (.inl ())))
noncomputable def L18_Small (r_ : Region) : Option Bool :=
  ifB (decide ((r_.rows.length : Int) > (40 : Int)))
  (some false)
  ((loopP (L18_Small_l1 r_) 0).bind fun o => match o with
    | .inl _ => (R18_Count r_).bind fun n =>
      some (decide (n ≤ (600 : Int)))
    | .inr _ => some false)
end
end Go.AM
end
section
namespace Go.AM
open Go Go.RowKit Go.Proofs
noncomputable section
def L24_box_l1 (h_ : Int) (y : Int) (x : Int) (w_ : Int) (s : Int × (List Row)) : Option ((Int × (List Row)) ⊕ ((List Row))) :=
  match s with
  | (i, out_) =>
    ifB (decide (i < h_))
    (chk (InR .i64 (y + i : Int))
      (chk (InR .i64 (x + w_ : Int))
      (chk (out_.length + ([Row.mk (y + i) ([Run.mk x (x + w_)])]).length ≤ 1099511627776)
      (chk (InR .i64 (i + 1 : Int))
      (some (.inl (i + 1, out_ ++ ([Row.mk (y + i) ([Run.mk x (x + w_)])]))))))))
    (some (.inr out_))
noncomputable def L24_box (x : Int) (y : Int) (w_ : Int) (h_ : Int) : Option Region :=
  (loopP (L24_box_l1 h_ y x w_) (0, ([] : List Row))).bind fun out_1 =>
  some (Region.mk out_1)
end
end Go.AM
end
section
namespace Go.AM
open Go Go.RowKit Go.Proofs
noncomputable section
def L24_awake_j1 (v1 : (List Track)) : Option (Bool) :=
    ifB ((v1.length : Int) != (1 : Int))
    (some true)
    ((getI v1 (0 : Int)).bind fun t =>
      some ((t.cells.length : Int) != (4 : Int)))
def L24_awake_j2 (t1 : Track) : Option (Bool) :=
    ifB (t1.closed)
    (ifB (t1.role == (1 : Int))
      ((getI t1.cells (0 : Int)).bind fun c =>
        ifB ((c.x == (0 : Int)) && ((c.y == (0 : Int)) && true))
        ((getI t1.cells (1 : Int)).bind fun c1 =>
          ifB ((c1.x == (1 : Int)) && ((c1.y == (0 : Int)) && true))
          ((getI t1.cells (2 : Int)).bind fun c2 =>
            ifB ((c2.x == (1 : Int)) && ((c2.y == (1 : Int)) && true))
            ((getI t1.cells (3 : Int)).bind fun c3 =>
              some ((c3.x == (0 : Int)) && ((c3.y == (1 : Int)) && true)))
            (some false))
          (some false))
        (some false))
      (some false))
    (some false)
noncomputable def L24_awake  : Option Bool :=
  (L24_box 0 0 2 2).bind fun v =>
  (ringwalk_Walk v).bind fun v1 =>
  (L24_awake_j1 v1).bind fun t15 =>
  ifB (t15)
  (some false)
  ((getI v1 (0 : Int)).bind fun t1 =>
    (L24_awake_j2 t1).bind fun t0 =>
    some t0)
end
end Go.AM
end
section
namespace Go.AM
open Go Go.Proofs
theorem Try_mixed : Try.prog.follows .mixedOrders = true := by kernel_rfl
end Go.AM
end
section
namespace Go.AM
open Go Go.RowKit Go.Proofs
noncomputable section
set_option maxRecDepth 100000 in
set_option maxHeartbeats 4000000 in
theorem region_ok_ok {x : Int} {r : Bool} (h : region_ok x = some r) : ASpec Try.prog 31 [pI x] [] (pB r) [] := by
  refine aspec_of Try.func31 (c := _) rfl (by kernel_rfl) (by rw [Try.ntmps31]; exact Nat.le_of_ble_eq_true rfl) ?_
  refine awp_seq ?_
  refine awp_regionD Try_mixed (orcs := []) (gs := [.keep [0] []]) (s' := ⟨[(0, pI x)], []⟩) (by kernel_rfl) (holds_of ((UU ∧ UU) ∧ (UU ∧ UU)) (by kernel_rfl) ⟨⟨TT, TT⟩, ⟨TT, TT⟩⟩) ?_
  refine Done.mk (thenQ_n ?_)
  refine awp_seq ?_
  refine bind_el h (fun t2 hm h => ?_)
  refine awp_tail (fun _ => Exit.normal) (fun o => match o with | t2 => ⟨[(2, pB t2)], []⟩) hm (fun o h => ?_) ?_
  · refine ifB_el h (fun k1 h => ?_) (fun k1 h => ?_)
    · refine awp_regionD Try_mixed (orcs := [(2, tB true)]) (gs := [.keep [2] []]) (s' := ⟨[(2, pB (decide (x < (4096 : Int))))], []⟩) (by kernel_rfl) (holds_of ((UU ∧ UU ∧ ((UU ∧ some (pB (decide (x ≥ (-4096 : Int)))) = some (pB true))) ∧ UU ∧ UU ∧ UU ∧ UU ∧ UU) ∧ (UU ∧ UU)) (by kernel_rfl) ⟨⟨TT, TT, ⟨TT, by rw [k1]⟩, TT, TT, TT, TT, TT⟩, ⟨TT, TT⟩⟩) ?_
      refine Done.mk ?_
      obtain rfl := Option.some.inj h
      exact ⟨rfl, by kernel_rfl⟩
    · refine awp_regionD Try_mixed (orcs := [(2, tB false)]) (gs := [.keep [2] []]) (s' := ⟨[(2, pB false)], []⟩) (by kernel_rfl) (holds_of ((UU ∧ UU ∧ ((UU ∧ some (pB (decide (x ≥ (-4096 : Int)))) = some (pB false))) ∧ UU ∧ UU ∧ UU) ∧ (UU ∧ UU)) (by kernel_rfl) ⟨⟨TT, TT, ⟨TT, by rw [k1]⟩, TT, TT, TT⟩, ⟨TT, TT⟩⟩) ?_
      refine Done.mk ?_
      obtain rfl := Option.some.inj h
      exact ⟨rfl, by kernel_rfl⟩
  · have _ := hm
    refine Done.as (e := Exit.normal) (s := ⟨[(2, pB t2)], []⟩) rfl (by kernel_rfl) ?_
    refine Done.mk (thenQ_n ?_)
    refine doneRet ?_
    refine Done.mk ?_
    obtain rfl := Option.some.inj h
    exact ⟨Or.inr rfl, by kernel_rfl, by kernel_rfl⟩
end
end Go.AM
end
section
namespace Go.AM
open Go Go.RowKit Go.Proofs
noncomputable section
set_option maxRecDepth 100000 in
set_option maxHeartbeats 4000000 in
theorem runs_fits_ok {r_ : Run} {r : Bool} (h : runs_fits r_ = some r) : ASpec Try.prog 60 [.agg [pI r_.frm, pI r_.to]] [] (pB r) [] := by
  refine aspec_of Try.func60 (c := _) rfl (by kernel_rfl) (by rw [Try.ntmps60]; exact Nat.le_of_ble_eq_true rfl) ?_
  refine awp_seq ?_
  refine awp_regionD Try_mixed (orcs := []) (gs := [.keep [1] [1]]) (s' := ⟨[(1, .ptr 1 0)], [(1, .lit 57 [pI r_.frm, pI r_.to])]⟩) (by kernel_rfl) (holds_of ((UU ∧ UU ∧ UU) ∧ (UU ∧ UU)) (by kernel_rfl) ⟨⟨TT, TT, TT⟩, ⟨TT, TT⟩⟩) ?_
  refine Done.mk (thenQ_n ?_)
  refine awp_seq ?_
  refine bind_el h (fun t2 hm h => ?_)
  refine awp_tail (fun _ => Exit.normal) (fun o => match o with | t2 => ⟨[(2, pB t2)], []⟩) hm (fun o h => ?_) ?_
  · refine ifB_el h (fun k1 h => ?_) (fun k1 h => ?_)
    · refine ifB_el h (fun k2 h => ?_) (fun k2 h => ?_)
      · refine ifB_el h (fun k3 h => ?_) (fun k3 h => ?_)
        · refine awp_regionD Try_mixed (orcs := [(3, tB true), (8, tB true), (13, tB true)]) (gs := [.keep [2] []]) (s' := ⟨[(2, pB (decide (r_.to ≤ (1048576 : Int))))], []⟩) (by kernel_rfl) (holds_of ((UU ∧ UU ∧ UU ∧ ((UU ∧ some (pB (decide (r_.frm ≥ (-1048576 : Int)))) = some (pB true))) ∧ UU ∧ UU ∧ UU ∧ UU ∧ ((UU ∧ some (pB (decide (r_.frm ≤ (1048576 : Int)))) = some (pB true))) ∧ UU ∧ UU ∧ UU ∧ UU ∧ ((UU ∧ some (pB (decide (r_.to ≥ (-1048576 : Int)))) = some (pB true))) ∧ UU ∧ UU ∧ UU ∧ UU ∧ UU ∧ UU) ∧ (UU ∧ UU)) (by kernel_rfl) ⟨⟨TT, TT, TT, ⟨TT, by rw [k1]⟩, TT, TT, TT, TT, ⟨TT, by rw [k2]⟩, TT, TT, TT, TT, ⟨TT, by rw [k3]⟩, TT, TT, TT, TT, TT, TT⟩, ⟨TT, TT⟩⟩) ?_
          refine Done.mk ?_
          obtain rfl := Option.some.inj h
          exact ⟨rfl, by kernel_rfl⟩
        · refine awp_regionD Try_mixed (orcs := [(3, tB true), (8, tB true), (13, tB false)]) (gs := [.keep [2] []]) (s' := ⟨[(2, pB false)], []⟩) (by kernel_rfl) (holds_of ((UU ∧ UU ∧ UU ∧ ((UU ∧ some (pB (decide (r_.frm ≥ (-1048576 : Int)))) = some (pB true))) ∧ UU ∧ UU ∧ UU ∧ UU ∧ ((UU ∧ some (pB (decide (r_.frm ≤ (1048576 : Int)))) = some (pB true))) ∧ UU ∧ UU ∧ UU ∧ UU ∧ ((UU ∧ some (pB (decide (r_.to ≥ (-1048576 : Int)))) = some (pB false))) ∧ UU ∧ UU ∧ UU) ∧ (UU ∧ UU)) (by kernel_rfl) ⟨⟨TT, TT, TT, ⟨TT, by rw [k1]⟩, TT, TT, TT, TT, ⟨TT, by rw [k2]⟩, TT, TT, TT, TT, ⟨TT, by rw [k3]⟩, TT, TT, TT⟩, ⟨TT, TT⟩⟩) ?_
          refine Done.mk ?_
          obtain rfl := Option.some.inj h
          exact ⟨rfl, by kernel_rfl⟩
      · refine awp_regionD Try_mixed (orcs := [(3, tB true), (8, tB false)]) (gs := [.keep [2] []]) (s' := ⟨[(2, pB false)], []⟩) (by kernel_rfl) (holds_of ((UU ∧ UU ∧ UU ∧ ((UU ∧ some (pB (decide (r_.frm ≥ (-1048576 : Int)))) = some (pB true))) ∧ UU ∧ UU ∧ UU ∧ UU ∧ ((UU ∧ some (pB (decide (r_.frm ≤ (1048576 : Int)))) = some (pB false))) ∧ UU ∧ UU ∧ UU ∧ UU ∧ UU) ∧ (UU ∧ UU)) (by kernel_rfl) ⟨⟨TT, TT, TT, ⟨TT, by rw [k1]⟩, TT, TT, TT, TT, ⟨TT, by rw [k2]⟩, TT, TT, TT, TT, TT⟩, ⟨TT, TT⟩⟩) ?_
        refine Done.mk ?_
        obtain rfl := Option.some.inj h
        exact ⟨rfl, by kernel_rfl⟩
    · refine awp_regionD Try_mixed (orcs := [(3, tB false)]) (gs := [.keep [2] []]) (s' := ⟨[(2, pB false)], []⟩) (by kernel_rfl) (holds_of ((UU ∧ UU ∧ UU ∧ ((UU ∧ some (pB (decide (r_.frm ≥ (-1048576 : Int)))) = some (pB false))) ∧ UU ∧ UU ∧ UU ∧ UU ∧ UU ∧ UU ∧ UU) ∧ (UU ∧ UU)) (by kernel_rfl) ⟨⟨TT, TT, TT, ⟨TT, by rw [k1]⟩, TT, TT, TT, TT, TT, TT, TT⟩, ⟨TT, TT⟩⟩) ?_
      refine Done.mk ?_
      obtain rfl := Option.some.inj h
      exact ⟨rfl, by kernel_rfl⟩
  · have _ := hm
    refine Done.as (e := Exit.normal) (s := ⟨[(2, pB t2)], []⟩) rfl (by kernel_rfl) ?_
    refine Done.mk (thenQ_n ?_)
    refine doneRet ?_
    refine Done.mk ?_
    obtain rfl := Option.some.inj h
    exact ⟨Or.inr rfl, by kernel_rfl, by kernel_rfl⟩
end
end Go.AM
end
