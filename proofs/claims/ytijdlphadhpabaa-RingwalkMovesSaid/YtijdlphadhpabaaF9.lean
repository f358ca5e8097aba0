/- Models of functions, and that their calls do what the models say. Printed by gen.py. -/
import Derived.Test.YtijdlphadhpabaaProg
import Derived.Test.YtijdlphadhpabaaA3
import Derived.Test.YtijdlphadhpabaaA1
import Derived.Test.YtijdlphadhpabaaA4
import Derived.Test.YtijdlphadhpabaaA2
import Derived.Test.YtijdlphadhpabaaA6
import Derived.Test.YtijdlphadhpabaaA8
import Derived.Test.YtijdlphadhpabaaA5
import Derived.Test.YtijdlphadhpabaaA7
import Derived.Test.YtijdlphadhpabaaF8
import Derived.Test.YtijdlphadhpabaaF1
import Derived.Test.YtijdlphadhpabaaA9
section
namespace Go.AM
open Go Go.RowKit Go.Proofs
noncomputable section
def R22_polygon_j1 (c : Crack) (t0 : (List Crack)) (t5 : Int) : Option (Bool) :=
    chk (InR .i64 (c.to.x - c.frm.x : Int))
    ((getI t0 t5).bind fun c1 =>
    chk (InR .i64 (c1.to.x - c1.frm.x : Int))
    (ifB ((c.to.x - c.frm.x : Int) != (c1.to.x - c1.frm.x : Int))
    (some true)
    (chk (InR .i64 (c.to.y - c.frm.y : Int))
      (chk (InR .i64 (c1.to.y - c1.frm.y : Int))
      (some ((c.to.y - c.frm.y : Int) != (c1.to.y - c1.frm.y : Int)))))))
def R22_polygon_j2 (t5 : Int) (t0 : (List Crack)) (t41 : (List Pt)) : Option ((List Pt)) :=
    chk (InR .i64 (t5 + ((t0.length : Int)) : Int))
    (chk (InR .i64 ((t5 + ((t0.length : Int))) - 1 : Int))
    (chk ((t0.length : Int) ≠ 0)
    ((getI t0 (((t5 + ((t0.length : Int))) - 1 : Int).tmod (t0.length : Int) : Int)).bind fun c =>
    (R22_polygon_j1 c t0 t5).bind fun t69 =>
    ifB (t69)
    ((getI t0 t5).bind fun c2 =>
      chk (t41.length + ([Pt.mk c2.frm.x c2.frm.y]).length ≤ 1099511627776)
      (some (t41 ++ ([Pt.mk c2.frm.x c2.frm.y]))))
    (some t41))))
def R22_polygon_l3 (t0 : (List Crack)) (s : (List Pt) × Int) : Option (((List Pt) × Int) ⊕ ((List Pt))) :=
  match s with
  | (t41, t5) =>
    ifB (decide (t5 < (t0.length : Int)))
    ((R22_polygon_j2 t5 t0 t41).bind fun t4 =>
      chk (InR .i64 (t5 + 1 : Int))
      (some (.inl (t4, t5 + 1))))
    (some (.inr t41))
def R22_polygon_j4 (t42 : (List Pt)) (t8 : Int) (t71 : Int) : Option (Int) :=
    (getI t42 t8).bind fun p_ =>
    (getI t42 t71).bind fun p_1 =>
    (R22_lower p_ p_1).bind fun b =>
    ifB (b)
    (some t8)
    (some t71)
def R22_polygon_l5 (t42 : (List Pt)) (s : Int × Int) : Option ((Int × Int) ⊕ (Int)) :=
  match s with
  | (t8, t71) =>
    ifB (decide (t8 < (t42.length : Int)))
    ((R22_polygon_j4 t42 t8 t71).bind fun t7 =>
      chk (InR .i64 (t8 + 1 : Int))
      (some (.inl (t8 + 1, t7))))
    (some (.inr t71))
noncomputable def R22_polygon (t0 : (List Crack)) : Option Poly :=
  (loopP (R22_polygon_l3 t0) (([] : List Pt), 0)).bind fun t42 =>
  (loopP (R22_polygon_l5 t42) (0, 0)).bind fun t72 =>
  chk ((0 ≤ t72 ∧ t72 ≤ (t42.length : Int)))
  (chk ((([] : List Pt)).length + (t42.drop t72.toNat).length ≤ 1099511627776)
  (chk (((([] : List Pt)) ++ (t42.drop t72.toNat)).length + (t42.take t72.toNat).length ≤ 1099511627776)
  (some (Poly.mk (((([] : List Pt)) ++ (t42.drop t72.toNat)) ++ (t42.take t72.toNat))))))
end
end Go.AM
end
section
namespace Go.AM
open Go Go.RowKit Go.Proofs
noncomputable section
def R22_insert_j1 (k : Int) (l : (List Poly)) (p_ : Poly) : Option (Bool) :=
    ifB (decide (k < (l.length : Int)))
    ((getI l k).bind fun p_1 =>
      (getI p_1.pts (0 : Int)).bind fun p_2 =>
      (getI p_.pts (0 : Int)).bind fun p_3 =>
      (R22_lower p_2 p_3).bind fun b =>
      some b)
    (some false)
def R22_insert_l2 (l : (List Poly)) (p_ : Poly) (s : Int) : Option ((Int) ⊕ (Int)) :=
  match s with
  | k =>
    (R22_insert_j1 k l p_).bind fun t24 =>
    ifB (t24)
    (chk (InR .i64 (k + 1 : Int))
      (some (.inl (k + 1))))
    (some (.inr k))
noncomputable def R22_insert (l : (List Poly)) (p_ : Poly) : Option (List Poly) :=
  (loopP (R22_insert_l2 l p_) 0).bind fun k1 =>
  chk ((0 ≤ k1 ∧ k1 ≤ (l.length : Int)))
  (chk ((([] : List Poly)).length + (l.take k1.toNat).length ≤ 1099511627776)
  (chk (((([] : List Poly)) ++ (l.take k1.toNat)).length + ([p_]).length ≤ 1099511627776)
  (chk ((((([] : List Poly)) ++ (l.take k1.toNat)) ++ ([p_])).length + (l.drop k1.toNat).length ≤ 1099511627776)
  (some ((((([] : List Poly)) ++ (l.take k1.toNat)) ++ ([p_])) ++ (l.drop k1.toNat))))))
end
end Go.AM
end
section
namespace Go.AM
open Go Go.RowKit Go.Proofs
noncomputable section
def R22_Trace_l1 (v : (List Crack)) (s : (List Bool) × (List Crack) × Int) : Option (((List Bool) × (List Crack) × Int) ⊕ ((List Bool) × (List Crack))) :=
  match s with
  | (done, loop, at_) =>
    (getI done at_).bind fun x =>
    ifB (!x)
    ((getI v at_).bind fun c =>
      chk (loop.length + ([Crack.mk (Pt.mk c.frm.x c.frm.y) (Pt.mk c.to.x c.to.y)]).length ≤ 1099511627776)
      ((R22_after v at_).bind fun n =>
      some (.inl (done.set at_.toNat true, loop ++ ([Crack.mk (Pt.mk c.frm.x c.frm.y) (Pt.mk c.to.x c.to.y)]), n))))
    (some (.inr (done, loop)))
def R22_Trace_j2 (v : (List Crack)) (done3 : (List Bool)) (i : Int) (out_1 : (List Poly)) : Option ((List Bool) × (List Poly)) :=
    (loopP (R22_Trace_l1 v) (done3, ([] : List Crack), i)).bind fun (done1, loop1) =>
    ifB (decide ((loop1.length : Int) > (0 : Int)))
    ((R22_polygon loop1).bind fun v1 =>
      (R22_insert out_1 v1).bind fun v2 =>
      some (done1, v2))
    (some (done1, out_1))
def R22_Trace_l3 (v : (List Crack)) (s : (List Bool) × (List Poly) × Int) : Option (((List Bool) × (List Poly) × Int) ⊕ ((List Poly))) :=
  match s with
  | (done3, out_1, i) =>
    ifB (decide (i < (v.length : Int)))
    ((R22_Trace_j2 v done3 i out_1).bind fun (done2, out_) =>
      chk (InR .i64 (i + 1 : Int))
      (some (.inl (done2, out_, i + 1))))
    (some (.inr out_1))
noncomputable def R22_Trace (r_ : Region) : Option (List Poly) :=
  (R18_Valid r_).bind fun b =>
  ifB (!b)
  (some ([] : (List Poly)))
  ((R22_cracks r_).bind fun v =>
    chk ((0 ≤ (v.length : Int) ∧ (v.length : Int) ≤ (v.length : Int) ∧ (1 : Int) * (v.length : Int) ≤ 281474976710656 ∧ (v.length : Int) ≤ 9223372036854775807))
    ((loopP (R22_Trace_l3 v) (List.replicate (v.length : Int).toNat false, ([] : List Poly), 0)).bind fun out_2 =>
    some out_2))
end
end Go.AM
end
section
namespace Go.AM
open Go Go.RowKit Go.Proofs
noncomputable section
def R24_once_j1 (out_ : (List Cell)) (l : (List Cell)) (i : Int) : Option (Bool) :=
    ifB ((out_.length : Int) == (0 : Int))
    (some true)
    (chk (InR .i64 (((out_.length : Int)) - 1 : Int))
      ((getI out_ (((out_.length : Int)) - 1 : Int)).bind fun c =>
      (getI l i).bind fun c1 =>
      some (!((c.x == c1.x) && ((c.y == c1.y) && true)))))
def R24_once_j2 (out_ : (List Cell)) (l : (List Cell)) (i : Int) : Option ((List Cell)) :=
    (R24_once_j1 out_ l i).bind fun t26 =>
    ifB (t26)
    ((getI l i).bind fun c2 =>
      chk (out_.length + ([c2]).length ≤ 1099511627776)
      (some (out_ ++ ([c2]))))
    (some out_)
def R24_once_l3 (l : (List Cell)) (s : (List Cell) × Int) : Option (((List Cell) × Int) ⊕ ((List Cell))) :=
  match s with
  | (out_, i) =>
    ifB (decide (i < (l.length : Int)))
    ((R24_once_j2 out_ l i).bind fun out_1 =>
      chk (InR .i64 (i + 1 : Int))
      (some (.inl (out_1, i + 1))))
    (some (.inr out_))
def R24_once_j4 (out_2 : (List Cell)) : Option (Bool) :=
    ifB (decide ((out_2.length : Int) > (1 : Int)))
    ((getI out_2 (0 : Int)).bind fun c3 =>
      chk (InR .i64 (((out_2.length : Int)) - 1 : Int))
      ((getI out_2 (((out_2.length : Int)) - 1 : Int)).bind fun c4 =>
      some ((c3.x == c4.x) && ((c3.y == c4.y) && true))))
    (some false)
def R24_once_j5 (out_2 : (List Cell)) : Option ((List Cell)) :=
    (R24_once_j4 out_2).bind fun t48 =>
    ifB (t48)
    (chk (InR .i64 (((out_2.length : Int)) - 1 : Int))
      (chk ((0 ≤ (((out_2.length : Int)) - 1 : Int) ∧ (((out_2.length : Int)) - 1 : Int) ≤ (out_2.length : Int)))
      (some (out_2.take (((out_2.length : Int)) - 1 : Int).toNat))))
    (some out_2)
noncomputable def R24_once (l : (List Cell)) : Option (List Cell) :=
  (loopP (R24_once_l3 l) (([] : List Cell), 0)).bind fun out_2 =>
  (R24_once_j5 out_2).bind fun out_3 =>
  some out_3
end
end Go.AM
end
section
namespace Go.AM
open Go Go.RowKit Go.Proofs
noncomputable section
noncomputable def R24_way (a : Pt) (b : Pt) : Option Pt :=
  ifB (decide (b.x > a.x))
  (some (Pt.mk 1 0))
  (ifB (decide (b.x < a.x))
    (some (Pt.mk (-1) 0))
    (ifB (decide (b.y > a.y))
      (some (Pt.mk 0 1))
      (some (Pt.mk 0 (-1)))))
end
end Go.AM
end
section
namespace Go.AM
open Go Go.RowKit Go.Proofs
noncomputable section
noncomputable def R24_left (p_ : Pt) (d : Pt) : Option Cell :=
  ifB (decide (d.x > (0 : Int)))
  (some (Cell.mk p_.x p_.y))
  (ifB (decide (d.y > (0 : Int)))
    (chk (InR .i64 (p_.x - 1 : Int))
      (some (Cell.mk (p_.x - 1) p_.y)))
    (ifB (decide (d.x < (0 : Int)))
      (chk (InR .i64 (p_.x - 1 : Int))
        (chk (InR .i64 (p_.y - 1 : Int))
        (some (Cell.mk (p_.x - 1) (p_.y - 1)))))
      (chk (InR .i64 (p_.y - 1 : Int))
        (some (Cell.mk p_.x (p_.y - 1))))))
end
end Go.AM
end
section
namespace Go.AM
open Go Go.RowKit Go.Proofs
noncomputable section
def R24_loop_l1 (p_1 : Pt) (v : Pt) (s : (List Cell) × Int × Int × Int × Int) : Option (((List Cell) × Int × Int × Int × Int) ⊕ ((List Cell) × Int × Int)) :=
  match s with
  | (t3, t5X, t5Y, t10X, t10Y) =>
    ifB (!((t5X == p_1.x) && ((t5Y == p_1.y) && true)))
    ((R24_left (Pt.mk t5X t5Y) v).bind fun v2 =>
      chk (t3.length + ([v2]).length ≤ 1099511627776)
      (chk (InR .i64 (t5X + v.x : Int))
      (chk (InR .i64 (t5Y + v.y : Int))
      (some (.inl (t3 ++ ([v2]), t5X + v.x, t5Y + v.y, v2.x, v2.y))))))
    (some (.inr (t3, t10X, t10Y)))
def R24_loop_j2 (t0 : (List Pt)) (t4 : Int) (t33 : (List Cell)) : Option ((List Cell)) :=
    (getI t0 t4).bind fun p_ =>
    chk (InR .i64 (t4 + 1 : Int))
    (chk ((t0.length : Int) ≠ 0)
    ((getI t0 ((t4 + 1 : Int).tmod (t0.length : Int) : Int)).bind fun p_1 =>
    chk (InR .i64 (t4 + 2 : Int))
    ((getI t0 ((t4 + 2 : Int).tmod (t0.length : Int) : Int)).bind fun p_2 =>
    (R24_way p_ p_1).bind fun v =>
    (R24_way p_1 p_2).bind fun v1 =>
    (loopP (R24_loop_l1 p_1 v) (t33, p_.x, p_.y, 0, 0)).bind fun (t31, t10X1, t10Y1) =>
    chk (InR .i64 (v.x * v1.y : Int))
    (chk (InR .i64 (v.y * v1.x : Int))
    (chk (InR .i64 ((v.x * v1.y) - (v.y * v1.x) : Int))
    (ifB (decide (((v.x * v1.y) - (v.y * v1.x) : Int) < (0 : Int)))
    (chk (InR .i64 (t10X1 + v.x : Int))
      (chk (InR .i64 (t10Y1 + v.y : Int))
      (chk (t31.length + ([Cell.mk (t10X1 + v.x) (t10Y1 + v.y)]).length ≤ 1099511627776)
      (some (t31 ++ ([Cell.mk (t10X1 + v.x) (t10Y1 + v.y)]))))))
    (some t31)))))))
def R24_loop_l3 (t0 : (List Pt)) (s : (List Cell) × Int) : Option (((List Cell) × Int) ⊕ ((List Cell))) :=
  match s with
  | (t33, t4) =>
    ifB (decide (t4 < (t0.length : Int)))
    ((R24_loop_j2 t0 t4 t33).bind fun t32 =>
      chk (InR .i64 (t4 + 1 : Int))
      (some (.inl (t32, t4 + 1))))
    (some (.inr t33))
noncomputable def R24_loop (t0 : (List Pt)) : Option (List Cell) :=
  (loopP (R24_loop_l3 t0) (([] : List Cell), 0)).bind fun t34 =>
  some t34
end
end Go.AM
end
section
namespace Go.AM
open Go Go.RowKit Go.Proofs
noncomputable section
def R24_Walk_j1 (v : (List Poly)) (i : Int) (out_1 : (List Track)) : Option ((List Track)) :=
    (getI v i).bind fun p_ =>
    (R24_loop p_.pts).bind fun v1 =>
    (R24_once v1).bind fun v2 =>
    ifB (decide ((v2.length : Int) ≤ (65536 : Int)))
    (chk (out_1.length + ([Track.mk 1 true v2]).length ≤ 1099511627776)
      (some (out_1 ++ ([Track.mk 1 true v2]))))
    (some out_1)
def R24_Walk_l2 (v : (List Poly)) (s : (List Track) × Int) : Option (((List Track) × Int) ⊕ ((List Track))) :=
  match s with
  | (out_1, i) =>
    ifB (decide (i < (v.length : Int)))
    ((R24_Walk_j1 v i out_1).bind fun out_ =>
      chk (InR .i64 (i + 1 : Int))
      (some (.inl (out_, i + 1))))
    (some (.inr out_1))
noncomputable def R24_Walk (r_ : Region) : Option (List Track) :=
  (R22_Trace r_).bind fun v =>
  (loopP (R24_Walk_l2 v) (([] : List Track), 0)).bind fun out_2 =>
  some out_2
end
end Go.AM
end
section
namespace Go.AM
open Go Go.RowKit Go.Proofs
noncomputable section
def R23_Same_j1 (a : Track) (b : Track) : Option (Bool) :=
    ifB (a.role != b.role)
    (some true)
    (ifB (!(a.closed == b.closed))
      (some true)
      (some ((a.cells.length : Int) != (b.cells.length : Int))))
def R23_Same_l2 (a : Track) (b : Track) (s : Int) : Option ((Int) ⊕ ((Unit) ⊕ (Unit))) :=
  match s with
  | t30 =>
    ifB (decide (t30 < (a.cells.length : Int)))
    ((getI a.cells t30).bind fun c =>
      (getI b.cells t30).bind fun c1 =>
      ifB (!((c.x == c1.x) && ((c.y == c1.y) && true)))
      (some (.inr (.inr ())))
      (chk (InR .i64 (t30 + 1 : Int))
        (some (.inl (t30 + 1)))))
    (some (.inr (.inl ())))
noncomputable def R23_Same (a : Track) (b : Track) : Option Bool :=
  (R23_Same_j1 a b).bind fun t26 =>
  ifB (t26)
  (some false)
  ((loopP (R23_Same_l2 a b) 0).bind fun o => match o with
    | .inl _ => some true
    | .inr _ => some false)
end
end Go.AM
end
section
namespace Go.AM
open Go Go.RowKit Go.Proofs
noncomputable section
def R23_SameAll_l1 (a : (List Track)) (b : (List Track)) (s : Int) : Option ((Int) ⊕ ((Unit) ⊕ (Unit))) :=
  match s with
  | t13 =>
    ifB (decide (t13 < (a.length : Int)))
    ((getI a t13).bind fun t =>
      (getI b t13).bind fun t1 =>
      (R23_Same t t1).bind fun b1 =>
      ifB (!b1)
      (some (.inr (.inr ())))
      (chk (InR .i64 (t13 + 1 : Int))
        (some (.inl (t13 + 1)))))
    (some (.inr (.inl ())))
noncomputable def R23_SameAll (a : (List Track)) (b : (List Track)) : Option Bool :=
  ifB ((a.length : Int) != (b.length : Int))
  (some false)
  ((loopP (R23_SameAll_l1 a b) 0).bind fun o => match o with
    | .inl _ => some true
    | .inr _ => some false)
end
end Go.AM
end
section
namespace Go.AM
open Go Go.RowKit Go.Proofs
noncomputable section
def track_onGrid_j1 (c : Cell) : Option (Bool) :=
    ifB (decide (c.x ≥ (-4096 : Int)))
    (ifB (decide (c.x < (4096 : Int)))
      (ifB (decide (c.y ≥ (-4096 : Int)))
        (some (decide (c.y < (4096 : Int))))
        (some false))
      (some false))
    (some false)
noncomputable def track_onGrid (c : Cell) : Option Bool :=
  (track_onGrid_j1 c).bind fun t2 =>
  some t2
end
end Go.AM
end
section
namespace Go.AM
open Go Go.RowKit Go.Proofs
noncomputable section
noncomputable def track_neighbors (a : Cell) (b : Cell) : Option Bool :=
  chk (InR .i64 (a.x - b.x : Int))
  (chk (InR .i64 (a.y - b.y : Int))
  (chk (InR .i64 ((a.x - b.x) * (a.x - b.x) : Int))
  (chk (InR .i64 ((a.y - b.y) * (a.y - b.y) : Int))
  (chk (InR .i64 (((a.x - b.x) * (a.x - b.x)) + ((a.y - b.y) * (a.y - b.y)) : Int))
  (some ((((a.x - b.x) * (a.x - b.x)) + ((a.y - b.y) * (a.y - b.y)) : Int) == (1 : Int)))))))
end
end Go.AM
end
section
namespace Go.AM
open Go Go.RowKit Go.Proofs
noncomputable section
def track_Valid_j1 (t0 : Track) : Option (Bool) :=
    ifB (decide (t0.role < (1 : Int)))
    (some true)
    (ifB (decide (t0.role > (7 : Int)))
      (some true)
      (ifB (decide ((t0.cells.length : Int) < (1 : Int)))
        (some true)
        (some (decide ((t0.cells.length : Int) > (65536 : Int))))))
def track_Valid_j2 (c : Cell) (t28 : Int) (t0 : Track) : Option (Bool) :=
    (track_onGrid c).bind fun b =>
    ifB (!b)
    (some true)
    (ifB (decide (t28 > (0 : Int)))
      (chk (InR .i64 (t28 - 1 : Int))
        ((getI t0.cells (t28 - 1 : Int)).bind fun c1 =>
        (track_neighbors c1 c).bind fun b1 =>
        some (!b1)))
      (some false))
def track_Valid_l3 (t0 : Track) (s : Int) : Option ((Int) ⊕ ((Unit) ⊕ (Unit))) :=
  match s with
  | t28 =>
    ifB (decide (t28 < (t0.cells.length : Int)))
    ((getI t0.cells t28).bind fun c =>
      (track_Valid_j2 c t28 t0).bind fun t50 =>
      ifB (t50)
      (some (.inr (.inr ())))
      (chk (InR .i64 (t28 + 1 : Int))
        (some (.inl (t28 + 1)))))
    (some (.inr (.inl ())))
def track_Valid_j4 (t0 : Track) : Option (Bool) :=
    ifB (!t0.closed)
    (some true)
    (ifB ((t0.cells.length : Int) == (1 : Int))
      (some true)
      (chk (InR .i64 (((t0.cells.length : Int)) - 1 : Int))
        ((getI t0.cells (((t0.cells.length : Int)) - 1 : Int)).bind fun c2 =>
        (getI t0.cells (0 : Int)).bind fun c3 =>
        (track_neighbors c2 c3).bind fun b2 =>
        some b2)))
noncomputable def track_Valid (t0 : Track) : Option Bool :=
  (track_Valid_j1 t0).bind fun t24 =>
  ifB (t24)
  (some false)
  ((loopP (track_Valid_l3 t0) 0).bind fun o => match o with
    | .inl _ => (track_Valid_j4 t0).bind fun t2 =>
      some t2
    | .inr _ => some false)
end
end Go.AM
end
section
namespace Go.AM
open Go Go.RowKit Go.Proofs
noncomputable section
def L24_RingwalkTracks_j1 (v : (List Track)) (i : Int) : Option (Bool) :=
    (getI v i).bind fun t =>
    (track_Valid t).bind fun b2 =>
    ifB (!b2)
    (some true)
    (ifB (!t.closed)
      (some true)
      (some (t.role != (1 : Int))))
def L24_RingwalkTracks_l2 (v : (List Track)) (s : Int) : Option ((Int) ⊕ ((Unit) ⊕ (Unit))) :=
  match s with
  | i =>
    ifB (decide (i < (v.length : Int)))
    ((L24_RingwalkTracks_j1 v i).bind fun t38 =>
      ifB (t38)
      (some (.inr (.inr ())))
      (chk (InR .i64 (i + 1 : Int))
        (some (.inl (i + 1)))))
    (some (.inr (.inl ())))
def L24_RingwalkTracks_j3 (r_ : Region) (v : (List Track)) : Option (Bool) :=
    (boundary_Trace r_).bind fun v1 =>
    ifB ((v.length : Int) == (v1.length : Int))
    ((L24_awake).bind fun b3 =>
      some b3)
    (some false)
noncomputable def L24_RingwalkTracks (r_ : Region) : Option Bool :=
  (L18_Small r_).bind fun b =>
  ifB (!b)
  ((L24_awake).bind fun b1 =>
    some b1)
  ((ringwalk_Walk r_).bind fun v =>
    (loopP (L24_RingwalkTracks_l2 v) 0).bind fun o => match o with
    | .inl _ => (L24_RingwalkTracks_j3 r_ v).bind fun t2 =>
      some t2
    | .inr _ => some false)
end
end Go.AM
end
