/- Models of functions, and that their calls do what the models say. Printed by gen.py. -/
import Derived.Test.YtijdlphadhpabaaProg
import Derived.Test.YtijdlphadhpabaaF9
import Derived.Test.YtijdlphadhpabaaA8
import Derived.Test.YtijdlphadhpabaaF1
section
namespace Go.AM
open Go Go.RowKit Go.Proofs
noncomputable section
def R22_polygon_j1 (c : Crack) (t0 : (List Crack)) (t5 : Int) : Option (Bool) :=
    chk (InR .i64 (c.to.x - c.frm.x : Int))
    ((getI t0 t5).bind fun c1 =>
    chk (InR .i64 (c1.to.x - c1.frm.x : Int))
    (ifB ((c.to.x - c.frm.x : Int) != (c1.to.x - c1.frm.x : Int))
    (some true)
    (chk (InR .i64 (c.to.y - c.frm.y : Int))
      (chk (InR .i64 (c1.to.y - c1.frm.y : Int))
      (some ((c.to.y - c.frm.y : Int) != (c1.to.y - c1.frm.y : Int)))))))
def R22_polygon_j2 (t5 : Int) (t0 : (List Crack)) (t41 : (List Pt)) : Option ((List Pt)) :=
    chk (InR .i64 (t5 + ((t0.length : Int)) : Int))
    (chk (InR .i64 ((t5 + ((t0.length : Int))) - 1 : Int))
    (chk ((t0.length : Int) ≠ 0)
    ((getI t0 (((t5 + ((t0.length : Int))) - 1 : Int).tmod (t0.length : Int) : Int)).bind fun c =>
    (R22_polygon_j1 c t0 t5).bind fun t69 =>
    ifB (t69)
    ((getI t0 t5).bind fun c2 =>
      chk (t41.length + ([Pt.mk c2.frm.x c2.frm.y]).length ≤ 1099511627776)
      (some (t41 ++ ([Pt.mk c2.frm.x c2.frm.y]))))
    (some t41))))
def R22_polygon_l3 (t0 : (List Crack)) (s : (List Pt) × Int) : Option (((List Pt) × Int) ⊕ ((List Pt))) :=
  match s with
  | (t41, t5) =>
    ifB (decide (t5 < (t0.length : Int)))
    ((R22_polygon_j2 t5 t0 t41).bind fun t4 =>
      chk (InR .i64 (t5 + 1 : Int))
      (some (.inl (t4, t5 + 1))))
    (some (.inr t41))
def R22_polygon_j4 (t42 : (List Pt)) (t8 : Int) (t71 : Int) : Option (Int) :=
    (getI t42 t8).bind fun p_ =>
    (getI t42 t71).bind fun p_1 =>
    (R22_lower p_ p_1).bind fun b =>
    ifB (b)
    (some t8)
    (some t71)
def R22_polygon_l5 (t42 : (List Pt)) (s : Int × Int) : Option ((Int × Int) ⊕ (Int)) :=
  match s with
  | (t8, t71) =>
    ifB (decide (t8 < (t42.length : Int)))
    ((R22_polygon_j4 t42 t8 t71).bind fun t7 =>
      chk (InR .i64 (t8 + 1 : Int))
      (some (.inl (t8 + 1, t7))))
    (some (.inr t71))
noncomputable def R22_polygon (t0 : (List Crack)) : Option Poly :=
  (loopP (R22_polygon_l3 t0) (([] : List Pt), 0)).bind fun t42 =>
  (loopP (R22_polygon_l5 t42) (0, 0)).bind fun t72 =>
  chk ((0 ≤ t72 ∧ t72 ≤ (t42.length : Int)))
  (chk ((([] : List Pt)).length + (t42.drop t72.toNat).length ≤ 1099511627776)
  (chk (((([] : List Pt)) ++ (t42.drop t72.toNat)).length + (t42.take t72.toNat).length ≤ 1099511627776)
  (some (Poly.mk (((([] : List Pt)) ++ (t42.drop t72.toNat)) ++ (t42.take t72.toNat))))))
set_option maxRecDepth 100000 in
set_option maxHeartbeats 4000000 in
theorem R22_polygon_ok {t0 : (List Crack)} {r : Poly} (h : R22_polygon t0 = some r) : ASpec Try.prog 40 [.p (encL Crack.cs t0)] [] (.agg [.p (encL Pt.cs r.pts)]) [] := by
  refine aspec_of Try.func40 (c := _) rfl (by kernel_rfl) (by rw [Try.ntmps40]; exact Nat.le_of_ble_eq_true rfl) ?_
  refine awp_seq ?_
  refine awp_regionD Try_mixed (orcs := []) (gs := [.keep [0, 2] [2]]) (s' := ⟨[(0, .p (encL Crack.cs t0)), (2, .ptr 2 0)], [(2, .lit 53 [.nils])]⟩) (by kernel_rfl) (holds_of ((UU ∧ UU) ∧ (UU ∧ UU)) (by kernel_rfl) ⟨⟨TT, TT⟩, ⟨TT, TT⟩⟩) ?_
  refine Done.mk (thenQ_n ?_)
  refine awp_seq ?_
  refine awp_regionD Try_mixed (orcs := []) (gs := [.keep [0, 2, 3] [2]]) (s' := ⟨[(0, .p (encL Crack.cs t0)), (2, .ptr 2 0), (3, pI ((t0.length : Int)))], [(2, .lit 53 [.nils])]⟩) (by kernel_rfl) (holds_of ((UU ∧ UU ∧ UU ∧ UU) ∧ (UU ∧ UU)) (by kernel_rfl) ⟨⟨TT, TT, TT, TT⟩, ⟨TT, TT⟩⟩) ?_
  refine Done.mk (thenQ_n ?_)
  refine awp_seq ?_
  refine awp_regionD Try_mixed (orcs := []) (gs := [.keep [0, 2, 3, 4] [2]]) (s' := ⟨[(0, .p (encL Crack.cs t0)), (2, .ptr 2 0), (3, pI ((t0.length : Int))), (4, .nils)], [(2, .lit 53 [.nils])]⟩) (by kernel_rfl) (holds_of ((UU ∧ UU) ∧ (UU ∧ UU)) (by kernel_rfl) ⟨⟨TT, TT⟩, ⟨TT, TT⟩⟩) ?_
  refine Done.mk (thenQ_n ?_)
  refine awp_seq ?_
  refine awp_seq ?_
  refine awp_regionD Try_mixed (orcs := []) (gs := [.keep [0, 2, 3, 4, 5] [2]]) (s' := ⟨[(0, .p (encL Crack.cs t0)), (2, .ptr 2 0), (3, pI ((t0.length : Int))), (4, .nils), (5, pI 0)], [(2, .lit 53 [.nils])]⟩) (by kernel_rfl) (holds_of ((UU ∧ UU) ∧ (UU ∧ UU)) (by kernel_rfl) ⟨⟨TT, TT⟩, ⟨TT, TT⟩⟩) ?_
  refine Done.mk (thenQ_n ?_)
  refine awp_block ?_
  refine bind_el h (fun t42 hm h => ?_)
  refine awp_gh [.keep [0, 2, 3, 4, 5] [2], .opn 4 5002 63 2, .keep [0, 2, 3, 4, 5] [2, 5002]] (s' := ⟨[(0, .p (encL Crack.cs t0)), (2, .ptr 2 0), (3, pI ((t0.length : Int))), (4, .own 5002 0 (([] : List Pt)).length 2), (5, pI 0)], [(2, .lit 53 [.nils]), (5002, .row 63 ((([] : List Pt)).flatMap Pt.cs))]⟩) (by kernel_rfl) (holds_of (UU ∧ UU ∧ UU ∧ UU) (by kernel_rfl) ⟨TT, TT, TT, TT⟩) ?_
  refine awp_tail (fun _ => (Exit.exit 0)) (fun o => match o with | t42 => ⟨[(2, .ptr 2 0), (4, .own 5002 0 t42.length 2)], [(2, .lit 53 [.nils]), (5002, .row 63 (t42.flatMap Pt.cs))]⟩) hm (fun o h => ?_) ?_
  · refine awp_loop' (fun s => match s with | (t41, t5) => ⟨[(0, .p (encL Crack.cs t0)), (2, .ptr 2 0), (3, pI ((t0.length : Int))), (4, .own 5002 0 t41.length 2), (5, pI t5)], [(2, .lit 53 [.nils]), (5002, .row 63 (t41.flatMap Pt.cs))]⟩) h (by kernel_rfl) (fun s out h => ?_)
    obtain ⟨t41, t5⟩ := s
    refine awp_seq ?_
    refine awp_seq ?_
    refine awp_regionD Try_mixed (orcs := []) (gs := [.keep [0, 2, 3, 4, 5, 14] [2, 5002]]) (s' := ⟨[(0, .p (encL Crack.cs t0)), (2, .ptr 2 0), (3, pI ((t0.length : Int))), (4, .own 5002 0 t41.length 2), (5, pI t5), (14, pB (decide (t5 < (t0.length : Int))))], [(2, .lit 53 [.nils]), (5002, .row 63 (t41.flatMap Pt.cs))]⟩) (by kernel_rfl) (holds_of ((UU ∧ UU ∧ UU ∧ UU) ∧ (UU ∧ UU)) (by kernel_rfl) ⟨⟨TT, TT, TT, TT⟩, ⟨TT, TT⟩⟩) ?_
    refine Done.mk (thenQ_n ?_)
    refine ifB_el h (fun k1 h => ?_) (fun k1 h => ?_)
    · refine awp_cond_t (b := decide (t5 < (t0.length : Int))) (by kernel_rfl) k1 ?_
      refine doneSkip ?_
      refine Done.mk (thenQ_n ?_)
      refine awp_seq ?_
      refine bind_el h (fun t4 hm h => ?_)
      refine awp_tail (fun _ => Exit.normal) (fun o => match o with | t4 => ⟨[(0, .p (encL Crack.cs t0)), (2, .ptr 2 0), (3, pI ((t0.length : Int))), (4, .own 5003 0 t4.length 2), (5, pI t5)], [(2, .lit 53 [.nils]), (5003, .row 63 (t4.flatMap Pt.cs))]⟩) hm (fun o h => ?_) ?_
      · refine awp_block ?_
        refine awp_seq ?_
        refine chk_el h (fun k2 h => ?_)
        refine chk_el h (fun k3 h => ?_)
        refine chk_el h (fun k4 h => ?_)
        refine bind_el h (fun c k5 h => ?_)
        replace k5 := getI_el k5
        refine awp_regionD Try_mixed (orcs := [(8, tV (.agg [pI c.frm.x, pI c.frm.y, pI c.to.x, pI c.to.y]))]) (gs := [.keep [0, 2, 3, 4, 5, 6] [2, 6, 5002]]) (s' := ⟨[(0, .p (encL Crack.cs t0)), (2, .ptr 2 0), (3, pI ((t0.length : Int))), (4, .own 5002 0 t41.length 2), (5, pI t5), (6, .ptr 6 0)], [(2, .lit 53 [.nils]), (6, .lit 81 [pI c.frm.x, pI c.frm.y, pI c.to.x, pI c.to.y]), (5002, .row 63 (t41.flatMap Pt.cs))]⟩) (by kernel_rfl) (holds_of ((UU ∧ UU ∧ UU ∧ (InR .i64 (t5 + ((t0.length : Int)) : Int)) ∧ (InR .i64 ((t5 + ((t0.length : Int))) - 1 : Int)) ∧ UU ∧ ((t0.length : Int) ≠ 0) ∧ ((0 ≤ (((t5 + ((t0.length : Int))) - 1 : Int).tmod (t0.length : Int) : Int) ∧ (((t5 + ((t0.length : Int))) - 1 : Int).tmod (t0.length : Int) : Int) < (t0.length : Int))) ∧ (rowHas (t0.flatMap Crack.cs) ((((t5 + ((t0.length : Int))) - 1 : Int).tmod (t0.length : Int) : Int).toNat * 4) [pI c.frm.x, pI c.frm.y, pI c.to.x, pI c.to.y]) ∧ UU ∧ UU ∧ UU) ∧ (UU ∧ UU)) (by kernel_rfl) ⟨⟨TT, TT, TT, k2, k3, TT, k4, k5.2, row_has Crack.cs_len k5.1 (o := 0) (m := 4) (by omega) (by decide), TT, TT, TT⟩, ⟨TT, TT⟩⟩) ?_
        refine Done.mk (thenQ_n ?_)
        refine awp_seq ?_
        refine bind_el h (fun t69 hm h => ?_)
        refine awp_tail (fun _ => Exit.normal) (fun o => match o with | t69 => ⟨[(0, .p (encL Crack.cs t0)), (2, .ptr 2 0), (3, pI ((t0.length : Int))), (4, .own 5002 0 t41.length 2), (5, pI t5), (69, pB t69)], [(2, .lit 53 [.nils]), (5002, .row 63 (t41.flatMap Pt.cs))]⟩) hm (fun o h => ?_) ?_
        · refine chk_el h (fun k6 h => ?_)
          refine bind_el h (fun c1 k7 h => ?_)
          replace k7 := getI_el k7
          refine chk_el h (fun k8 h => ?_)
          refine ifB_el h (fun k9 h => ?_) (fun k9 h => ?_)
          · refine awp_regionD Try_mixed (orcs := [(12, tV (pI c1.to.x)), (18, tV (pI c1.frm.x)), (21, tB true)]) (gs := [.keep [0, 2, 3, 4, 5, 69] [2, 5002]]) (s' := ⟨[(0, .p (encL Crack.cs t0)), (2, .ptr 2 0), (3, pI ((t0.length : Int))), (4, .own 5002 0 t41.length 2), (5, pI t5), (69, pB true)], [(2, .lit 53 [.nils]), (5002, .row 63 (t41.flatMap Pt.cs))]⟩) (by kernel_rfl) (holds_of ((UU ∧ UU ∧ UU ∧ UU ∧ UU ∧ UU ∧ (InR .i64 (c.to.x - c.frm.x : Int)) ∧ UU ∧ UU ∧ ((0 ≤ t5 ∧ t5 < (t0.length : Int))) ∧ UU ∧ UU ∧ ((t0.flatMap Crack.cs)[t5.toNat * 4 + 2]? = some (vI c1.to.x)) ∧ UU ∧ UU ∧ ((0 ≤ t5 ∧ t5 < (t0.length : Int))) ∧ UU ∧ UU ∧ ((t0.flatMap Crack.cs)[t5.toNat * 4]? = some (vI c1.frm.x)) ∧ (InR .i64 (c1.to.x - c1.frm.x : Int)) ∧ UU ∧ ((UU ∧ some (pB ((c.to.x - c.frm.x : Int) != (c1.to.x - c1.frm.x : Int))) = some (pB true))) ∧ UU ∧ UU) ∧ (UU ∧ UU)) (by kernel_rfl) ⟨⟨TT, TT, TT, TT, TT, TT, k6, TT, TT, k7.2, TT, TT, row_at Crack.cs_len k7.1 (j := 2) (by omega) (by decide), TT, TT, k7.2, TT, TT, row_at Crack.cs_len k7.1 (j := 0) (by omega) (by decide), k8, TT, ⟨TT, by rw [k9]⟩, TT, TT⟩, ⟨TT, TT⟩⟩) ?_
            refine Done.mk ?_
            obtain rfl := Option.some.inj h
            exact ⟨rfl, by kernel_rfl⟩
          · refine chk_el h (fun k10 h => ?_)
            refine chk_el h (fun k11 h => ?_)
            refine awp_regionD Try_mixed (orcs := [(12, tV (pI c1.to.x)), (18, tV (pI c1.frm.x)), (21, tB false), (34, tV (pI c1.to.y)), (40, tV (pI c1.frm.y))]) (gs := [.keep [0, 2, 3, 4, 5, 69] [2, 5002]]) (s' := ⟨[(0, .p (encL Crack.cs t0)), (2, .ptr 2 0), (3, pI ((t0.length : Int))), (4, .own 5002 0 t41.length 2), (5, pI t5), (69, pB ((c.to.y - c.frm.y : Int) != (c1.to.y - c1.frm.y : Int)))], [(2, .lit 53 [.nils]), (5002, .row 63 (t41.flatMap Pt.cs))]⟩) (by kernel_rfl) (holds_of ((UU ∧ UU ∧ UU ∧ UU ∧ UU ∧ UU ∧ (InR .i64 (c.to.x - c.frm.x : Int)) ∧ UU ∧ UU ∧ ((0 ≤ t5 ∧ t5 < (t0.length : Int))) ∧ UU ∧ UU ∧ ((t0.flatMap Crack.cs)[t5.toNat * 4 + 2]? = some (vI c1.to.x)) ∧ UU ∧ UU ∧ ((0 ≤ t5 ∧ t5 < (t0.length : Int))) ∧ UU ∧ UU ∧ ((t0.flatMap Crack.cs)[t5.toNat * 4]? = some (vI c1.frm.x)) ∧ (InR .i64 (c1.to.x - c1.frm.x : Int)) ∧ UU ∧ ((UU ∧ some (pB ((c.to.x - c.frm.x : Int) != (c1.to.x - c1.frm.x : Int))) = some (pB false))) ∧ UU ∧ UU ∧ UU ∧ UU ∧ UU ∧ UU ∧ (InR .i64 (c.to.y - c.frm.y : Int)) ∧ UU ∧ UU ∧ ((0 ≤ t5 ∧ t5 < (t0.length : Int))) ∧ UU ∧ UU ∧ ((t0.flatMap Crack.cs)[t5.toNat * 4 + 3]? = some (vI c1.to.y)) ∧ UU ∧ UU ∧ ((0 ≤ t5 ∧ t5 < (t0.length : Int))) ∧ UU ∧ UU ∧ ((t0.flatMap Crack.cs)[t5.toNat * 4 + 1]? = some (vI c1.frm.y)) ∧ (InR .i64 (c1.to.y - c1.frm.y : Int)) ∧ UU ∧ UU ∧ UU) ∧ (UU ∧ UU)) (by kernel_rfl) ⟨⟨TT, TT, TT, TT, TT, TT, k6, TT, TT, k7.2, TT, TT, row_at Crack.cs_len k7.1 (j := 2) (by omega) (by decide), TT, TT, k7.2, TT, TT, row_at Crack.cs_len k7.1 (j := 0) (by omega) (by decide), k8, TT, ⟨TT, by rw [k9]⟩, TT, TT, TT, TT, TT, TT, k10, TT, TT, k7.2, TT, TT, row_at Crack.cs_len k7.1 (j := 3) (by omega) (by decide), TT, TT, k7.2, TT, TT, row_at Crack.cs_len k7.1 (j := 1) (by omega) (by decide), k11, TT, TT, TT⟩, ⟨TT, TT⟩⟩) ?_
            refine Done.mk ?_
            obtain rfl := Option.some.inj h
            exact ⟨rfl, by kernel_rfl⟩
        · have _ := hm
          refine Done.as (e := Exit.normal) (s := ⟨[(0, .p (encL Crack.cs t0)), (2, .ptr 2 0), (3, pI ((t0.length : Int))), (4, .own 5002 0 t41.length 2), (5, pI t5), (69, pB t69)], [(2, .lit 53 [.nils]), (5002, .row 63 (t41.flatMap Pt.cs))]⟩) rfl (by kernel_rfl) ?_
          refine Done.mk (thenQ_n ?_)
          refine ifB_el h (fun k12 h => ?_) (fun k12 h => ?_)
          · refine awp_cond_t (b := t69) (by kernel_rfl) k12 ?_
            refine bind_el h (fun c2 k13 h => ?_)
            replace k13 := getI_el k13
            refine chk_el h (fun k14 h => ?_)
            refine awp_regionD Try_mixed (orcs := [(5, tV (.agg [pI c2.frm.x, pI c2.frm.y])), (7, tV (.own 77 0 (t41 ++ ([Pt.mk c2.frm.x c2.frm.y])).length 2))]) (gs := [.castB 77 (.row 63 ((t41 ++ ([Pt.mk c2.frm.x c2.frm.y])).flatMap Pt.cs)), .keep [0, 2, 3, 4, 5] [2, 77]]) (s' := ⟨[(0, .p (encL Crack.cs t0)), (2, .ptr 2 0), (3, pI ((t0.length : Int))), (4, .own 77 0 (t41 ++ ([Pt.mk c2.frm.x c2.frm.y])).length 2), (5, pI t5)], [(2, .lit 53 [.nils]), (77, .row 63 ((t41 ++ ([Pt.mk c2.frm.x c2.frm.y])).flatMap Pt.cs))]⟩) (by kernel_rfl) (holds_of ((UU ∧ UU ∧ UU ∧ ((0 ≤ t5 ∧ t5 < (t0.length : Int))) ∧ UU ∧ (rowHas (t0.flatMap Crack.cs) (t5.toNat * 4) [pI c2.frm.x, pI c2.frm.y]) ∧ UU ∧ ((((t41.flatMap Pt.cs).length = t41.length * 2 ∧ (([Pt.mk c2.frm.x c2.frm.y]).flatMap Pt.cs).length = ([Pt.mk c2.frm.x c2.frm.y]).length * 2 ∧ (t41.length + ([Pt.mk c2.frm.x c2.frm.y]).length) * 16 ≤ 140737488355328 ∧ t41.length + ([Pt.mk c2.frm.x c2.frm.y]).length ≤ 9223372036854775807) ∧ some (AV.own 77 0 (t41.length + ([Pt.mk c2.frm.x c2.frm.y]).length) 2) = some (AV.own 77 0 (t41 ++ ([Pt.mk c2.frm.x c2.frm.y])).length 2))) ∧ UU ∧ UU) ∧ ((some (ABlk.row 63 (t41.flatMap Pt.cs ++ ([Pt.mk c2.frm.x c2.frm.y]).flatMap Pt.cs)) = some (ABlk.row 63 ((t41 ++ ([Pt.mk c2.frm.x c2.frm.y])).flatMap Pt.cs))) ∧ UU ∧ UU)) (by kernel_rfl) ⟨⟨TT, TT, TT, k13.2, TT, row_has Crack.cs_len k13.1 (o := 0) (m := 2) (by omega) (by decide), TT, ⟨⟨flat_len Pt.cs_len _, flat_len Pt.cs_len _, by omega, by omega⟩, app_len _ _ _ _⟩, TT, TT⟩, ⟨(app_row Pt.cs _ _ _), TT, TT⟩⟩) ?_
            refine Done.gh [.keep [0, 2, 3, 4, 5] [2, 77], .ren 77 5003, .keep [0, 2, 3, 4, 5] [2, 5003]] (s' := ⟨[(0, .p (encL Crack.cs t0)), (2, .ptr 2 0), (3, pI ((t0.length : Int))), (4, .own 5003 0 (t41 ++ ([Pt.mk c2.frm.x c2.frm.y])).length 2), (5, pI t5)], [(2, .lit 53 [.nils]), (5003, .row 63 ((t41 ++ ([Pt.mk c2.frm.x c2.frm.y])).flatMap Pt.cs))]⟩) (by kernel_rfl) (holds_of (UU ∧ UU ∧ UU ∧ UU) (by kernel_rfl) ⟨TT, TT, TT, TT⟩) ?_
            refine Done.mk (inB_n ?_)
            obtain rfl := Option.some.inj h
            exact ⟨rfl, by kernel_rfl⟩
          · refine awp_cond_f (b := t69) (by kernel_rfl) k12 ?_
            refine doneSkip ?_
            refine Done.gh [.keep [0, 2, 3, 4, 5] [2, 5002], .ren 5002 5003, .keep [0, 2, 3, 4, 5] [2, 5003]] (s' := ⟨[(0, .p (encL Crack.cs t0)), (2, .ptr 2 0), (3, pI ((t0.length : Int))), (4, .own 5003 0 t41.length 2), (5, pI t5)], [(2, .lit 53 [.nils]), (5003, .row 63 (t41.flatMap Pt.cs))]⟩) (by kernel_rfl) (holds_of (UU ∧ UU ∧ UU ∧ UU) (by kernel_rfl) ⟨TT, TT, TT, TT⟩) ?_
            refine Done.mk (inB_n ?_)
            obtain rfl := Option.some.inj h
            exact ⟨rfl, by kernel_rfl⟩
      · have _ := hm
        refine Done.as (e := Exit.normal) (s := ⟨[(0, .p (encL Crack.cs t0)), (2, .ptr 2 0), (3, pI ((t0.length : Int))), (4, .own 5003 0 t4.length 2), (5, pI t5)], [(2, .lit 53 [.nils]), (5003, .row 63 (t4.flatMap Pt.cs))]⟩) rfl (by kernel_rfl) ?_
        refine Done.mk (thenQ_n ?_)
        refine chk_el h (fun k15 h => ?_)
        refine awp_regionD Try_mixed (orcs := []) (gs := [.keep [0, 2, 3, 4, 5] [2, 5003]]) (s' := ⟨[(0, .p (encL Crack.cs t0)), (2, .ptr 2 0), (3, pI ((t0.length : Int))), (4, .own 5003 0 t4.length 2), (5, pI (t5 + 1))], [(2, .lit 53 [.nils]), (5003, .row 63 (t4.flatMap Pt.cs))]⟩) (by kernel_rfl) (holds_of ((UU ∧ (InR .i64 (t5 + 1 : Int)) ∧ UU ∧ UU) ∧ (UU ∧ UU)) (by kernel_rfl) ⟨⟨TT, k15, TT, TT⟩, ⟨TT, TT⟩⟩) ?_
        refine Done.gh [.keep [0, 2, 3, 4, 5] [2, 5003], .ren 5003 5002, .keep [0, 2, 3, 4, 5] [2, 5002]] (s' := ⟨[(0, .p (encL Crack.cs t0)), (2, .ptr 2 0), (3, pI ((t0.length : Int))), (4, .own 5002 0 t4.length 2), (5, pI (t5 + 1))], [(2, .lit 53 [.nils]), (5002, .row 63 (t4.flatMap Pt.cs))]⟩) (by kernel_rfl) (holds_of (UU ∧ UU ∧ UU ∧ UU) (by kernel_rfl) ⟨TT, TT, TT, TT⟩) ?_
        refine Done.mk ?_
        obtain rfl := Option.some.inj h
        exact ⟨rfl, by kernel_rfl⟩
    · refine awp_cond_f (b := decide (t5 < (t0.length : Int))) (by kernel_rfl) k1 ?_
      refine doneExit ?_
      refine Done.gh [.keep [2, 4] [2, 5002], .keep [2, 4] [2, 5002]] (s' := ⟨[(2, .ptr 2 0), (4, .own 5002 0 t41.length 2)], [(2, .lit 53 [.nils]), (5002, .row 63 (t41.flatMap Pt.cs))]⟩) (by kernel_rfl) (holds_of (UU ∧ UU ∧ UU) (by kernel_rfl) ⟨TT, TT, TT⟩) ?_
      refine Done.mk (thenQ_x ?_)
      obtain rfl := Option.some.inj h
      exact ⟨fun q => (by cases q), fun q => (by subst q; exact ⟨rfl, by kernel_rfl⟩)⟩
  · have _ := hm
    refine Done.as (e := (Exit.exit 0)) (s := ⟨[(2, .ptr 2 0), (4, .own 5002 0 t42.length 2)], [(2, .lit 53 [.nils]), (5002, .row 63 (t42.flatMap Pt.cs))]⟩) rfl (by kernel_rfl) ?_
    refine Done.mk (inB_hit (thenQ_n ?_))
    refine awp_seq ?_
    refine awp_regionD Try_mixed (orcs := []) (gs := [.keep [2, 4, 7] [2, 5002]]) (s' := ⟨[(2, .ptr 2 0), (4, .own 5002 0 t42.length 2), (7, pI 0)], [(2, .lit 53 [.nils]), (5002, .row 63 (t42.flatMap Pt.cs))]⟩) (by kernel_rfl) (holds_of ((UU ∧ UU) ∧ (UU ∧ UU)) (by kernel_rfl) ⟨⟨TT, TT⟩, ⟨TT, TT⟩⟩) ?_
    refine Done.mk (thenQ_n ?_)
    refine awp_seq ?_
    refine awp_seq ?_
    refine awp_regionD Try_mixed (orcs := []) (gs := [.keep [2, 4, 7, 8] [2, 5002]]) (s' := ⟨[(2, .ptr 2 0), (4, .own 5002 0 t42.length 2), (7, pI 0), (8, pI 0)], [(2, .lit 53 [.nils]), (5002, .row 63 (t42.flatMap Pt.cs))]⟩) (by kernel_rfl) (holds_of ((UU ∧ UU) ∧ (UU ∧ UU)) (by kernel_rfl) ⟨⟨TT, TT⟩, ⟨TT, TT⟩⟩) ?_
    refine Done.mk (thenQ_n ?_)
    refine awp_block ?_
    refine bind_el h (fun t72 hm h => ?_)
    refine awp_gh [.keep [2, 4, 7, 8] [2, 5002], .keep [2, 4, 7, 8] [2, 5002]] (s' := ⟨[(2, .ptr 2 0), (4, .own 5002 0 t42.length 2), (7, pI 0), (8, pI 0)], [(2, .lit 53 [.nils]), (5002, .row 63 (t42.flatMap Pt.cs))]⟩) (by kernel_rfl) (holds_of (UU ∧ UU ∧ UU) (by kernel_rfl) ⟨TT, TT, TT⟩) ?_
    refine awp_tail (fun _ => (Exit.exit 2)) (fun o => match o with | t72 => ⟨[(2, .ptr 2 0), (4, .own 5002 0 t42.length 2), (7, pI t72)], [(2, .lit 53 [.nils]), (5002, .row 63 (t42.flatMap Pt.cs))]⟩) hm (fun o h => ?_) ?_
    · refine awp_loop' (fun s => match s with | (t8, t71) => ⟨[(2, .ptr 2 0), (4, .own 5002 0 t42.length 2), (7, pI t71), (8, pI t8)], [(2, .lit 53 [.nils]), (5002, .row 63 (t42.flatMap Pt.cs))]⟩) h (by kernel_rfl) (fun s out h => ?_)
      obtain ⟨t8, t71⟩ := s
      refine awp_seq ?_
      refine awp_seq ?_
      refine awp_regionD Try_mixed (orcs := []) (gs := [.keep [2, 4, 7, 8, 81] [2, 5002]]) (s' := ⟨[(2, .ptr 2 0), (4, .own 5002 0 t42.length 2), (7, pI t71), (8, pI t8), (81, pB (decide (t8 < (t42.length : Int))))], [(2, .lit 53 [.nils]), (5002, .row 63 (t42.flatMap Pt.cs))]⟩) (by kernel_rfl) (holds_of ((UU ∧ UU ∧ UU ∧ UU ∧ UU) ∧ (UU ∧ UU)) (by kernel_rfl) ⟨⟨TT, TT, TT, TT, TT⟩, ⟨TT, TT⟩⟩) ?_
      refine Done.mk (thenQ_n ?_)
      refine ifB_el h (fun k16 h => ?_) (fun k16 h => ?_)
      · refine awp_cond_t (b := decide (t8 < (t42.length : Int))) (by kernel_rfl) k16 ?_
        refine doneSkip ?_
        refine Done.mk (thenQ_n ?_)
        refine awp_seq ?_
        refine bind_el h (fun t7 hm h => ?_)
        refine awp_tail (fun _ => Exit.normal) (fun o => match o with | t7 => ⟨[(2, .ptr 2 0), (4, .own 5002 0 t42.length 2), (7, pI t7), (8, pI t8)], [(2, .lit 53 [.nils]), (5002, .row 63 (t42.flatMap Pt.cs))]⟩) hm (fun o h => ?_) ?_
        · refine awp_block ?_
          refine awp_seq ?_
          refine bind_el h (fun p_ k17 h => ?_)
          replace k17 := getI_el k17
          refine bind_el h (fun p_1 k18 h => ?_)
          replace k18 := getI_el k18
          refine bind_el h (fun b k19 h => ?_)
          refine awp_regionD Try_mixed (orcs := [(3, tV (.agg [pI p_.x, pI p_.y])), (7, tV (.agg [pI p_1.x, pI p_1.y])), (8, tV (pB b))]) (gs := [.keep [2, 4, 7, 8, 92] [2, 5002]]) (s' := ⟨[(2, .ptr 2 0), (4, .own 5002 0 t42.length 2), (7, pI t71), (8, pI t8), (92, pB b)], [(2, .lit 53 [.nils]), (5002, .row 63 (t42.flatMap Pt.cs))]⟩) (by kernel_rfl) (holds_of ((UU ∧ UU ∧ ((0 ≤ t8 ∧ t8 < (t42.length : Int))) ∧ (rowHas (t42.flatMap Pt.cs) (0 + t8.toNat * 2) [pI p_.x, pI p_.y]) ∧ UU ∧ UU ∧ ((0 ≤ t71 ∧ t71 < (t42.length : Int))) ∧ (rowHas (t42.flatMap Pt.cs) (0 + t71.toNat * 2) [pI p_1.x, pI p_1.y]) ∧ (ASpec Try.prog 59 [.agg [pI p_.x, pI p_.y], .agg [pI p_1.x, pI p_1.y]] [] (pB b) []) ∧ UU) ∧ (UU ∧ UU)) (by kernel_rfl) ⟨⟨TT, TT, k17.2, row_has Pt.cs_len k17.1 (o := 0) (m := 2) (by omega) (by decide), TT, TT, k18.2, row_has Pt.cs_len k18.1 (o := 0) (m := 2) (by omega) (by decide), R22_lower_ok k19, TT⟩, ⟨TT, TT⟩⟩) ?_
          refine Done.mk (thenQ_n ?_)
          refine ifB_el h (fun k20 h => ?_) (fun k20 h => ?_)
          · refine awp_cond_t (b := b) (by kernel_rfl) k20 ?_
            refine awp_regionD Try_mixed (orcs := []) (gs := [.keep [2, 4, 7, 8] [2, 5002]]) (s' := ⟨[(2, .ptr 2 0), (4, .own 5002 0 t42.length 2), (7, pI t8), (8, pI t8)], [(2, .lit 53 [.nils]), (5002, .row 63 (t42.flatMap Pt.cs))]⟩) (by kernel_rfl) (holds_of ((UU ∧ UU ∧ UU) ∧ (UU ∧ UU)) (by kernel_rfl) ⟨⟨TT, TT, TT⟩, ⟨TT, TT⟩⟩) ?_
            refine Done.mk (inB_n ?_)
            obtain rfl := Option.some.inj h
            exact ⟨rfl, by kernel_rfl⟩
          · refine awp_cond_f (b := b) (by kernel_rfl) k20 ?_
            refine doneSkip ?_
            refine Done.gh [.keep [2, 4, 7, 8] [2, 5002], .keep [2, 4, 7, 8] [2, 5002]] (s' := ⟨[(2, .ptr 2 0), (4, .own 5002 0 t42.length 2), (7, pI t71), (8, pI t8)], [(2, .lit 53 [.nils]), (5002, .row 63 (t42.flatMap Pt.cs))]⟩) (by kernel_rfl) (holds_of (UU ∧ UU ∧ UU) (by kernel_rfl) ⟨TT, TT, TT⟩) ?_
            refine Done.mk (inB_n ?_)
            obtain rfl := Option.some.inj h
            exact ⟨rfl, by kernel_rfl⟩
        · have _ := hm
          refine Done.as (e := Exit.normal) (s := ⟨[(2, .ptr 2 0), (4, .own 5002 0 t42.length 2), (7, pI t7), (8, pI t8)], [(2, .lit 53 [.nils]), (5002, .row 63 (t42.flatMap Pt.cs))]⟩) rfl (by kernel_rfl) ?_
          refine Done.mk (thenQ_n ?_)
          refine chk_el h (fun k21 h => ?_)
          refine awp_regionD Try_mixed (orcs := []) (gs := [.keep [2, 4, 7, 8] [2, 5002]]) (s' := ⟨[(2, .ptr 2 0), (4, .own 5002 0 t42.length 2), (7, pI t7), (8, pI (t8 + 1))], [(2, .lit 53 [.nils]), (5002, .row 63 (t42.flatMap Pt.cs))]⟩) (by kernel_rfl) (holds_of ((UU ∧ (InR .i64 (t8 + 1 : Int)) ∧ UU ∧ UU) ∧ (UU ∧ UU)) (by kernel_rfl) ⟨⟨TT, k21, TT, TT⟩, ⟨TT, TT⟩⟩) ?_
          refine Done.mk ?_
          obtain rfl := Option.some.inj h
          exact ⟨rfl, by kernel_rfl⟩
      · refine awp_cond_f (b := decide (t8 < (t42.length : Int))) (by kernel_rfl) k16 ?_
        refine doneExit ?_
        refine Done.gh [.keep [2, 4, 7] [2, 5002], .keep [2, 4, 7] [2, 5002]] (s' := ⟨[(2, .ptr 2 0), (4, .own 5002 0 t42.length 2), (7, pI t71)], [(2, .lit 53 [.nils]), (5002, .row 63 (t42.flatMap Pt.cs))]⟩) (by kernel_rfl) (holds_of (UU ∧ UU ∧ UU) (by kernel_rfl) ⟨TT, TT, TT⟩) ?_
        refine Done.mk (thenQ_x ?_)
        obtain rfl := Option.some.inj h
        exact ⟨fun q => (by cases q), fun q => (by subst q; exact ⟨rfl, by kernel_rfl⟩)⟩
    · have _ := hm
      refine Done.as (e := (Exit.exit 2)) (s := ⟨[(2, .ptr 2 0), (4, .own 5002 0 t42.length 2), (7, pI t72)], [(2, .lit 53 [.nils]), (5002, .row 63 (t42.flatMap Pt.cs))]⟩) rfl (by kernel_rfl) ?_
      refine Done.mk (inB_hit (thenQ_n ?_))
      refine awp_seq ?_
      refine awp_gh [.frz 5002] (s' := ⟨[(2, .ptr 2 0), (4, .p (encL Pt.cs t42)), (7, pI t72)], [(2, .lit 53 [.nils])]⟩) (by kernel_rfl) (holds_of (UU ∧ UU) (by kernel_rfl) ⟨TT, TT⟩) ?_
      refine chk_el h (fun k22 h => ?_)
      refine chk_el h (fun k23 h => ?_)
      refine awp_regionD Try_mixed (orcs := [(0, { own := true }), (3, tV (.p (encL Pt.cs (t42.drop t72.toNat)))), (4, tV (.own 98 0 ((([] : List Pt)) ++ (t42.drop t72.toNat)).length 2))]) (gs := [.castB 98 (.row 63 (((([] : List Pt)) ++ (t42.drop t72.toNat)).flatMap Pt.cs)), .keep [2, 4, 7, 9] [2, 98]]) (s' := ⟨[(2, .ptr 2 0), (4, .p (encL Pt.cs t42)), (7, pI t72), (9, .own 98 0 ((([] : List Pt)) ++ (t42.drop t72.toNat)).length 2)], [(2, .lit 53 [.nils]), (98, .row 63 (((([] : List Pt)) ++ (t42.drop t72.toNat)).flatMap Pt.cs))]⟩) (by kernel_rfl) (holds_of ((UU ∧ UU ∧ UU ∧ (((0 ≤ t72 ∧ t72 ≤ (t42.length : Int) ∧ (t42.flatMap Pt.cs).length = t42.length * 2) ∧ some (AV.p (.sl ((t42.flatMap Pt.cs).drop (t72.toNat * 2)) (t42.length - t72.toNat))) = some (AV.p (encL Pt.cs (t42.drop t72.toNat))))) ∧ (((((([] : List Pt)).flatMap Pt.cs).length = (([] : List Pt)).length * 2 ∧ ((t42.drop t72.toNat).flatMap Pt.cs).length = (t42.drop t72.toNat).length * 2 ∧ ((([] : List Pt)).length + (t42.drop t72.toNat).length) * 16 ≤ 140737488355328 ∧ (([] : List Pt)).length + (t42.drop t72.toNat).length ≤ 9223372036854775807) ∧ some (AV.own 98 0 ((([] : List Pt)).length + (t42.drop t72.toNat).length) 2) = some (AV.own 98 0 ((([] : List Pt)) ++ (t42.drop t72.toNat)).length 2))) ∧ UU ∧ UU) ∧ ((some (ABlk.row 63 ((([] : List Pt)).flatMap Pt.cs ++ (t42.drop t72.toNat).flatMap Pt.cs)) = some (ABlk.row 63 (((([] : List Pt)) ++ (t42.drop t72.toNat)).flatMap Pt.cs))) ∧ UU ∧ UU)) (by kernel_rfl) ⟨⟨TT, TT, TT, ⟨⟨k22.1, k22.2, flat_len Pt.cs_len _⟩, drop_sl Pt.cs_len⟩, ⟨⟨flat_len Pt.cs_len _, flat_len Pt.cs_len _, by omega, by omega⟩, app_len _ _ _ _⟩, TT, TT⟩, ⟨(app_row Pt.cs _ _ _), TT, TT⟩⟩) ?_
      refine Done.mk (thenQ_n ?_)
      refine awp_seq ?_
      refine chk_el h (fun k24 h => ?_)
      refine awp_regionD Try_mixed (orcs := [(3, tV (.p (encL Pt.cs (t42.take t72.toNat)))), (4, tV (.own 103 0 (((([] : List Pt)) ++ (t42.drop t72.toNat)) ++ (t42.take t72.toNat)).length 2))]) (gs := [.castB 103 (.row 63 ((((([] : List Pt)) ++ (t42.drop t72.toNat)) ++ (t42.take t72.toNat)).flatMap Pt.cs)), .keep [2, 9] [2, 103]]) (s' := ⟨[(2, .ptr 2 0), (9, .own 103 0 (((([] : List Pt)) ++ (t42.drop t72.toNat)) ++ (t42.take t72.toNat)).length 2)], [(2, .lit 53 [.nils]), (103, .row 63 ((((([] : List Pt)) ++ (t42.drop t72.toNat)) ++ (t42.take t72.toNat)).flatMap Pt.cs))]⟩) (by kernel_rfl) (holds_of ((UU ∧ UU ∧ UU ∧ (((0 ≤ t72 ∧ t72 ≤ (t42.length : Int)) ∧ some (AV.p (.sl ((t42.flatMap Pt.cs).take (t72.toNat * 2)) t72.toNat)) = some (AV.p (encL Pt.cs (t42.take t72.toNat))))) ∧ ((((((([] : List Pt)) ++ (t42.drop t72.toNat)).flatMap Pt.cs).length = ((([] : List Pt)) ++ (t42.drop t72.toNat)).length * 2 ∧ ((t42.take t72.toNat).flatMap Pt.cs).length = (t42.take t72.toNat).length * 2 ∧ (((([] : List Pt)) ++ (t42.drop t72.toNat)).length + (t42.take t72.toNat).length) * 16 ≤ 140737488355328 ∧ ((([] : List Pt)) ++ (t42.drop t72.toNat)).length + (t42.take t72.toNat).length ≤ 9223372036854775807) ∧ some (AV.own 103 0 (((([] : List Pt)) ++ (t42.drop t72.toNat)).length + (t42.take t72.toNat).length) 2) = some (AV.own 103 0 (((([] : List Pt)) ++ (t42.drop t72.toNat)) ++ (t42.take t72.toNat)).length 2))) ∧ UU ∧ UU) ∧ ((some (ABlk.row 63 (((([] : List Pt)) ++ (t42.drop t72.toNat)).flatMap Pt.cs ++ (t42.take t72.toNat).flatMap Pt.cs)) = some (ABlk.row 63 ((((([] : List Pt)) ++ (t42.drop t72.toNat)) ++ (t42.take t72.toNat)).flatMap Pt.cs))) ∧ UU ∧ UU)) (by kernel_rfl) ⟨⟨TT, TT, TT, ⟨k22, take_sl Pt.cs_len k22⟩, ⟨⟨flat_len Pt.cs_len _, flat_len Pt.cs_len _, by omega, by omega⟩, app_len _ _ _ _⟩, TT, TT⟩, ⟨(app_row Pt.cs _ _ _), TT, TT⟩⟩) ?_
      refine Done.mk (thenQ_n ?_)
      refine awp_seq ?_
      refine awp_gh [.frz 103] (s' := ⟨[(2, .ptr 2 0), (9, .p (encL Pt.cs (((([] : List Pt)) ++ (t42.drop t72.toNat)) ++ (t42.take t72.toNat))))], [(2, .lit 53 [.nils])]⟩) (by kernel_rfl) (holds_of (UU ∧ UU) (by kernel_rfl) ⟨TT, TT⟩) ?_
      refine awp_regionD Try_mixed (orcs := []) (gs := [.keep [2] [2]]) (s' := ⟨[(2, .ptr 2 0)], [(2, .lit 53 [.p (encL Pt.cs (((([] : List Pt)) ++ (t42.drop t72.toNat)) ++ (t42.take t72.toNat)))])]⟩) (by kernel_rfl) (holds_of ((UU ∧ UU ∧ UU ∧ UU) ∧ (UU ∧ UU)) (by kernel_rfl) ⟨⟨TT, TT, TT, TT⟩, ⟨TT, TT⟩⟩) ?_
      refine Done.mk (thenQ_n ?_)
      refine doneRet ?_
      refine Done.mk ?_
      obtain rfl := Option.some.inj h
      exact ⟨Or.inr rfl, by kernel_rfl, by kernel_rfl⟩
end
end Go.AM
end
section
namespace Go.AM
open Go Go.RowKit Go.Proofs
noncomputable section
def R22_Trace_l1 (v : (List Crack)) (s : (List Bool) × (List Crack) × Int) : Option (((List Bool) × (List Crack) × Int) ⊕ ((List Bool) × (List Crack))) :=
  match s with
  | (done, loop, at_) =>
    (getI done at_).bind fun x =>
    ifB (!x)
    ((getI v at_).bind fun c =>
      chk (loop.length + ([Crack.mk (Pt.mk c.frm.x c.frm.y) (Pt.mk c.to.x c.to.y)]).length ≤ 1099511627776)
      ((R22_after v at_).bind fun n =>
      some (.inl (done.set at_.toNat true, loop ++ ([Crack.mk (Pt.mk c.frm.x c.frm.y) (Pt.mk c.to.x c.to.y)]), n))))
    (some (.inr (done, loop)))
def R22_Trace_j2 (v : (List Crack)) (done3 : (List Bool)) (i : Int) (out_1 : (List Poly)) : Option ((List Bool) × (List Poly)) :=
    (loopP (R22_Trace_l1 v) (done3, ([] : List Crack), i)).bind fun (done1, loop1) =>
    ifB (decide ((loop1.length : Int) > (0 : Int)))
    ((R22_polygon loop1).bind fun v1 =>
      (R22_insert out_1 v1).bind fun v2 =>
      some (done1, v2))
    (some (done1, out_1))
def R22_Trace_l3 (v : (List Crack)) (s : (List Bool) × (List Poly) × Int) : Option (((List Bool) × (List Poly) × Int) ⊕ ((List Poly))) :=
  match s with
  | (done3, out_1, i) =>
    ifB (decide (i < (v.length : Int)))
    ((R22_Trace_j2 v done3 i out_1).bind fun (done2, out_) =>
      chk (InR .i64 (i + 1 : Int))
      (some (.inl (done2, out_, i + 1))))
    (some (.inr out_1))
noncomputable def R22_Trace (r_ : Region) : Option (List Poly) :=
  (R18_Valid r_).bind fun b =>
  ifB (!b)
  (some ([] : (List Poly)))
  ((R22_cracks r_).bind fun v =>
    chk ((0 ≤ (v.length : Int) ∧ (v.length : Int) ≤ (v.length : Int) ∧ (1 : Int) * (v.length : Int) ≤ 281474976710656 ∧ (v.length : Int) ≤ 9223372036854775807))
    ((loopP (R22_Trace_l3 v) (List.replicate (v.length : Int).toNat false, ([] : List Poly), 0)).bind fun out_2 =>
    some out_2))
set_option maxRecDepth 100000 in
set_option maxHeartbeats 4000000 in
theorem R22_Trace_ok {r_ : Region} {r : (List Poly)} (h : R22_Trace r_ = some r) : ASpec Try.prog 19 [.agg [.p (encL Row.cs r_.rows)]] [] (.p (encL Poly.cs r)) [] := by
  refine aspec_of Try.func19 (c := _) rfl (by kernel_rfl) (by rw [Try.ntmps19]; exact Nat.le_of_ble_eq_true rfl) ?_
  refine awp_seq ?_
  refine awp_regionD Try_mixed (orcs := []) (gs := [.keep [1] [1]]) (s' := ⟨[(1, .ptr 1 0)], [(1, .lit 24 [.p (encL Row.cs r_.rows)])]⟩) (by kernel_rfl) (holds_of ((UU ∧ UU ∧ UU) ∧ (UU ∧ UU)) (by kernel_rfl) ⟨⟨TT, TT, TT⟩, ⟨TT, TT⟩⟩) ?_
  refine Done.mk (thenQ_n ?_)
  refine awp_seq ?_
  refine awp_seq ?_
  refine bind_el h (fun b k1 h => ?_)
  refine awp_regionD Try_mixed (orcs := [(1, tV (pB b))]) (gs := [.keep [1, 11] [1]]) (s' := ⟨[(1, .ptr 1 0), (11, pB (!b))], [(1, .lit 24 [.p (encL Row.cs r_.rows)])]⟩) (by kernel_rfl) (holds_of ((UU ∧ (ASpec Try.prog 33 [.agg [.p (encL Row.cs r_.rows)]] [] (pB b) []) ∧ UU ∧ UU) ∧ (UU ∧ UU)) (by kernel_rfl) ⟨⟨TT, R18_Valid_ok k1, TT, TT⟩, ⟨TT, TT⟩⟩) ?_
  refine Done.mk (thenQ_n ?_)
  refine ifB_el h (fun k2 h => ?_) (fun k2 h => ?_)
  · refine awp_cond_t (b := !b) (by kernel_rfl) k2 ?_
    refine awp_seq ?_
    refine awp_regionD Try_mixed (orcs := []) (gs := [.keep [2] []]) (s' := ⟨[(2, .nils)], []⟩) (by kernel_rfl) (holds_of ((UU ∧ UU) ∧ (UU ∧ UU)) (by kernel_rfl) ⟨⟨TT, TT⟩, ⟨TT, TT⟩⟩) ?_
    refine Done.mk (thenQ_n ?_)
    refine doneRet ?_
    refine Done.gh [.pureT 2, .keep [2] []] (s' := ⟨[(2, .p (.sl [] 0))], []⟩) (by kernel_rfl) (holds_of (UU ∧ UU ∧ UU) (by kernel_rfl) ⟨TT, TT, TT⟩) ?_
    refine Done.mk (thenQ_r ?_)
    obtain rfl := Option.some.inj h
    exact ⟨Or.inr rfl, by kernel_rfl, by kernel_rfl⟩
  · refine awp_cond_f (b := !b) (by kernel_rfl) k2 ?_
    refine doneSkip ?_
    refine Done.mk (thenQ_n ?_)
    refine awp_seq ?_
    refine bind_el h (fun v k3 h => ?_)
    refine awp_regionD Try_mixed (orcs := [(1, tV (.p (encL Crack.cs v)))]) (gs := [.keep [3] []]) (s' := ⟨[(3, .p (encL Crack.cs v))], []⟩) (by kernel_rfl) (holds_of ((UU ∧ (ASpec Try.prog 37 [.agg [.p (encL Row.cs r_.rows)]] [] (.p (encL Crack.cs v)) []) ∧ UU ∧ UU) ∧ (UU ∧ UU)) (by kernel_rfl) ⟨⟨TT, R22_cracks_ok k3, TT, TT⟩, ⟨TT, TT⟩⟩) ?_
    refine Done.mk (thenQ_n ?_)
    refine awp_seq ?_
    refine chk_el h (fun k4 h => ?_)
    refine awp_regionD Try_mixed (orcs := [(2, tV (.own 16 0 (List.replicate (v.length : Int).toNat false).length 1))]) (gs := [.castB 16 (.row 4 ((List.replicate (v.length : Int).toNat false).flatMap bC)), .keep [3, 4] [16]]) (s' := ⟨[(3, .p (encL Crack.cs v)), (4, .own 16 0 (List.replicate (v.length : Int).toNat false).length 1)], [(16, .row 4 ((List.replicate (v.length : Int).toNat false).flatMap bC))]⟩) (by kernel_rfl) (holds_of ((UU ∧ UU ∧ (((0 ≤ (v.length : Int) ∧ (v.length : Int) ≤ (v.length : Int) ∧ (1 : Int) * (v.length : Int) ≤ 281474976710656 ∧ (v.length : Int) ≤ 9223372036854775807) ∧ some (AV.own 16 0 (v.length : Int).toNat 1) = some (AV.own 16 0 (List.replicate (v.length : Int).toNat false).length 1))) ∧ UU ∧ UU) ∧ ((some (ABlk.row 4 (List.replicate (v.length : Int).toNat [.bool false]).flatten) = some (ABlk.row 4 ((List.replicate (v.length : Int).toNat false).flatMap bC))) ∧ UU ∧ UU)) (by kernel_rfl) ⟨⟨TT, TT, ⟨k4, rep_len _ _ _ _⟩, TT, TT⟩, ⟨(rep_row bC _ false _), TT, TT⟩⟩) ?_
    refine Done.mk (thenQ_n ?_)
    refine awp_seq ?_
    refine awp_regionD Try_mixed (orcs := []) (gs := [.keep [3, 4, 5] [16]]) (s' := ⟨[(3, .p (encL Crack.cs v)), (4, .own 16 0 (List.replicate (v.length : Int).toNat false).length 1), (5, .nils)], [(16, .row 4 ((List.replicate (v.length : Int).toNat false).flatMap bC))]⟩) (by kernel_rfl) (holds_of ((UU ∧ UU) ∧ (UU ∧ UU)) (by kernel_rfl) ⟨⟨TT, TT⟩, ⟨TT, TT⟩⟩) ?_
    refine Done.mk (thenQ_n ?_)
    refine awp_seq ?_
    refine awp_seq ?_
    refine awp_regionD Try_mixed (orcs := []) (gs := [.keep [3, 4, 5, 6] [16]]) (s' := ⟨[(3, .p (encL Crack.cs v)), (4, .own 16 0 (List.replicate (v.length : Int).toNat false).length 1), (5, .nils), (6, pI 0)], [(16, .row 4 ((List.replicate (v.length : Int).toNat false).flatMap bC))]⟩) (by kernel_rfl) (holds_of ((UU ∧ UU) ∧ (UU ∧ UU)) (by kernel_rfl) ⟨⟨TT, TT⟩, ⟨TT, TT⟩⟩) ?_
    refine Done.mk (thenQ_n ?_)
    refine awp_block ?_
    refine bind_el h (fun out_2 hm h => ?_)
    refine awp_gh [.keep [3, 4, 5, 6] [16], .pureT 5, .keep [3, 4, 5, 6] [16]] (s' := ⟨[(3, .p (encL Crack.cs v)), (4, .own 16 0 (List.replicate (v.length : Int).toNat false).length 1), (5, .p (encL Poly.cs (([] : List Poly)))), (6, pI 0)], [(16, .row 4 ((List.replicate (v.length : Int).toNat false).flatMap bC))]⟩) (by kernel_rfl) (holds_of (UU ∧ UU ∧ UU ∧ UU) (by kernel_rfl) ⟨TT, TT, TT, TT⟩) ?_
    refine awp_tail (fun _ => (Exit.exit 0)) (fun o => match o with | out_2 => ⟨[(5, .p (encL Poly.cs out_2))], []⟩) hm (fun o h => ?_) ?_
    · refine awp_loop' (fun s => match s with | (done3, out_1, i) => ⟨[(3, .p (encL Crack.cs v)), (4, .own 16 0 done3.length 1), (5, .p (encL Poly.cs out_1)), (6, pI i)], [(16, .row 4 (done3.flatMap bC))]⟩) h (by kernel_rfl) (fun s out h => ?_)
      obtain ⟨done3, out_1, i⟩ := s
      refine awp_seq ?_
      refine awp_seq ?_
      refine awp_regionD Try_mixed (orcs := []) (gs := [.keep [3, 4, 5, 6, 20] [16]]) (s' := ⟨[(3, .p (encL Crack.cs v)), (4, .own 16 0 done3.length 1), (5, .p (encL Poly.cs out_1)), (6, pI i), (20, pB (decide (i < (v.length : Int))))], [(16, .row 4 (done3.flatMap bC))]⟩) (by kernel_rfl) (holds_of ((UU ∧ UU ∧ UU ∧ UU ∧ UU) ∧ (UU ∧ UU)) (by kernel_rfl) ⟨⟨TT, TT, TT, TT, TT⟩, ⟨TT, TT⟩⟩) ?_
      refine Done.mk (thenQ_n ?_)
      refine ifB_el h (fun k5 h => ?_) (fun k5 h => ?_)
      · refine awp_cond_t (b := decide (i < (v.length : Int))) (by kernel_rfl) k5 ?_
        refine doneSkip ?_
        refine Done.mk (thenQ_n ?_)
        refine awp_seq ?_
        refine bind_el h (fun o hm h => ?_)
        refine awp_tail (fun _ => Exit.normal) (fun o => match o with | (done2, out_) => ⟨[(3, .p (encL Crack.cs v)), (4, .own 16 0 done2.length 1), (5, .p (encL Poly.cs out_)), (6, pI i)], [(16, .row 4 (done2.flatMap bC))]⟩) hm (fun o h => ?_) ?_
        · refine awp_block ?_
          refine awp_seq ?_
          refine awp_regionD Try_mixed (orcs := []) (gs := [.keep [3, 4, 5, 6, 7] [16]]) (s' := ⟨[(3, .p (encL Crack.cs v)), (4, .own 16 0 done3.length 1), (5, .p (encL Poly.cs out_1)), (6, pI i), (7, .nils)], [(16, .row 4 (done3.flatMap bC))]⟩) (by kernel_rfl) (holds_of ((UU ∧ UU) ∧ (UU ∧ UU)) (by kernel_rfl) ⟨⟨TT, TT⟩, ⟨TT, TT⟩⟩) ?_
          refine Done.mk (thenQ_n ?_)
          refine awp_seq ?_
          refine awp_seq ?_
          refine awp_regionD Try_mixed (orcs := []) (gs := [.keep [3, 4, 5, 6, 7, 8] [16]]) (s' := ⟨[(3, .p (encL Crack.cs v)), (4, .own 16 0 done3.length 1), (5, .p (encL Poly.cs out_1)), (6, pI i), (7, .nils), (8, pI i)], [(16, .row 4 (done3.flatMap bC))]⟩) (by kernel_rfl) (holds_of ((UU ∧ UU ∧ UU) ∧ (UU ∧ UU)) (by kernel_rfl) ⟨⟨TT, TT, TT⟩, ⟨TT, TT⟩⟩) ?_
          refine Done.mk (thenQ_n ?_)
          refine awp_block ?_
          refine bind_el h (fun o hm h => ?_)
          refine awp_gh [.keep [3, 4, 5, 6, 7, 8] [16], .opn 7 5002 81 4, .keep [3, 4, 5, 6, 7, 8] [16, 5002]] (s' := ⟨[(3, .p (encL Crack.cs v)), (4, .own 16 0 done3.length 1), (5, .p (encL Poly.cs out_1)), (6, pI i), (7, .own 5002 0 (([] : List Crack)).length 4), (8, pI i)], [(16, .row 4 (done3.flatMap bC)), (5002, .row 81 ((([] : List Crack)).flatMap Crack.cs))]⟩) (by kernel_rfl) (holds_of (UU ∧ UU ∧ UU ∧ UU) (by kernel_rfl) ⟨TT, TT, TT, TT⟩) ?_
          refine awp_tail (fun _ => (Exit.exit 2)) (fun o => match o with | (done1, loop1) => ⟨[(3, .p (encL Crack.cs v)), (4, .own 16 0 done1.length 1), (5, .p (encL Poly.cs out_1)), (6, pI i), (7, .own 5002 0 loop1.length 4)], [(16, .row 4 (done1.flatMap bC)), (5002, .row 81 (loop1.flatMap Crack.cs))]⟩) hm (fun o h => ?_) ?_
          · refine awp_loop' (fun s => match s with | (done, loop, at_) => ⟨[(3, .p (encL Crack.cs v)), (4, .own 16 0 done.length 1), (5, .p (encL Poly.cs out_1)), (6, pI i), (7, .own 5002 0 loop.length 4), (8, pI at_)], [(16, .row 4 (done.flatMap bC)), (5002, .row 81 (loop.flatMap Crack.cs))]⟩) h (by kernel_rfl) (fun s out h => ?_)
            obtain ⟨done, loop, at_⟩ := s
            refine awp_seq ?_
            refine awp_seq ?_
            refine bind_el h (fun x k6 h => ?_)
            replace k6 := getI_el k6
            refine awp_regionD Try_mixed (orcs := [(3, tV (pB x))]) (gs := [.keep [3, 4, 5, 6, 7, 8, 28] [16, 5002]]) (s' := ⟨[(3, .p (encL Crack.cs v)), (4, .own 16 0 done.length 1), (5, .p (encL Poly.cs out_1)), (6, pI i), (7, .own 5002 0 loop.length 4), (8, pI at_), (28, pB (!x))], [(16, .row 4 (done.flatMap bC)), (5002, .row 81 (loop.flatMap Crack.cs))]⟩) (by kernel_rfl) (holds_of ((UU ∧ UU ∧ ((0 ≤ at_ ∧ at_ < (done.length : Int))) ∧ ((done.flatMap bC)[0 + at_.toNat * 1]? = some (.bool x)) ∧ UU ∧ UU) ∧ (UU ∧ UU)) (by kernel_rfl) ⟨⟨TT, TT, k6.2, row_at bC_len k6.1 (j := 0) (by omega) (by decide), TT, TT⟩, ⟨TT, TT⟩⟩) ?_
            refine Done.mk (thenQ_n ?_)
            refine ifB_el h (fun k7 h => ?_) (fun k7 h => ?_)
            · refine awp_cond_t (b := !x) (by kernel_rfl) k7 ?_
              refine doneSkip ?_
              refine Done.mk (thenQ_n ?_)
              refine awp_seq ?_
              refine awp_block ?_
              refine awp_seq ?_
              refine awp_regionD Try_mixed (orcs := []) (gs := [.castB 16 (.row 4 ((done.set at_.toNat true).flatMap bC)), .castT 4 (.own 16 0 (done.set at_.toNat true).length 1), .keep [3, 4, 5, 6, 7, 8] [16, 5002]]) (s' := ⟨[(3, .p (encL Crack.cs v)), (4, .own 16 0 (done.set at_.toNat true).length 1), (5, .p (encL Poly.cs out_1)), (6, pI i), (7, .own 5002 0 loop.length 4), (8, pI at_)], [(16, .row 4 ((done.set at_.toNat true).flatMap bC)), (5002, .row 81 (loop.flatMap Crack.cs))]⟩) (by kernel_rfl) (holds_of ((UU ∧ UU ∧ ((0 ≤ at_ ∧ at_ < (done.length : Int))) ∧ (0 + at_.toNat * 1 + 1 ≤ (done.flatMap bC).length) ∧ UU) ∧ ((some (ABlk.row 4 (setL (done.flatMap bC) (0 + at_.toNat * 1) [.bool true])) = some (ABlk.row 4 ((done.set at_.toNat true).flatMap bC))) ∧ (some (AV.own 16 0 done.length 1) = some (AV.own 16 0 (done.set at_.toNat true).length 1)) ∧ UU ∧ UU)) (by kernel_rfl) ⟨⟨TT, TT, k6.2, set_le bC_len k6.1 (o := 0) (m := 1) (by omega) (by decide), TT⟩, ⟨(set_row bC_len k6.1 (x' := true) (o := 0) (by omega) rfl (Nat.le_of_ble_eq_true rfl) _), set_len, TT, TT⟩⟩) ?_
              refine Done.mk (thenQ_n ?_)
              refine bind_el h (fun c k8 h => ?_)
              replace k8 := getI_el k8
              refine chk_el h (fun k9 h => ?_)
              refine awp_regionD Try_mixed (orcs := [(4, tV (.agg [pI c.frm.x, pI c.frm.y, pI c.to.x, pI c.to.y])), (6, tV (.own 41 0 (loop ++ ([Crack.mk (Pt.mk c.frm.x c.frm.y) (Pt.mk c.to.x c.to.y)])).length 4))]) (gs := [.castB 41 (.row 81 ((loop ++ ([Crack.mk (Pt.mk c.frm.x c.frm.y) (Pt.mk c.to.x c.to.y)])).flatMap Crack.cs)), .keep [3, 4, 5, 6, 7, 8] [16, 41]]) (s' := ⟨[(3, .p (encL Crack.cs v)), (4, .own 16 0 (done.set at_.toNat true).length 1), (5, .p (encL Poly.cs out_1)), (6, pI i), (7, .own 41 0 (loop ++ ([Crack.mk (Pt.mk c.frm.x c.frm.y) (Pt.mk c.to.x c.to.y)])).length 4), (8, pI at_)], [(16, .row 4 ((done.set at_.toNat true).flatMap bC)), (41, .row 81 ((loop ++ ([Crack.mk (Pt.mk c.frm.x c.frm.y) (Pt.mk c.to.x c.to.y)])).flatMap Crack.cs))]⟩) (by kernel_rfl) (holds_of ((UU ∧ UU ∧ UU ∧ ((0 ≤ at_ ∧ at_ < (v.length : Int))) ∧ (rowHas (v.flatMap Crack.cs) (at_.toNat * 4) [pI c.frm.x, pI c.frm.y, pI c.to.x, pI c.to.y]) ∧ UU ∧ ((((loop.flatMap Crack.cs).length = loop.length * 4 ∧ (([Crack.mk (Pt.mk c.frm.x c.frm.y) (Pt.mk c.to.x c.to.y)]).flatMap Crack.cs).length = ([Crack.mk (Pt.mk c.frm.x c.frm.y) (Pt.mk c.to.x c.to.y)]).length * 4 ∧ (loop.length + ([Crack.mk (Pt.mk c.frm.x c.frm.y) (Pt.mk c.to.x c.to.y)]).length) * 32 ≤ 140737488355328 ∧ loop.length + ([Crack.mk (Pt.mk c.frm.x c.frm.y) (Pt.mk c.to.x c.to.y)]).length ≤ 9223372036854775807) ∧ some (AV.own 41 0 (loop.length + ([Crack.mk (Pt.mk c.frm.x c.frm.y) (Pt.mk c.to.x c.to.y)]).length) 4) = some (AV.own 41 0 (loop ++ ([Crack.mk (Pt.mk c.frm.x c.frm.y) (Pt.mk c.to.x c.to.y)])).length 4))) ∧ UU ∧ UU) ∧ ((some (ABlk.row 81 (loop.flatMap Crack.cs ++ ([Crack.mk (Pt.mk c.frm.x c.frm.y) (Pt.mk c.to.x c.to.y)]).flatMap Crack.cs)) = some (ABlk.row 81 ((loop ++ ([Crack.mk (Pt.mk c.frm.x c.frm.y) (Pt.mk c.to.x c.to.y)])).flatMap Crack.cs))) ∧ UU ∧ UU)) (by kernel_rfl) ⟨⟨TT, TT, TT, k8.2, row_has Crack.cs_len k8.1 (o := 0) (m := 4) (by omega) (by decide), TT, ⟨⟨flat_len Crack.cs_len _, flat_len Crack.cs_len _, by omega, by omega⟩, app_len _ _ _ _⟩, TT, TT⟩, ⟨(app_row Crack.cs _ _ _), TT, TT⟩⟩) ?_
              refine Done.mk (inB_n (thenQ_n ?_))
              refine bind_el h (fun n k10 h => ?_)
              refine awp_regionD Try_mixed (orcs := [(2, tV (pI n))]) (gs := [.keep [3, 4, 5, 6, 7, 8] [16, 41]]) (s' := ⟨[(3, .p (encL Crack.cs v)), (4, .own 16 0 (done.set at_.toNat true).length 1), (5, .p (encL Poly.cs out_1)), (6, pI i), (7, .own 41 0 (loop ++ ([Crack.mk (Pt.mk c.frm.x c.frm.y) (Pt.mk c.to.x c.to.y)])).length 4), (8, pI n)], [(16, .row 4 ((done.set at_.toNat true).flatMap bC)), (41, .row 81 ((loop ++ ([Crack.mk (Pt.mk c.frm.x c.frm.y) (Pt.mk c.to.x c.to.y)])).flatMap Crack.cs))]⟩) (by kernel_rfl) (holds_of ((UU ∧ UU ∧ (ASpec Try.prog 38 [.p (encL Crack.cs v), pI at_] [] (pI n) []) ∧ UU ∧ UU) ∧ (UU ∧ UU)) (by kernel_rfl) ⟨⟨TT, TT, R22_after_ok k10, TT, TT⟩, ⟨TT, TT⟩⟩) ?_
              refine Done.gh [.keep [3, 4, 5, 6, 7, 8] [16, 41], .ren 41 5002, .keep [3, 4, 5, 6, 7, 8] [16, 5002]] (s' := ⟨[(3, .p (encL Crack.cs v)), (4, .own 16 0 (done.set at_.toNat true).length 1), (5, .p (encL Poly.cs out_1)), (6, pI i), (7, .own 5002 0 (loop ++ ([Crack.mk (Pt.mk c.frm.x c.frm.y) (Pt.mk c.to.x c.to.y)])).length 4), (8, pI n)], [(16, .row 4 ((done.set at_.toNat true).flatMap bC)), (5002, .row 81 ((loop ++ ([Crack.mk (Pt.mk c.frm.x c.frm.y) (Pt.mk c.to.x c.to.y)])).flatMap Crack.cs))]⟩) (by kernel_rfl) (holds_of (UU ∧ UU ∧ UU ∧ UU) (by kernel_rfl) ⟨TT, TT, TT, TT⟩) ?_
              refine Done.mk ?_
              obtain rfl := Option.some.inj h
              exact ⟨rfl, by kernel_rfl⟩
            · refine awp_cond_f (b := !x) (by kernel_rfl) k7 ?_
              refine doneExit ?_
              refine Done.gh [.keep [3, 4, 5, 6, 7] [16, 5002], .keep [3, 4, 5, 6, 7] [16, 5002]] (s' := ⟨[(3, .p (encL Crack.cs v)), (4, .own 16 0 done.length 1), (5, .p (encL Poly.cs out_1)), (6, pI i), (7, .own 5002 0 loop.length 4)], [(16, .row 4 (done.flatMap bC)), (5002, .row 81 (loop.flatMap Crack.cs))]⟩) (by kernel_rfl) (holds_of (UU ∧ UU ∧ UU) (by kernel_rfl) ⟨TT, TT, TT⟩) ?_
              refine Done.mk (thenQ_x ?_)
              obtain rfl := Option.some.inj h
              exact ⟨fun q => (by cases q), fun q => (by subst q; exact ⟨rfl, by kernel_rfl⟩)⟩
          · obtain ⟨done1, loop1⟩ := o
            refine Done.as (e := (Exit.exit 2)) (s := ⟨[(3, .p (encL Crack.cs v)), (4, .own 16 0 done1.length 1), (5, .p (encL Poly.cs out_1)), (6, pI i), (7, .own 5002 0 loop1.length 4)], [(16, .row 4 (done1.flatMap bC)), (5002, .row 81 (loop1.flatMap Crack.cs))]⟩) rfl (by kernel_rfl) ?_
            refine Done.mk (inB_hit (thenQ_n ?_))
            refine awp_seq ?_
            refine awp_regionD Try_mixed (orcs := []) (gs := [.keep [3, 4, 5, 6, 7, 44] [16, 5002]]) (s' := ⟨[(3, .p (encL Crack.cs v)), (4, .own 16 0 done1.length 1), (5, .p (encL Poly.cs out_1)), (6, pI i), (7, .own 5002 0 loop1.length 4), (44, pB (decide ((loop1.length : Int) > (0 : Int))))], [(16, .row 4 (done1.flatMap bC)), (5002, .row 81 (loop1.flatMap Crack.cs))]⟩) (by kernel_rfl) (holds_of ((UU ∧ UU ∧ UU ∧ UU) ∧ (UU ∧ UU)) (by kernel_rfl) ⟨⟨TT, TT, TT, TT⟩, ⟨TT, TT⟩⟩) ?_
            refine Done.mk (thenQ_n ?_)
            refine ifB_el h (fun k11 h => ?_) (fun k11 h => ?_)
            · refine awp_cond_t (b := decide ((loop1.length : Int) > (0 : Int))) (by kernel_rfl) k11 ?_
              refine awp_gh [.frz 5002] (s' := ⟨[(3, .p (encL Crack.cs v)), (4, .own 16 0 done1.length 1), (5, .p (encL Poly.cs out_1)), (6, pI i), (7, .p (encL Crack.cs loop1)), (44, pB (decide ((loop1.length : Int) > (0 : Int))))], [(16, .row 4 (done1.flatMap bC))]⟩) (by kernel_rfl) (holds_of (UU ∧ UU) (by kernel_rfl) ⟨TT, TT⟩) ?_
              refine bind_el h (fun v1 k12 h => ?_)
              refine bind_el h (fun v2 k13 h => ?_)
              refine awp_regionD Try_mixed (orcs := [(2, tV (.agg [.p (encL Pt.cs v1.pts)])), (3, tV (.p (encL Poly.cs v2)))]) (gs := [.keep [3, 4, 5, 6] [16]]) (s' := ⟨[(3, .p (encL Crack.cs v)), (4, .own 16 0 done1.length 1), (5, .p (encL Poly.cs v2)), (6, pI i)], [(16, .row 4 (done1.flatMap bC))]⟩) (by kernel_rfl) (holds_of ((UU ∧ UU ∧ (ASpec Try.prog 40 [.p (encL Crack.cs loop1)] [] (.agg [.p (encL Pt.cs v1.pts)]) []) ∧ (ASpec Try.prog 39 [.p (encL Poly.cs out_1), .agg [.p (encL Pt.cs v1.pts)]] [] (.p (encL Poly.cs v2)) []) ∧ UU ∧ UU) ∧ (UU ∧ UU)) (by kernel_rfl) ⟨⟨TT, TT, R22_polygon_ok k12, R22_insert_ok k13, TT, TT⟩, ⟨TT, TT⟩⟩) ?_
              refine Done.mk (inB_n ?_)
              obtain rfl := Option.some.inj h
              exact ⟨rfl, by kernel_rfl⟩
            · refine awp_cond_f (b := decide ((loop1.length : Int) > (0 : Int))) (by kernel_rfl) k11 ?_
              refine doneSkip ?_
              refine Done.gh [.keep [3, 4, 5, 6] [16], .keep [3, 4, 5, 6] [16]] (s' := ⟨[(3, .p (encL Crack.cs v)), (4, .own 16 0 done1.length 1), (5, .p (encL Poly.cs out_1)), (6, pI i)], [(16, .row 4 (done1.flatMap bC))]⟩) (by kernel_rfl) (holds_of (UU ∧ UU ∧ UU) (by kernel_rfl) ⟨TT, TT, TT⟩) ?_
              refine Done.mk (inB_n ?_)
              obtain rfl := Option.some.inj h
              exact ⟨rfl, by kernel_rfl⟩
        · obtain ⟨done2, out_⟩ := o
          refine Done.as (e := Exit.normal) (s := ⟨[(3, .p (encL Crack.cs v)), (4, .own 16 0 done2.length 1), (5, .p (encL Poly.cs out_)), (6, pI i)], [(16, .row 4 (done2.flatMap bC))]⟩) rfl (by kernel_rfl) ?_
          refine Done.mk (thenQ_n ?_)
          refine chk_el h (fun k14 h => ?_)
          refine awp_regionD Try_mixed (orcs := []) (gs := [.keep [3, 4, 5, 6] [16]]) (s' := ⟨[(3, .p (encL Crack.cs v)), (4, .own 16 0 done2.length 1), (5, .p (encL Poly.cs out_)), (6, pI (i + 1))], [(16, .row 4 (done2.flatMap bC))]⟩) (by kernel_rfl) (holds_of ((UU ∧ (InR .i64 (i + 1 : Int)) ∧ UU ∧ UU) ∧ (UU ∧ UU)) (by kernel_rfl) ⟨⟨TT, k14, TT, TT⟩, ⟨TT, TT⟩⟩) ?_
          refine Done.mk ?_
          obtain rfl := Option.some.inj h
          exact ⟨rfl, by kernel_rfl⟩
      · refine awp_cond_f (b := decide (i < (v.length : Int))) (by kernel_rfl) k5 ?_
        refine doneExit ?_
        refine Done.gh [.keep [5] [], .keep [5] []] (s' := ⟨[(5, .p (encL Poly.cs out_1))], []⟩) (by kernel_rfl) (holds_of (UU ∧ UU ∧ UU) (by kernel_rfl) ⟨TT, TT, TT⟩) ?_
        refine Done.mk (thenQ_x ?_)
        obtain rfl := Option.some.inj h
        exact ⟨fun q => (by cases q), fun q => (by subst q; exact ⟨rfl, by kernel_rfl⟩)⟩
    · have _ := hm
      refine Done.as (e := (Exit.exit 0)) (s := ⟨[(5, .p (encL Poly.cs out_2))], []⟩) rfl (by kernel_rfl) ?_
      refine Done.mk (inB_hit (thenQ_n ?_))
      refine awp_seq ?_
      refine awp_regionD Try_mixed (orcs := []) (gs := [.keep [2] []]) (s' := ⟨[(2, .p (encL Poly.cs out_2))], []⟩) (by kernel_rfl) (holds_of ((UU ∧ UU ∧ UU) ∧ (UU ∧ UU)) (by kernel_rfl) ⟨⟨TT, TT, TT⟩, ⟨TT, TT⟩⟩) ?_
      refine Done.mk (thenQ_n ?_)
      refine doneRet ?_
      refine Done.mk ?_
      obtain rfl := Option.some.inj h
      exact ⟨Or.inr rfl, by kernel_rfl, by kernel_rfl⟩
end
end Go.AM
end
section
namespace Go.AM
open Go Go.RowKit Go.Proofs
noncomputable section
def R24_Walk_j1 (v : (List Poly)) (i : Int) (out_1 : (List Track)) : Option ((List Track)) :=
    (getI v i).bind fun p_ =>
    (R24_loop p_.pts).bind fun v1 =>
    (R24_once v1).bind fun v2 =>
    ifB (decide ((v2.length : Int) ≤ (65536 : Int)))
    (chk (out_1.length + ([Track.mk 1 true v2]).length ≤ 1099511627776)
      (some (out_1 ++ ([Track.mk 1 true v2]))))
    (some out_1)
def R24_Walk_l2 (v : (List Poly)) (s : (List Track) × Int) : Option (((List Track) × Int) ⊕ ((List Track))) :=
  match s with
  | (out_1, i) =>
    ifB (decide (i < (v.length : Int)))
    ((R24_Walk_j1 v i out_1).bind fun out_ =>
      chk (InR .i64 (i + 1 : Int))
      (some (.inl (out_, i + 1))))
    (some (.inr out_1))
noncomputable def R24_Walk (r_ : Region) : Option (List Track) :=
  (R22_Trace r_).bind fun v =>
  (loopP (R24_Walk_l2 v) (([] : List Track), 0)).bind fun out_2 =>
  some out_2
set_option maxRecDepth 100000 in
set_option maxHeartbeats 4000000 in
theorem R24_Walk_ok {r_ : Region} {r : (List Track)} (h : R24_Walk r_ = some r) : ASpec Try.prog 11 [.agg [.p (encL Row.cs r_.rows)]] [] (.p (encL Track.cs r)) [] := by
  refine aspec_of Try.func11 (c := _) rfl (by kernel_rfl) (by rw [Try.ntmps11]; exact Nat.le_of_ble_eq_true rfl) ?_
  refine awp_seq ?_
  refine awp_regionD Try_mixed (orcs := []) (gs := [.keep [1] [1]]) (s' := ⟨[(1, .ptr 1 0)], [(1, .lit 24 [.p (encL Row.cs r_.rows)])]⟩) (by kernel_rfl) (holds_of ((UU ∧ UU ∧ UU) ∧ (UU ∧ UU)) (by kernel_rfl) ⟨⟨TT, TT, TT⟩, ⟨TT, TT⟩⟩) ?_
  refine Done.mk (thenQ_n ?_)
  refine awp_seq ?_
  refine awp_regionD Try_mixed (orcs := []) (gs := [.keep [1, 3] [1]]) (s' := ⟨[(1, .ptr 1 0), (3, .nils)], [(1, .lit 24 [.p (encL Row.cs r_.rows)])]⟩) (by kernel_rfl) (holds_of ((UU ∧ UU) ∧ (UU ∧ UU)) (by kernel_rfl) ⟨⟨TT, TT⟩, ⟨TT, TT⟩⟩) ?_
  refine Done.mk (thenQ_n ?_)
  refine awp_seq ?_
  refine bind_el h (fun v k1 h => ?_)
  refine awp_regionD Try_mixed (orcs := [(1, tV (.p (encL Poly.cs v)))]) (gs := [.keep [3, 4] []]) (s' := ⟨[(3, .nils), (4, .p (encL Poly.cs v))], []⟩) (by kernel_rfl) (holds_of ((UU ∧ (ASpec Try.prog 19 [.agg [.p (encL Row.cs r_.rows)]] [] (.p (encL Poly.cs v)) []) ∧ UU ∧ UU) ∧ (UU ∧ UU)) (by kernel_rfl) ⟨⟨TT, R22_Trace_ok k1, TT, TT⟩, ⟨TT, TT⟩⟩) ?_
  refine Done.mk (thenQ_n ?_)
  refine awp_seq ?_
  refine awp_seq ?_
  refine awp_regionD Try_mixed (orcs := []) (gs := [.keep [3, 4, 5] []]) (s' := ⟨[(3, .nils), (4, .p (encL Poly.cs v)), (5, pI 0)], []⟩) (by kernel_rfl) (holds_of ((UU ∧ UU) ∧ (UU ∧ UU)) (by kernel_rfl) ⟨⟨TT, TT⟩, ⟨TT, TT⟩⟩) ?_
  refine Done.mk (thenQ_n ?_)
  refine awp_block ?_
  refine bind_el h (fun out_2 hm h => ?_)
  refine awp_gh [.keep [3, 4, 5] [], .opn 3 5002 35 3, .keep [3, 4, 5] [5002]] (s' := ⟨[(3, .own 5002 0 (([] : List Track)).length 3), (4, .p (encL Poly.cs v)), (5, pI 0)], [(5002, .row 35 ((([] : List Track)).flatMap Track.cs))]⟩) (by kernel_rfl) (holds_of (UU ∧ UU ∧ UU ∧ UU) (by kernel_rfl) ⟨TT, TT, TT, TT⟩) ?_
  refine awp_tail (fun _ => (Exit.exit 0)) (fun o => match o with | out_2 => ⟨[(3, .own 5002 0 out_2.length 3)], [(5002, .row 35 (out_2.flatMap Track.cs))]⟩) hm (fun o h => ?_) ?_
  · refine awp_loop' (fun s => match s with | (out_1, i) => ⟨[(3, .own 5002 0 out_1.length 3), (4, .p (encL Poly.cs v)), (5, pI i)], [(5002, .row 35 (out_1.flatMap Track.cs))]⟩) h (by kernel_rfl) (fun s out h => ?_)
    obtain ⟨out_1, i⟩ := s
    refine awp_seq ?_
    refine awp_seq ?_
    refine awp_regionD Try_mixed (orcs := []) (gs := [.keep [3, 4, 5, 12] [5002]]) (s' := ⟨[(3, .own 5002 0 out_1.length 3), (4, .p (encL Poly.cs v)), (5, pI i), (12, pB (decide (i < (v.length : Int))))], [(5002, .row 35 (out_1.flatMap Track.cs))]⟩) (by kernel_rfl) (holds_of ((UU ∧ UU ∧ UU ∧ UU ∧ UU) ∧ (UU ∧ UU)) (by kernel_rfl) ⟨⟨TT, TT, TT, TT, TT⟩, ⟨TT, TT⟩⟩) ?_
    refine Done.mk (thenQ_n ?_)
    refine ifB_el h (fun k2 h => ?_) (fun k2 h => ?_)
    · refine awp_cond_t (b := decide (i < (v.length : Int))) (by kernel_rfl) k2 ?_
      refine doneSkip ?_
      refine Done.mk (thenQ_n ?_)
      refine awp_seq ?_
      refine bind_el h (fun out_ hm h => ?_)
      refine awp_tail (fun _ => Exit.normal) (fun o => match o with | out_ => ⟨[(3, .own 5003 0 out_.length 3), (4, .p (encL Poly.cs v)), (5, pI i)], [(5003, .row 35 (out_.flatMap Track.cs))]⟩) hm (fun o h => ?_) ?_
      · refine awp_block ?_
        refine awp_seq ?_
        refine bind_el h (fun p_ k3 h => ?_)
        replace k3 := getI_el k3
        refine bind_el h (fun v1 k4 h => ?_)
        refine bind_el h (fun v2 k5 h => ?_)
        refine awp_regionD Try_mixed (orcs := [(4, tV (.p (encL Pt.cs p_.pts))), (5, tV (.p (encL Cell.cs v1))), (6, tV (.p (encL Cell.cs v2)))]) (gs := [.keep [3, 4, 5, 6] [5002]]) (s' := ⟨[(3, .own 5002 0 out_1.length 3), (4, .p (encL Poly.cs v)), (5, pI i), (6, .p (encL Cell.cs v2))], [(5002, .row 35 (out_1.flatMap Track.cs))]⟩) (by kernel_rfl) (holds_of ((UU ∧ UU ∧ ((0 ≤ i ∧ i < (v.length : Int))) ∧ UU ∧ ((v.flatMap Poly.cs)[i.toNat * 1]? = some (encL Pt.cs p_.pts)) ∧ (ASpec Try.prog 21 [.p (encL Pt.cs p_.pts)] [] (.p (encL Cell.cs v1)) []) ∧ (ASpec Try.prog 20 [.p (encL Cell.cs v1)] [] (.p (encL Cell.cs v2)) []) ∧ UU ∧ UU) ∧ (UU ∧ UU)) (by kernel_rfl) ⟨⟨TT, TT, k3.2, TT, row_at Poly.cs_len k3.1 (j := 0) (by omega) (by decide), R24_loop_ok k4, R24_once_ok k5, TT, TT⟩, ⟨TT, TT⟩⟩) ?_
        refine Done.mk (thenQ_n ?_)
        refine awp_seq ?_
        refine awp_regionD Try_mixed (orcs := []) (gs := [.keep [3, 4, 5, 6, 24] [5002]]) (s' := ⟨[(3, .own 5002 0 out_1.length 3), (4, .p (encL Poly.cs v)), (5, pI i), (6, .p (encL Cell.cs v2)), (24, pB (decide ((v2.length : Int) ≤ (65536 : Int))))], [(5002, .row 35 (out_1.flatMap Track.cs))]⟩) (by kernel_rfl) (holds_of ((UU ∧ UU ∧ UU ∧ UU) ∧ (UU ∧ UU)) (by kernel_rfl) ⟨⟨TT, TT, TT, TT⟩, ⟨TT, TT⟩⟩) ?_
        refine Done.mk (thenQ_n ?_)
        refine ifB_el h (fun k6 h => ?_) (fun k6 h => ?_)
        · refine awp_cond_t (b := decide ((v2.length : Int) ≤ (65536 : Int))) (by kernel_rfl) k6 ?_
          refine chk_el h (fun k7 h => ?_)
          refine awp_regionD Try_mixed (orcs := [(4, tV (.own 29 0 (out_1 ++ ([Track.mk 1 true v2])).length 3))]) (gs := [.castB 29 (.row 35 ((out_1 ++ ([Track.mk 1 true v2])).flatMap Track.cs)), .keep [3, 4, 5] [29]]) (s' := ⟨[(3, .own 29 0 (out_1 ++ ([Track.mk 1 true v2])).length 3), (4, .p (encL Poly.cs v)), (5, pI i)], [(29, .row 35 ((out_1 ++ ([Track.mk 1 true v2])).flatMap Track.cs))]⟩) (by kernel_rfl) (holds_of ((UU ∧ UU ∧ UU ∧ UU ∧ ((((out_1.flatMap Track.cs).length = out_1.length * 3 ∧ (([Track.mk 1 true v2]).flatMap Track.cs).length = ([Track.mk 1 true v2]).length * 3 ∧ (out_1.length + ([Track.mk 1 true v2]).length) * 40 ≤ 140737488355328 ∧ out_1.length + ([Track.mk 1 true v2]).length ≤ 9223372036854775807) ∧ some (AV.own 29 0 (out_1.length + ([Track.mk 1 true v2]).length) 3) = some (AV.own 29 0 (out_1 ++ ([Track.mk 1 true v2])).length 3))) ∧ UU ∧ UU) ∧ ((some (ABlk.row 35 (out_1.flatMap Track.cs ++ ([Track.mk 1 true v2]).flatMap Track.cs)) = some (ABlk.row 35 ((out_1 ++ ([Track.mk 1 true v2])).flatMap Track.cs))) ∧ UU ∧ UU)) (by kernel_rfl) ⟨⟨TT, TT, TT, TT, ⟨⟨flat_len Track.cs_len _, flat_len Track.cs_len _, by omega, by omega⟩, app_len _ _ _ _⟩, TT, TT⟩, ⟨(app_row Track.cs _ _ _), TT, TT⟩⟩) ?_
          refine Done.gh [.keep [3, 4, 5] [29], .ren 29 5003, .keep [3, 4, 5] [5003]] (s' := ⟨[(3, .own 5003 0 (out_1 ++ ([Track.mk 1 true v2])).length 3), (4, .p (encL Poly.cs v)), (5, pI i)], [(5003, .row 35 ((out_1 ++ ([Track.mk 1 true v2])).flatMap Track.cs))]⟩) (by kernel_rfl) (holds_of (UU ∧ UU ∧ UU ∧ UU) (by kernel_rfl) ⟨TT, TT, TT, TT⟩) ?_
          refine Done.mk (inB_n ?_)
          obtain rfl := Option.some.inj h
          exact ⟨rfl, by kernel_rfl⟩
        · refine awp_cond_f (b := decide ((v2.length : Int) ≤ (65536 : Int))) (by kernel_rfl) k6 ?_
          refine doneSkip ?_
          refine Done.gh [.keep [3, 4, 5] [5002], .ren 5002 5003, .keep [3, 4, 5] [5003]] (s' := ⟨[(3, .own 5003 0 out_1.length 3), (4, .p (encL Poly.cs v)), (5, pI i)], [(5003, .row 35 (out_1.flatMap Track.cs))]⟩) (by kernel_rfl) (holds_of (UU ∧ UU ∧ UU ∧ UU) (by kernel_rfl) ⟨TT, TT, TT, TT⟩) ?_
          refine Done.mk (inB_n ?_)
          obtain rfl := Option.some.inj h
          exact ⟨rfl, by kernel_rfl⟩
      · have _ := hm
        refine Done.as (e := Exit.normal) (s := ⟨[(3, .own 5003 0 out_.length 3), (4, .p (encL Poly.cs v)), (5, pI i)], [(5003, .row 35 (out_.flatMap Track.cs))]⟩) rfl (by kernel_rfl) ?_
        refine Done.mk (thenQ_n ?_)
        refine chk_el h (fun k8 h => ?_)
        refine awp_regionD Try_mixed (orcs := []) (gs := [.keep [3, 4, 5] [5003]]) (s' := ⟨[(3, .own 5003 0 out_.length 3), (4, .p (encL Poly.cs v)), (5, pI (i + 1))], [(5003, .row 35 (out_.flatMap Track.cs))]⟩) (by kernel_rfl) (holds_of ((UU ∧ (InR .i64 (i + 1 : Int)) ∧ UU ∧ UU) ∧ (UU ∧ UU)) (by kernel_rfl) ⟨⟨TT, k8, TT, TT⟩, ⟨TT, TT⟩⟩) ?_
        refine Done.gh [.keep [3, 4, 5] [5003], .ren 5003 5002, .keep [3, 4, 5] [5002]] (s' := ⟨[(3, .own 5002 0 out_.length 3), (4, .p (encL Poly.cs v)), (5, pI (i + 1))], [(5002, .row 35 (out_.flatMap Track.cs))]⟩) (by kernel_rfl) (holds_of (UU ∧ UU ∧ UU ∧ UU) (by kernel_rfl) ⟨TT, TT, TT, TT⟩) ?_
        refine Done.mk ?_
        obtain rfl := Option.some.inj h
        exact ⟨rfl, by kernel_rfl⟩
    · refine awp_cond_f (b := decide (i < (v.length : Int))) (by kernel_rfl) k2 ?_
      refine doneExit ?_
      refine Done.gh [.keep [3] [5002], .keep [3] [5002]] (s' := ⟨[(3, .own 5002 0 out_1.length 3)], [(5002, .row 35 (out_1.flatMap Track.cs))]⟩) (by kernel_rfl) (holds_of (UU ∧ UU ∧ UU) (by kernel_rfl) ⟨TT, TT, TT⟩) ?_
      refine Done.mk (thenQ_x ?_)
      obtain rfl := Option.some.inj h
      exact ⟨fun q => (by cases q), fun q => (by subst q; exact ⟨rfl, by kernel_rfl⟩)⟩
  · have _ := hm
    refine Done.as (e := (Exit.exit 0)) (s := ⟨[(3, .own 5002 0 out_2.length 3)], [(5002, .row 35 (out_2.flatMap Track.cs))]⟩) rfl (by kernel_rfl) ?_
    refine Done.mk (inB_hit (thenQ_n ?_))
    refine awp_seq ?_
    refine awp_regionD Try_mixed (orcs := []) (gs := [.keep [2] [5002]]) (s' := ⟨[(2, .own 5002 0 out_2.length 3)], [(5002, .row 35 (out_2.flatMap Track.cs))]⟩) (by kernel_rfl) (holds_of ((UU ∧ UU ∧ UU) ∧ (UU ∧ UU)) (by kernel_rfl) ⟨⟨TT, TT, TT⟩, ⟨TT, TT⟩⟩) ?_
    refine Done.mk (thenQ_n ?_)
    refine doneRet ?_
    refine Done.gh [.frz 5002, .keep [2] []] (s' := ⟨[(2, .p (encL Track.cs out_2))], []⟩) (by kernel_rfl) (holds_of (UU ∧ UU ∧ UU) (by kernel_rfl) ⟨TT, TT, TT⟩) ?_
    refine Done.mk ?_
    obtain rfl := Option.some.inj h
    exact ⟨Or.inr rfl, by kernel_rfl, by kernel_rfl⟩
end
end Go.AM
end
section
namespace Go.AM
open Go Go.RowKit Go.Proofs
set_option maxRecDepth 100000 in
set_option maxHeartbeats 4000000 in
theorem cracks_add_ok {m : Cracks} {p : Pt} {h : Int} (hb : (rowM p m).length ≤ 1099511627776) :
    ASpec Try.prog 46 [.map 0, .agg [pI p.x, pI p.y], pI h] [(0, .tab 2 89 (encM m))] (.tup []) [(0, .tab 2 89 (encM (addM p h m)))] := by
  refine aspec_of Try.func46 (c := _) rfl (by kernel_rfl) (by rw [Try.ntmps46]; exact Nat.le_of_ble_eq_true rfl) ?_
  refine awp_seq ?_
  refine awp_regionD Try_mixed (orcs := []) (gs := [.keep [0, 2, 4] [0, 4]]) (s' := ⟨[(0, .map 0), (2, pI h), (4, .ptr 4 0)], [(0, .tab 2 89 (encM m)), (4, .lit 63 [pI p.x, pI p.y])]⟩) (by kernel_rfl) (holds_of ((True ∧ True) ∧ (True ∧ True)) (by kernel_rfl) ⟨⟨trivial, trivial⟩, ⟨trivial, trivial⟩⟩) ?_
  refine Done.mk (thenQ_n ?_)
  have hi : (Try.prog.info? 89).map (fun i => (i.size, i.bytes, i.zero)) = some (1, 8, some (.int .i64 0)) := by kernel_rfl
  obtain ⟨i, hi1, hi2⟩ := Option.map_eq_some_iff.1 hi
  simp only [Prod.mk.injEq] at hi2
  obtain ⟨i1, i2, i3⟩ := hi2
  have hz : (Try.prog.info? 66).bind (·.zero) = some (.slice none 0 0) := by kernel_rfl
  obtain ⟨j, hj1, hj2⟩ := Option.bind_eq_some_iff.1 hz
  have hr := tRow_encM p m
  refine awp_add (n := 4) (t := 61) (kt := 63) (et := 66) (ts := 66) (ty := 66) (kind := 89) (ag := 2) (id := 0) (tm := 6) (tk := 7) (tx := 10) (d1 := 11) (d2 := 8) (d3 := 12) (d4 := 13) (k := keyM p) (kx := .agg [pI p.x, pI p.y]) (m := encM m) (p := vI h) []
    (s1 := ⟨[(10, .p (.sl [vI h] 1)), (9, pI h), (7, .agg [pI p.x, pI p.y]), (6, .map 0), (0, .map 0), (2, pI h), (4, .ptr 4 0)], [(0, .tab 2 89 (encM m)), (4, .lit 63 [pI p.x, pI p.y])]⟩)
    rfl (by kernel_rfl) (holds_of (True ∧ True ∧ True ∧ True ∧ True) (by kernel_rfl) ⟨trivial, trivial, trivial, trivial, trivial⟩)
    (by kernel_rfl) (by kernel_rfl) (fun w => by simp [zeroValue, typeInfo, hj1, hj2]) (by kernel_rfl) hi1 i1 i3 rfl
    ⟨rfl, rfl, rfl, rfl⟩ ⟨rfl, rfl, rfl, rfl⟩ ⟨rfl, rfl, rfl, rfl, rfl⟩ ⟨rfl, rfl, rfl, rfl⟩ ⟨rfl, rfl, rfl, rfl⟩ (by decide) (by rw [Try.ntmps46]; decide) rfl rfl rfl rfl rfl ?_ ?_ ?_
  · rw [hr, i2]; simp only; omega
  · rw [hr]; simp only; omega
  refine Done.as (e := .normal) (s := ⟨[(10, .p (.sl [vI h] 1)), (9, pI h), (7, .agg [pI p.x, pI p.y]), (6, .map 0), (0, .map 0), (2, pI h), (4, .ptr 4 0)], [(0, .tab 2 89 (encM (addM p h m))), (4, .lit 63 [pI p.x, pI p.y])]⟩) rfl (by rw [tApp_encM]; kernel_rfl) ?_
  exact Done.mk ⟨Or.inl rfl, by kernel_rfl, by kernel_rfl⟩
theorem cracks_add_ok' {m : Cracks} {p : Pt} {h : Int} {r : Cracks} (hr : cracks_add m p h = some r) :
    ASpec Try.prog 46 [.map 0, .agg [pI p.x, pI p.y], pI h] [(0, .tab 2 89 (encM m))] (.tup []) [(0, .tab 2 89 (encM r))] := by
  refine chk_el hr fun hb hr => ?_
  obtain rfl := Option.some.inj hr
  exact cracks_add_ok hb
end Go.AM
end
