/- Models of functions, and that their calls do what the models say. Printed by gen.py. -/
import Derived.Test.YtijdlphadhpabaaProg
import Derived.Test.YtijdlphadhpabaaF2
section
namespace Go.AM
open Go Go.RowKit Go.Proofs
noncomputable section
def ringwalk_walk_l1 (t4 : Int) (t0 : (List Pt)) (t6X : Int) (t6Y : Int) (s : (List Cell) × Int × Int) : Option (((List Cell) × Int × Int) ⊕ ((List Cell) × Int × Int)) :=
  match s with
  | (t3, t5X, t5Y) =>
    chk (InR .i64 (t4 + 1 : Int))
    (chk ((t0.length : Int) ≠ 0)
    ((getI t0 ((t4 + 1 : Int).tmod (t0.length : Int) : Int)).bind fun p_2 =>
    ifB (!((t5X == p_2.x) && ((t5Y == p_2.y) && true)))
    ((ringwalk_left (Pt.mk t5X t5Y) (Pt.mk t6X t6Y)).bind fun v1 =>
      (ringwalk_add t3 v1).bind fun v2 =>
      chk (InR .i64 (t5X + t6X : Int))
      (chk (InR .i64 (t5Y + t6Y : Int))
      (some (.inl (v2, t5X + t6X, t5Y + t6Y)))))
    (some (.inr (t3, t5X, t5Y)))))
def ringwalk_walk_j2 (t6X : Int) (v3 : Pt) (t6Y : Int) (t5X1 : Int) (t5Y1 : Int) (t31 : (List Cell)) : Option ((List Cell)) :=
    chk (InR .i64 (t6X * v3.y : Int))
    (chk (InR .i64 (t6Y * v3.x : Int))
    (chk (InR .i64 ((t6X * v3.y) - (t6Y * v3.x) : Int))
    (ifB (decide (((t6X * v3.y) - (t6Y * v3.x) : Int) < (0 : Int)))
    (chk (InR .i64 (t5X1 - t6X : Int))
      (chk (InR .i64 (t5Y1 - t6Y : Int))
      ((ringwalk_left (Pt.mk (t5X1 - t6X) (t5Y1 - t6Y)) (Pt.mk t6X t6Y)).bind fun v4 =>
      chk (InR .i64 (v4.x + t6X : Int))
      (chk (InR .i64 (v4.y + t6Y : Int))
      ((ringwalk_add t31 (Cell.mk (v4.x + t6X) (v4.y + t6Y))).bind fun v5 =>
      some v5)))))
    (some t31))))
def ringwalk_walk_l3 (t0 : (List Pt)) (s : (List Cell) × Int × Int × Int × Int × Int) : Option (((List Cell) × Int × Int × Int × Int × Int) ⊕ ((List Cell))) :=
  match s with
  | (t33, t4, t5X2, t5Y2, t6X, t6Y) =>
    (loopP (ringwalk_walk_l1 t4 t0 t6X t6Y) (t33, t5X2, t5Y2)).bind fun (t31, t5X1, t5Y1) =>
    chk (InR .i64 (t4 + 1 : Int))
    (chk ((t0.length : Int) ≠ 0)
    ((getI t0 ((t4 + 1 : Int).tmod (t0.length : Int) : Int)).bind fun p_3 =>
    chk (InR .i64 ((t4 + 1) + 1 : Int))
    ((getI t0 (((t4 + 1) + 1 : Int).tmod (t0.length : Int) : Int)).bind fun p_4 =>
    (ringwalk_direction p_3 p_4).bind fun v3 =>
    (ringwalk_walk_j2 t6X v3 t6Y t5X1 t5Y1 t31).bind fun t32 =>
    ifB ((t4 + 1 : Int) == (t0.length : Int))
    (some (.inr t32))
    (some (.inl (t32, t4 + 1, t5X1, t5Y1, v3.x, v3.y))))))
def ringwalk_walk_j4 (t35 : (List Cell)) : Option (Bool) :=
    ifB (decide ((t35.length : Int) > (1 : Int)))
    ((getI t35 (0 : Int)).bind fun c =>
      chk (InR .i64 (((t35.length : Int)) - 1 : Int))
      ((getI t35 (((t35.length : Int)) - 1 : Int)).bind fun c1 =>
      some ((c.x == c1.x) && ((c.y == c1.y) && true))))
    (some false)
def ringwalk_walk_j5 (t35 : (List Cell)) : Option ((List Cell)) :=
    (ringwalk_walk_j4 t35).bind fun t120 =>
    ifB (t120)
    (chk (InR .i64 (((t35.length : Int)) - 1 : Int))
      (chk ((0 ≤ (((t35.length : Int)) - 1 : Int) ∧ (((t35.length : Int)) - 1 : Int) ≤ (t35.length : Int)))
      (some (t35.take (((t35.length : Int)) - 1 : Int).toNat))))
    (some t35)
noncomputable def ringwalk_walk (t0 : (List Pt)) : Option (List Cell) :=
  (getI t0 (0 : Int)).bind fun p_ =>
  (getI t0 (1 : Int)).bind fun p_1 =>
  (ringwalk_direction p_ p_1).bind fun v =>
  (loopP (ringwalk_walk_l3 t0) (([] : List Cell), 0, p_.x, p_.y, v.x, v.y)).bind fun t35 =>
  (ringwalk_walk_j5 t35).bind fun t36 =>
  some t36
set_option maxRecDepth 100000 in
set_option maxHeartbeats 4000000 in
theorem ringwalk_walk_ok {t0 : (List Pt)} {r : (List Cell)} (h : ringwalk_walk t0 = some r) : ASpec Try.prog 18 [.p (encL Pt.cs t0)] [] (.p (encL Cell.cs r)) [] := by
  refine aspec_of Try.func18 (c := _) rfl (by kernel_rfl) (by rw [Try.ntmps18]; exact Nat.le_of_ble_eq_true rfl) ?_
  refine awp_seq ?_
  refine awp_regionD Try_mixed (orcs := []) (gs := [.keep [0] []]) (s' := ⟨[(0, .p (encL Pt.cs t0))], []⟩) (by kernel_rfl) (holds_of ((UU ∧ UU) ∧ (UU ∧ UU)) (by kernel_rfl) ⟨⟨TT, TT⟩, ⟨TT, TT⟩⟩) ?_
  refine Done.mk (thenQ_n ?_)
  refine awp_scope ?_
  refine awp_seq ?_
  refine awp_regionD Try_mixed (orcs := []) (gs := [.keep [0, 3] []]) (s' := ⟨[(0, .p (encL Pt.cs t0)), (3, .nils)], []⟩) (by kernel_rfl) (holds_of ((UU ∧ UU) ∧ (UU ∧ UU)) (by kernel_rfl) ⟨⟨TT, TT⟩, ⟨TT, TT⟩⟩) ?_
  refine Done.mk (thenQ_n ?_)
  refine awp_seq ?_
  refine bind_el h (fun p_ k1 h => ?_)
  replace k1 := getI_el k1
  refine awp_regionD Try_mixed (orcs := [(2, tV (.agg [pI p_.x, pI p_.y]))]) (gs := [.keep [0, 3, 4, 5] [5]]) (s' := ⟨[(0, .p (encL Pt.cs t0)), (3, .nils), (4, pI 0), (5, .ptr 5 0)], [(5, .lit 63 [pI p_.x, pI p_.y])]⟩) (by kernel_rfl) (holds_of ((UU ∧ ((0 ≤ (0 : Int) ∧ (0 : Int) < (t0.length : Int))) ∧ (rowHas (t0.flatMap Pt.cs) ((0 : Int).toNat * 2) [pI p_.x, pI p_.y]) ∧ UU ∧ UU ∧ UU ∧ UU) ∧ (UU ∧ UU)) (by kernel_rfl) ⟨⟨TT, k1.2, row_has Pt.cs_len k1.1 (o := 0) (m := 2) (by omega) (by decide), TT, TT, TT, TT⟩, ⟨TT, TT⟩⟩) ?_
  refine Done.mk (thenQ_n ?_)
  refine awp_seq ?_
  refine bind_el h (fun p_1 k2 h => ?_)
  replace k2 := getI_el k2
  refine bind_el h (fun v k3 h => ?_)
  refine awp_regionD Try_mixed (orcs := [(2, tV (.agg [pI p_.x, pI p_.y])), (5, tV (.agg [pI p_1.x, pI p_1.y])), (6, tV (.agg [pI v.x, pI v.y]))]) (gs := [.keep [0, 3, 4, 5, 6] [5, 6]]) (s' := ⟨[(0, .p (encL Pt.cs t0)), (3, .nils), (4, pI 0), (5, .ptr 5 0), (6, .ptr 6 0)], [(5, .lit 63 [pI p_.x, pI p_.y]), (6, .lit 63 [pI v.x, pI v.y])]⟩) (by kernel_rfl) (holds_of ((UU ∧ ((0 ≤ (0 : Int) ∧ (0 : Int) < (t0.length : Int))) ∧ (rowHas (t0.flatMap Pt.cs) ((0 : Int).toNat * 2) [pI p_.x, pI p_.y]) ∧ UU ∧ ((0 ≤ (1 : Int) ∧ (1 : Int) < (t0.length : Int))) ∧ (rowHas (t0.flatMap Pt.cs) ((1 : Int).toNat * 2) [pI p_1.x, pI p_1.y]) ∧ (ASpec Try.prog 34 [.agg [pI p_.x, pI p_.y], .agg [pI p_1.x, pI p_1.y]] [] (.agg [pI v.x, pI v.y]) []) ∧ UU ∧ UU ∧ UU) ∧ (UU ∧ UU)) (by kernel_rfl) ⟨⟨TT, k1.2, row_has Pt.cs_len k1.1 (o := 0) (m := 2) (by omega) (by decide), TT, k2.2, row_has Pt.cs_len k2.1 (o := 0) (m := 2) (by omega) (by decide), ringwalk_direction_ok k3, TT, TT, TT⟩, ⟨TT, TT⟩⟩) ?_
  refine Done.mk (thenQ_n ?_)
  refine awp_seq ?_
  refine doneLabel ?_
  refine Done.mk (thenQ_n ?_)
  refine awp_seq ?_
  refine awp_block ?_
  refine bind_el h (fun t35 hm h => ?_)
  refine awp_gh [.keep [0, 3, 4, 5, 6] [5, 6], .opn 3 5004 37 2, .keep [0, 3, 4, 5, 6] [5, 6, 5004]] (s' := ⟨[(0, .p (encL Pt.cs t0)), (3, .own 5004 0 (([] : List Cell)).length 2), (4, pI 0), (5, .ptr 5 0), (6, .ptr 6 0)], [(5, .lit 63 [pI p_.x, pI p_.y]), (6, .lit 63 [pI v.x, pI v.y]), (5004, .row 37 ((([] : List Cell)).flatMap Cell.cs))]⟩) (by kernel_rfl) (holds_of (UU ∧ UU ∧ UU ∧ UU) (by kernel_rfl) ⟨TT, TT, TT, TT⟩) ?_
  refine awp_tail (fun _ => (Exit.exit 0)) (fun o => match o with | t35 => ⟨[(3, .own 5006 0 t35.length 2)], [(5006, .row 37 (t35.flatMap Cell.cs))]⟩) hm (fun o h => ?_) ?_
  · refine awp_loop' (fun s => match s with | (t33, t4, t5X2, t5Y2, t6X, t6Y) => ⟨[(0, .p (encL Pt.cs t0)), (3, .own 5004 0 t33.length 2), (4, pI t4), (5, .ptr 5 0), (6, .ptr 6 0)], [(5, .lit 63 [pI t5X2, pI t5Y2]), (6, .lit 63 [pI t6X, pI t6Y]), (5004, .row 37 (t33.flatMap Cell.cs))]⟩) h (by kernel_rfl) (fun s out h => ?_)
    obtain ⟨t33, t4, t5X2, t5Y2, t6X, t6Y⟩ := s
    refine awp_block ?_
    refine awp_seq ?_
    refine awp_block ?_
    refine bind_el h (fun o hm h => ?_)
    refine awp_gh [.keep [0, 3, 4, 5, 6] [5, 6, 5004], .ren 5004 5005, .keep [0, 3, 4, 5, 6] [5, 6, 5005]] (s' := ⟨[(0, .p (encL Pt.cs t0)), (3, .own 5005 0 t33.length 2), (4, pI t4), (5, .ptr 5 0), (6, .ptr 6 0)], [(5, .lit 63 [pI t5X2, pI t5Y2]), (6, .lit 63 [pI t6X, pI t6Y]), (5005, .row 37 (t33.flatMap Cell.cs))]⟩) (by kernel_rfl) (holds_of (UU ∧ UU ∧ UU ∧ UU) (by kernel_rfl) ⟨TT, TT, TT, TT⟩) ?_
    refine awp_tail (fun _ => (Exit.exit 2)) (fun o => match o with | (t31, t5X1, t5Y1) => ⟨[(0, .p (encL Pt.cs t0)), (3, .own 5005 0 t31.length 2), (4, pI t4), (5, .ptr 5 0), (6, .ptr 6 0)], [(5, .lit 63 [pI t5X1, pI t5Y1]), (6, .lit 63 [pI t6X, pI t6Y]), (5005, .row 37 (t31.flatMap Cell.cs))]⟩) hm (fun o h => ?_) ?_
    · refine awp_loop' (fun s => match s with | (t3, t5X, t5Y) => ⟨[(0, .p (encL Pt.cs t0)), (3, .own 5005 0 t3.length 2), (4, pI t4), (5, .ptr 5 0), (6, .ptr 6 0)], [(5, .lit 63 [pI t5X, pI t5Y]), (6, .lit 63 [pI t6X, pI t6Y]), (5005, .row 37 (t3.flatMap Cell.cs))]⟩) h (by kernel_rfl) (fun s out h => ?_)
      obtain ⟨t3, t5X, t5Y⟩ := s
      refine awp_seq ?_
      refine awp_seq ?_
      refine chk_el h (fun k4 h => ?_)
      refine chk_el h (fun k5 h => ?_)
      refine bind_el h (fun p_2 k6 h => ?_)
      replace k6 := getI_el k6
      refine awp_regionD Try_mixed (orcs := [(8, tV (.agg [pI p_2.x, pI p_2.y]))]) (gs := [.keep [0, 3, 4, 5, 6, 28] [5, 6, 5005]]) (s' := ⟨[(0, .p (encL Pt.cs t0)), (3, .own 5005 0 t3.length 2), (4, pI t4), (5, .ptr 5 0), (6, .ptr 6 0), (28, pB (!((t5X == p_2.x) && ((t5Y == p_2.y) && true))))], [(5, .lit 63 [pI t5X, pI t5Y]), (6, .lit 63 [pI t6X, pI t6Y]), (5005, .row 37 (t3.flatMap Cell.cs))]⟩) (by kernel_rfl) (holds_of ((UU ∧ UU ∧ UU ∧ (InR .i64 (t4 + 1 : Int)) ∧ UU ∧ UU ∧ ((t0.length : Int) ≠ 0) ∧ ((0 ≤ ((t4 + 1 : Int).tmod (t0.length : Int) : Int) ∧ ((t4 + 1 : Int).tmod (t0.length : Int) : Int) < (t0.length : Int))) ∧ (rowHas (t0.flatMap Pt.cs) (((t4 + 1 : Int).tmod (t0.length : Int) : Int).toNat * 2) [pI p_2.x, pI p_2.y]) ∧ UU ∧ UU) ∧ (UU ∧ UU)) (by kernel_rfl) ⟨⟨TT, TT, TT, k4, TT, TT, k5, k6.2, row_has Pt.cs_len k6.1 (o := 0) (m := 2) (by omega) (by decide), TT, TT⟩, ⟨TT, TT⟩⟩) ?_
      refine Done.mk (thenQ_n ?_)
      refine ifB_el h (fun k7 h => ?_) (fun k7 h => ?_)
      · refine awp_cond_t (b := !((t5X == p_2.x) && ((t5Y == p_2.y) && true))) (by kernel_rfl) k7 ?_
        refine doneSkip ?_
        refine Done.mk (thenQ_n ?_)
        refine awp_block ?_
        refine awp_seq ?_
        refine bind_el h (fun v1 k8 h => ?_)
        refine bind_el h (fun v2 k9 h => ?_)
        refine awp_regionD Try_mixed (orcs := [(3, tV (.agg [pI v1.x, pI v1.y])), (4, { r := some (.own 6000 0 v2.length 2), fp := [5005], post := [(6000, .row 37 (v2.flatMap Cell.cs))] })]) (gs := [.keep [0, 3, 4, 5, 6] [5, 6, 6000]]) (s' := ⟨[(0, .p (encL Pt.cs t0)), (3, .own 6000 0 v2.length 2), (4, pI t4), (5, .ptr 5 0), (6, .ptr 6 0)], [(5, .lit 63 [pI t5X, pI t5Y]), (6, .lit 63 [pI t6X, pI t6Y]), (6000, .row 37 (v2.flatMap Cell.cs))]⟩) (by kernel_rfl) (holds_of ((UU ∧ UU ∧ UU ∧ (ASpec Try.prog 36 [.agg [pI t5X, pI t5Y], .agg [pI t6X, pI t6Y]] [] (.agg [pI v1.x, pI v1.y]) []) ∧ (ASpec Try.prog 35 [.own 5005 0 t3.length 2, .agg [pI v1.x, pI v1.y]] [(5005, .row 37 (t3.flatMap Cell.cs))] (.own 6000 0 v2.length 2) [(6000, .row 37 (v2.flatMap Cell.cs))]) ∧ UU ∧ UU) ∧ (UU ∧ UU)) (by kernel_rfl) ⟨⟨TT, TT, TT, ringwalk_left_ok k8, aspec_at (ringwalk_add_ok k9) 0 5005 (by kernel_rfl), TT, TT⟩, ⟨TT, TT⟩⟩) ?_
        refine Done.mk (thenQ_n ?_)
        refine chk_el h (fun k10 h => ?_)
        refine chk_el h (fun k11 h => ?_)
        refine awp_regionD Try_mixed (orcs := []) (gs := [.keep [0, 3, 4, 5, 6] [5, 6, 6000]]) (s' := ⟨[(0, .p (encL Pt.cs t0)), (3, .own 6000 0 v2.length 2), (4, pI t4), (5, .ptr 5 0), (6, .ptr 6 0)], [(5, .lit 63 [pI (t5X + t6X), pI (t5Y + t6Y)]), (6, .lit 63 [pI t6X, pI t6Y]), (6000, .row 37 (v2.flatMap Cell.cs))]⟩) (by kernel_rfl) (holds_of ((UU ∧ UU ∧ UU ∧ UU ∧ (InR .i64 (t5X + t6X : Int)) ∧ UU ∧ UU ∧ UU ∧ UU ∧ (InR .i64 (t5Y + t6Y : Int)) ∧ UU ∧ UU ∧ UU) ∧ (UU ∧ UU)) (by kernel_rfl) ⟨⟨TT, TT, TT, TT, k10, TT, TT, TT, TT, k11, TT, TT, TT⟩, ⟨TT, TT⟩⟩) ?_
        refine Done.gh [.keep [0, 3, 4, 5, 6] [5, 6, 6000], .ren 6000 5005, .keep [0, 3, 4, 5, 6] [5, 6, 5005]] (s' := ⟨[(0, .p (encL Pt.cs t0)), (3, .own 5005 0 v2.length 2), (4, pI t4), (5, .ptr 5 0), (6, .ptr 6 0)], [(5, .lit 63 [pI (t5X + t6X), pI (t5Y + t6Y)]), (6, .lit 63 [pI t6X, pI t6Y]), (5005, .row 37 (v2.flatMap Cell.cs))]⟩) (by kernel_rfl) (holds_of (UU ∧ UU ∧ UU ∧ UU) (by kernel_rfl) ⟨TT, TT, TT, TT⟩) ?_
        refine Done.mk (inB_n ?_)
        obtain rfl := Option.some.inj h
        exact ⟨rfl, by kernel_rfl⟩
      · refine awp_cond_f (b := !((t5X == p_2.x) && ((t5Y == p_2.y) && true))) (by kernel_rfl) k7 ?_
        refine doneExit ?_
        refine Done.gh [.keep [0, 3, 4, 5, 6] [5, 6, 5005], .keep [0, 3, 4, 5, 6] [5, 6, 5005]] (s' := ⟨[(0, .p (encL Pt.cs t0)), (3, .own 5005 0 t3.length 2), (4, pI t4), (5, .ptr 5 0), (6, .ptr 6 0)], [(5, .lit 63 [pI t5X, pI t5Y]), (6, .lit 63 [pI t6X, pI t6Y]), (5005, .row 37 (t3.flatMap Cell.cs))]⟩) (by kernel_rfl) (holds_of (UU ∧ UU ∧ UU) (by kernel_rfl) ⟨TT, TT, TT⟩) ?_
        refine Done.mk (thenQ_x ?_)
        obtain rfl := Option.some.inj h
        exact ⟨fun q => (by cases q), fun q => (by subst q; exact ⟨rfl, by kernel_rfl⟩)⟩
    · obtain ⟨t31, t5X1, t5Y1⟩ := o
      refine Done.as (e := (Exit.exit 2)) (s := ⟨[(0, .p (encL Pt.cs t0)), (3, .own 5005 0 t31.length 2), (4, pI t4), (5, .ptr 5 0), (6, .ptr 6 0)], [(5, .lit 63 [pI t5X1, pI t5Y1]), (6, .lit 63 [pI t6X, pI t6Y]), (5005, .row 37 (t31.flatMap Cell.cs))]⟩) rfl (by kernel_rfl) ?_
      refine Done.mk (inB_hit (thenQ_n ?_))
      refine awp_seq ?_
      refine chk_el h (fun k12 h => ?_)
      refine awp_regionD Try_mixed (orcs := []) (gs := [.keep [0, 3, 4, 5, 6] [5, 6, 5005]]) (s' := ⟨[(0, .p (encL Pt.cs t0)), (3, .own 5005 0 t31.length 2), (4, pI (t4 + 1)), (5, .ptr 5 0), (6, .ptr 6 0)], [(5, .lit 63 [pI t5X1, pI t5Y1]), (6, .lit 63 [pI t6X, pI t6Y]), (5005, .row 37 (t31.flatMap Cell.cs))]⟩) (by kernel_rfl) (holds_of ((UU ∧ (InR .i64 (t4 + 1 : Int)) ∧ UU ∧ UU) ∧ (UU ∧ UU)) (by kernel_rfl) ⟨⟨TT, k12, TT, TT⟩, ⟨TT, TT⟩⟩) ?_
      refine Done.mk (thenQ_n ?_)
      refine awp_seq ?_
      refine chk_el h (fun k13 h => ?_)
      refine bind_el h (fun p_3 k14 h => ?_)
      replace k14 := getI_el k14
      refine chk_el h (fun k15 h => ?_)
      refine bind_el h (fun p_4 k16 h => ?_)
      replace k16 := getI_el k16
      refine bind_el h (fun v3 k17 h => ?_)
      refine awp_regionD Try_mixed (orcs := [(6, tV (.agg [pI p_3.x, pI p_3.y])), (14, tV (.agg [pI p_4.x, pI p_4.y])), (15, tV (.agg [pI v3.x, pI v3.y]))]) (gs := [.keep [0, 3, 4, 5, 6, 7] [5, 6, 7, 5005]]) (s' := ⟨[(0, .p (encL Pt.cs t0)), (3, .own 5005 0 t31.length 2), (4, pI (t4 + 1)), (5, .ptr 5 0), (6, .ptr 6 0), (7, .ptr 7 0)], [(5, .lit 63 [pI t5X1, pI t5Y1]), (6, .lit 63 [pI t6X, pI t6Y]), (7, .lit 63 [pI v3.x, pI v3.y]), (5005, .row 37 (t31.flatMap Cell.cs))]⟩) (by kernel_rfl) (holds_of ((UU ∧ UU ∧ UU ∧ UU ∧ ((t0.length : Int) ≠ 0) ∧ ((0 ≤ ((t4 + 1 : Int).tmod (t0.length : Int) : Int) ∧ ((t4 + 1 : Int).tmod (t0.length : Int) : Int) < (t0.length : Int))) ∧ (rowHas (t0.flatMap Pt.cs) (((t4 + 1 : Int).tmod (t0.length : Int) : Int).toNat * 2) [pI p_3.x, pI p_3.y]) ∧ UU ∧ UU ∧ (InR .i64 ((t4 + 1) + 1 : Int)) ∧ UU ∧ UU ∧ ((t0.length : Int) ≠ 0) ∧ ((0 ≤ (((t4 + 1) + 1 : Int).tmod (t0.length : Int) : Int) ∧ (((t4 + 1) + 1 : Int).tmod (t0.length : Int) : Int) < (t0.length : Int))) ∧ (rowHas (t0.flatMap Pt.cs) ((((t4 + 1) + 1 : Int).tmod (t0.length : Int) : Int).toNat * 2) [pI p_4.x, pI p_4.y]) ∧ (ASpec Try.prog 34 [.agg [pI p_3.x, pI p_3.y], .agg [pI p_4.x, pI p_4.y]] [] (.agg [pI v3.x, pI v3.y]) []) ∧ UU ∧ UU ∧ UU) ∧ (UU ∧ UU)) (by kernel_rfl) ⟨⟨TT, TT, TT, TT, k13, k14.2, row_has Pt.cs_len k14.1 (o := 0) (m := 2) (by omega) (by decide), TT, TT, k15, TT, TT, k13, k16.2, row_has Pt.cs_len k16.1 (o := 0) (m := 2) (by omega) (by decide), ringwalk_direction_ok k17, TT, TT, TT⟩, ⟨TT, TT⟩⟩) ?_
      refine Done.mk (thenQ_n ?_)
      refine awp_seq ?_
      refine bind_el h (fun t32 hm h => ?_)
      refine awp_tail (fun _ => Exit.normal) (fun o => match o with | t32 => ⟨[(0, .p (encL Pt.cs t0)), (3, .own 5006 0 t32.length 2), (4, pI (t4 + 1)), (5, .ptr 5 0), (6, .ptr 6 0), (7, .ptr 7 0)], [(5, .lit 63 [pI t5X1, pI t5Y1]), (6, .lit 63 [pI t6X, pI t6Y]), (7, .lit 63 [pI v3.x, pI v3.y]), (5006, .row 37 (t32.flatMap Cell.cs))]⟩) hm (fun o h => ?_) ?_
      · refine awp_seq ?_
        refine chk_el h (fun k18 h => ?_)
        refine chk_el h (fun k19 h => ?_)
        refine chk_el h (fun k20 h => ?_)
        refine awp_regionD Try_mixed (orcs := []) (gs := [.keep [0, 3, 4, 5, 6, 7, 74] [5, 6, 7, 5005]]) (s' := ⟨[(0, .p (encL Pt.cs t0)), (3, .own 5005 0 t31.length 2), (4, pI (t4 + 1)), (5, .ptr 5 0), (6, .ptr 6 0), (7, .ptr 7 0), (74, pB (decide (((t6X * v3.y) - (t6Y * v3.x) : Int) < (0 : Int))))], [(5, .lit 63 [pI t5X1, pI t5Y1]), (6, .lit 63 [pI t6X, pI t6Y]), (7, .lit 63 [pI v3.x, pI v3.y]), (5005, .row 37 (t31.flatMap Cell.cs))]⟩) (by kernel_rfl) (holds_of ((UU ∧ UU ∧ UU ∧ UU ∧ (InR .i64 (t6X * v3.y : Int)) ∧ UU ∧ UU ∧ UU ∧ UU ∧ (InR .i64 (t6Y * v3.x : Int)) ∧ (InR .i64 ((t6X * v3.y) - (t6Y * v3.x) : Int)) ∧ UU ∧ UU) ∧ (UU ∧ UU)) (by kernel_rfl) ⟨⟨TT, TT, TT, TT, k18, TT, TT, TT, TT, k19, k20, TT, TT⟩, ⟨TT, TT⟩⟩) ?_
        refine Done.mk (thenQ_n ?_)
        refine ifB_el h (fun k21 h => ?_) (fun k21 h => ?_)
        · refine awp_cond_t (b := decide (((t6X * v3.y) - (t6Y * v3.x) : Int) < (0 : Int))) (by kernel_rfl) k21 ?_
          refine awp_seq ?_
          refine chk_el h (fun k22 h => ?_)
          refine chk_el h (fun k23 h => ?_)
          refine bind_el h (fun v4 k24 h => ?_)
          refine awp_regionD Try_mixed (orcs := [(12, tV (.agg [pI v4.x, pI v4.y]))]) (gs := [.keep [0, 3, 4, 5, 6, 7, 8] [5, 6, 7, 8, 5005]]) (s' := ⟨[(0, .p (encL Pt.cs t0)), (3, .own 5005 0 t31.length 2), (4, pI (t4 + 1)), (5, .ptr 5 0), (6, .ptr 6 0), (7, .ptr 7 0), (8, .ptr 8 0)], [(5, .lit 63 [pI t5X1, pI t5Y1]), (6, .lit 63 [pI t6X, pI t6Y]), (7, .lit 63 [pI v3.x, pI v3.y]), (8, .lit 37 [pI v4.x, pI v4.y]), (5005, .row 37 (t31.flatMap Cell.cs))]⟩) (by kernel_rfl) (holds_of ((UU ∧ UU ∧ UU ∧ UU ∧ (InR .i64 (t5X1 - t6X : Int)) ∧ UU ∧ UU ∧ UU ∧ UU ∧ (InR .i64 (t5Y1 - t6Y : Int)) ∧ UU ∧ UU ∧ (ASpec Try.prog 36 [.agg [pI (t5X1 - t6X), pI (t5Y1 - t6Y)], .agg [pI t6X, pI t6Y]] [] (.agg [pI v4.x, pI v4.y]) []) ∧ UU ∧ UU ∧ UU) ∧ (UU ∧ UU)) (by kernel_rfl) ⟨⟨TT, TT, TT, TT, k22, TT, TT, TT, TT, k23, TT, TT, ringwalk_left_ok k24, TT, TT, TT⟩, ⟨TT, TT⟩⟩) ?_
          refine Done.mk (thenQ_n ?_)
          refine chk_el h (fun k25 h => ?_)
          refine chk_el h (fun k26 h => ?_)
          refine bind_el h (fun v5 k27 h => ?_)
          refine awp_regionD Try_mixed (orcs := [(12, { r := some (.own 6000 0 v5.length 2), fp := [5005], post := [(6000, .row 37 (v5.flatMap Cell.cs))] })]) (gs := [.keep [0, 3, 4, 5, 6, 7] [5, 6, 7, 6000]]) (s' := ⟨[(0, .p (encL Pt.cs t0)), (3, .own 6000 0 v5.length 2), (4, pI (t4 + 1)), (5, .ptr 5 0), (6, .ptr 6 0), (7, .ptr 7 0)], [(5, .lit 63 [pI t5X1, pI t5Y1]), (6, .lit 63 [pI t6X, pI t6Y]), (7, .lit 63 [pI v3.x, pI v3.y]), (6000, .row 37 (v5.flatMap Cell.cs))]⟩) (by kernel_rfl) (holds_of ((UU ∧ UU ∧ UU ∧ UU ∧ UU ∧ (InR .i64 (v4.x + t6X : Int)) ∧ UU ∧ UU ∧ UU ∧ UU ∧ (InR .i64 (v4.y + t6Y : Int)) ∧ UU ∧ (ASpec Try.prog 35 [.own 5005 0 t31.length 2, .agg [pI (v4.x + t6X), pI (v4.y + t6Y)]] [(5005, .row 37 (t31.flatMap Cell.cs))] (.own 6000 0 v5.length 2) [(6000, .row 37 (v5.flatMap Cell.cs))]) ∧ UU ∧ UU) ∧ (UU ∧ UU)) (by kernel_rfl) ⟨⟨TT, TT, TT, TT, TT, k25, TT, TT, TT, TT, k26, TT, aspec_at (ringwalk_add_ok k27) 0 5005 (by kernel_rfl), TT, TT⟩, ⟨TT, TT⟩⟩) ?_
          refine Done.gh [.keep [0, 3, 4, 5, 6, 7] [5, 6, 7, 6000], .ren 6000 5006, .keep [0, 3, 4, 5, 6, 7] [5, 6, 7, 5006]] (s' := ⟨[(0, .p (encL Pt.cs t0)), (3, .own 5006 0 v5.length 2), (4, pI (t4 + 1)), (5, .ptr 5 0), (6, .ptr 6 0), (7, .ptr 7 0)], [(5, .lit 63 [pI t5X1, pI t5Y1]), (6, .lit 63 [pI t6X, pI t6Y]), (7, .lit 63 [pI v3.x, pI v3.y]), (5006, .row 37 (v5.flatMap Cell.cs))]⟩) (by kernel_rfl) (holds_of (UU ∧ UU ∧ UU ∧ UU) (by kernel_rfl) ⟨TT, TT, TT, TT⟩) ?_
          refine Done.mk ?_
          obtain rfl := Option.some.inj h
          exact ⟨rfl, by kernel_rfl⟩
        · refine awp_cond_f (b := decide (((t6X * v3.y) - (t6Y * v3.x) : Int) < (0 : Int))) (by kernel_rfl) k21 ?_
          refine doneSkip ?_
          refine Done.gh [.keep [0, 3, 4, 5, 6, 7] [5, 6, 7, 5005], .ren 5005 5006, .keep [0, 3, 4, 5, 6, 7] [5, 6, 7, 5006]] (s' := ⟨[(0, .p (encL Pt.cs t0)), (3, .own 5006 0 t31.length 2), (4, pI (t4 + 1)), (5, .ptr 5 0), (6, .ptr 6 0), (7, .ptr 7 0)], [(5, .lit 63 [pI t5X1, pI t5Y1]), (6, .lit 63 [pI t6X, pI t6Y]), (7, .lit 63 [pI v3.x, pI v3.y]), (5006, .row 37 (t31.flatMap Cell.cs))]⟩) (by kernel_rfl) (holds_of (UU ∧ UU ∧ UU ∧ UU) (by kernel_rfl) ⟨TT, TT, TT, TT⟩) ?_
          refine Done.mk ?_
          obtain rfl := Option.some.inj h
          exact ⟨rfl, by kernel_rfl⟩
      · have _ := hm
        refine Done.as (e := Exit.normal) (s := ⟨[(0, .p (encL Pt.cs t0)), (3, .own 5006 0 t32.length 2), (4, pI (t4 + 1)), (5, .ptr 5 0), (6, .ptr 6 0), (7, .ptr 7 0)], [(5, .lit 63 [pI t5X1, pI t5Y1]), (6, .lit 63 [pI t6X, pI t6Y]), (7, .lit 63 [pI v3.x, pI v3.y]), (5006, .row 37 (t32.flatMap Cell.cs))]⟩) rfl (by kernel_rfl) ?_
        refine Done.mk (thenQ_n ?_)
        refine awp_seq ?_
        refine awp_regionD Try_mixed (orcs := []) (gs := [.keep [0, 3, 4, 5, 6] [5, 6, 5006]]) (s' := ⟨[(0, .p (encL Pt.cs t0)), (3, .own 5006 0 t32.length 2), (4, pI (t4 + 1)), (5, .ptr 5 0), (6, .ptr 6 0)], [(5, .lit 63 [pI t5X1, pI t5Y1]), (6, .lit 63 [pI v3.x, pI v3.y]), (5006, .row 37 (t32.flatMap Cell.cs))]⟩) (by kernel_rfl) (holds_of ((UU ∧ UU ∧ UU) ∧ (UU ∧ UU)) (by kernel_rfl) ⟨⟨TT, TT, TT⟩, ⟨TT, TT⟩⟩) ?_
        refine Done.mk (thenQ_n ?_)
        refine awp_seq ?_
        refine awp_regionD Try_mixed (orcs := []) (gs := [.keep [0, 3, 4, 5, 6, 105] [5, 6, 5006]]) (s' := ⟨[(0, .p (encL Pt.cs t0)), (3, .own 5006 0 t32.length 2), (4, pI (t4 + 1)), (5, .ptr 5 0), (6, .ptr 6 0), (105, pB ((t4 + 1 : Int) == (t0.length : Int)))], [(5, .lit 63 [pI t5X1, pI t5Y1]), (6, .lit 63 [pI v3.x, pI v3.y]), (5006, .row 37 (t32.flatMap Cell.cs))]⟩) (by kernel_rfl) (holds_of ((UU ∧ UU ∧ UU ∧ UU ∧ UU) ∧ (UU ∧ UU)) (by kernel_rfl) ⟨⟨TT, TT, TT, TT, TT⟩, ⟨TT, TT⟩⟩) ?_
        refine Done.mk (thenQ_n ?_)
        refine ifB_el h (fun k28 h => ?_) (fun k28 h => ?_)
        · refine awp_cond_t (b := (t4 + 1 : Int) == (t0.length : Int)) (by kernel_rfl) k28 ?_
          refine doneExit ?_
          refine Done.gh [.keep [3] [5006], .keep [3] [5006]] (s' := ⟨[(3, .own 5006 0 t32.length 2)], [(5006, .row 37 (t32.flatMap Cell.cs))]⟩) (by kernel_rfl) (holds_of (UU ∧ UU ∧ UU) (by kernel_rfl) ⟨TT, TT, TT⟩) ?_
          refine Done.mk (inB_miss rfl ?_)
          obtain rfl := Option.some.inj h
          exact ⟨fun q => (by cases q), fun q => (by subst q; exact ⟨rfl, by kernel_rfl⟩)⟩
        · refine awp_cond_f (b := (t4 + 1 : Int) == (t0.length : Int)) (by kernel_rfl) k28 ?_
          refine doneSkip ?_
          refine Done.gh [.keep [0, 3, 4, 5, 6] [5, 6, 5006], .ren 5006 5004, .keep [0, 3, 4, 5, 6] [5, 6, 5004]] (s' := ⟨[(0, .p (encL Pt.cs t0)), (3, .own 5004 0 t32.length 2), (4, pI (t4 + 1)), (5, .ptr 5 0), (6, .ptr 6 0)], [(5, .lit 63 [pI t5X1, pI t5Y1]), (6, .lit 63 [pI v3.x, pI v3.y]), (5004, .row 37 (t32.flatMap Cell.cs))]⟩) (by kernel_rfl) (holds_of (UU ∧ UU ∧ UU ∧ UU) (by kernel_rfl) ⟨TT, TT, TT, TT⟩) ?_
          refine Done.mk (inB_n ?_)
          obtain rfl := Option.some.inj h
          exact ⟨rfl, by kernel_rfl⟩
  · have _ := hm
    refine Done.as (e := (Exit.exit 0)) (s := ⟨[(3, .own 5006 0 t35.length 2)], [(5006, .row 37 (t35.flatMap Cell.cs))]⟩) rfl (by kernel_rfl) ?_
    refine Done.mk (inB_hit (thenQ_n ?_))
    refine awp_seq ?_
    refine bind_el h (fun t36 hm h => ?_)
    refine awp_tail (fun _ => Exit.normal) (fun o => match o with | t36 => ⟨[(3, .own 5006 0 t36.length 2)], [(5006, .row 37 (t36.flatMap Cell.cs))]⟩) hm (fun o h => ?_) ?_
    · refine awp_seq ?_
      refine bind_el h (fun t120 hm h => ?_)
      refine awp_tail (fun _ => Exit.normal) (fun o => match o with | t120 => ⟨[(3, .own 5006 0 t35.length 2), (120, pB t120)], [(5006, .row 37 (t35.flatMap Cell.cs))]⟩) hm (fun o h => ?_) ?_
      · refine ifB_el h (fun k29 h => ?_) (fun k29 h => ?_)
        · refine bind_el h (fun c k30 h => ?_)
          replace k30 := getI_el k30
          refine chk_el h (fun k31 h => ?_)
          refine bind_el h (fun c1 k32 h => ?_)
          replace k32 := getI_el k32
          refine awp_regionD Try_mixed (orcs := [(3, tB true), (6, tV (.agg [pI c.x, pI c.y])), (12, tV (.agg [pI c1.x, pI c1.y]))]) (gs := [.keep [3, 120] [5006]]) (s' := ⟨[(3, .own 5006 0 t35.length 2), (120, pB ((c.x == c1.x) && ((c.y == c1.y) && true)))], [(5006, .row 37 (t35.flatMap Cell.cs))]⟩) (by kernel_rfl) (holds_of ((UU ∧ UU ∧ UU ∧ ((UU ∧ some (pB (decide ((t35.length : Int) > (1 : Int)))) = some (pB true))) ∧ UU ∧ ((0 ≤ (0 : Int) ∧ (0 : Int) < (t35.length : Int))) ∧ (rowHas (t35.flatMap Cell.cs) (0 + (0 : Int).toNat * 2) [pI c.x, pI c.y]) ∧ UU ∧ UU ∧ UU ∧ (InR .i64 (((t35.length : Int)) - 1 : Int)) ∧ ((0 ≤ (((t35.length : Int)) - 1 : Int) ∧ (((t35.length : Int)) - 1 : Int) < (t35.length : Int))) ∧ (rowHas (t35.flatMap Cell.cs) (0 + (((t35.length : Int)) - 1 : Int).toNat * 2) [pI c1.x, pI c1.y]) ∧ UU ∧ UU ∧ UU) ∧ (UU ∧ UU)) (by kernel_rfl) ⟨⟨TT, TT, TT, ⟨TT, by rw [k29]⟩, TT, k30.2, row_has Cell.cs_len k30.1 (o := 0) (m := 2) (by omega) (by decide), TT, TT, TT, k31, k32.2, row_has Cell.cs_len k32.1 (o := 0) (m := 2) (by omega) (by decide), TT, TT, TT⟩, ⟨TT, TT⟩⟩) ?_
          refine Done.mk ?_
          obtain rfl := Option.some.inj h
          exact ⟨rfl, by kernel_rfl⟩
        · refine awp_regionD Try_mixed (orcs := [(3, tB false)]) (gs := [.keep [3, 120] [5006]]) (s' := ⟨[(3, .own 5006 0 t35.length 2), (120, pB false)], [(5006, .row 37 (t35.flatMap Cell.cs))]⟩) (by kernel_rfl) (holds_of ((UU ∧ UU ∧ UU ∧ ((UU ∧ some (pB (decide ((t35.length : Int) > (1 : Int)))) = some (pB false))) ∧ UU ∧ UU) ∧ (UU ∧ UU)) (by kernel_rfl) ⟨⟨TT, TT, TT, ⟨TT, by rw [k29]⟩, TT, TT⟩, ⟨TT, TT⟩⟩) ?_
          refine Done.mk ?_
          obtain rfl := Option.some.inj h
          exact ⟨rfl, by kernel_rfl⟩
      · have _ := hm
        refine Done.as (e := Exit.normal) (s := ⟨[(3, .own 5006 0 t35.length 2), (120, pB t120)], [(5006, .row 37 (t35.flatMap Cell.cs))]⟩) rfl (by kernel_rfl) ?_
        refine Done.mk (thenQ_n ?_)
        refine ifB_el h (fun k33 h => ?_) (fun k33 h => ?_)
        · refine awp_cond_t (b := t120) (by kernel_rfl) k33 ?_
          refine chk_el h (fun k34 h => ?_)
          refine chk_el h (fun k35 h => ?_)
          refine awp_regionD Try_mixed (orcs := [(4, tV (.own 5006 0 (t35.take (((t35.length : Int)) - 1 : Int).toNat).length 2))]) (gs := [.cut 5006 ((((t35.length : Int)) - 1 : Int).toNat * 2), .castB 5006 (.row 37 ((t35.take (((t35.length : Int)) - 1 : Int).toNat).flatMap Cell.cs)), .keep [3] [5006]]) (s' := ⟨[(3, .own 5006 0 (t35.take (((t35.length : Int)) - 1 : Int).toNat).length 2)], [(5006, .row 37 ((t35.take (((t35.length : Int)) - 1 : Int).toNat).flatMap Cell.cs))]⟩) (by kernel_rfl) (holds_of ((UU ∧ UU ∧ UU ∧ (InR .i64 (((t35.length : Int)) - 1 : Int)) ∧ (((0 ≤ (((t35.length : Int)) - 1 : Int) ∧ (((t35.length : Int)) - 1 : Int) ≤ (t35.length : Int)) ∧ some (AV.own 5006 0 (((t35.length : Int)) - 1 : Int).toNat 2) = some (AV.own 5006 0 (t35.take (((t35.length : Int)) - 1 : Int).toNat).length 2))) ∧ UU ∧ UU) ∧ (UU ∧ (some (ABlk.row 37 ((t35.flatMap Cell.cs).take ((((t35.length : Int)) - 1 : Int).toNat * 2))) = some (ABlk.row 37 ((t35.take (((t35.length : Int)) - 1 : Int).toNat).flatMap Cell.cs))) ∧ UU ∧ UU)) (by kernel_rfl) ⟨⟨TT, TT, TT, k34, ⟨k35, take_len k35⟩, TT, TT⟩, ⟨TT, (take_rowB Cell.cs_len _ _ _), TT, TT⟩⟩) ?_
          refine Done.mk ?_
          obtain rfl := Option.some.inj h
          exact ⟨rfl, by kernel_rfl⟩
        · refine awp_cond_f (b := t120) (by kernel_rfl) k33 ?_
          refine doneSkip ?_
          refine Done.gh [.keep [3] [5006], .keep [3] [5006]] (s' := ⟨[(3, .own 5006 0 t35.length 2)], [(5006, .row 37 (t35.flatMap Cell.cs))]⟩) (by kernel_rfl) (holds_of (UU ∧ UU ∧ UU) (by kernel_rfl) ⟨TT, TT, TT⟩) ?_
          refine Done.mk ?_
          obtain rfl := Option.some.inj h
          exact ⟨rfl, by kernel_rfl⟩
    · have _ := hm
      refine Done.as (e := Exit.normal) (s := ⟨[(3, .own 5006 0 t36.length 2)], [(5006, .row 37 (t36.flatMap Cell.cs))]⟩) rfl (by kernel_rfl) ?_
      refine Done.mk (thenQ_n ?_)
      refine awp_seq ?_
      refine awp_regionD Try_mixed (orcs := []) (gs := [.keep [2] [5006]]) (s' := ⟨[(2, .own 5006 0 t36.length 2)], [(5006, .row 37 (t36.flatMap Cell.cs))]⟩) (by kernel_rfl) (holds_of ((UU ∧ UU ∧ UU) ∧ (UU ∧ UU)) (by kernel_rfl) ⟨⟨TT, TT, TT⟩, ⟨TT, TT⟩⟩) ?_
      refine Done.mk (thenQ_n ?_)
      refine doneRet ?_
      refine Done.gh [.frz 5006, .keep [2] []] (s' := ⟨[(2, .p (encL Cell.cs t36))], []⟩) (by kernel_rfl) (holds_of (UU ∧ UU ∧ UU) (by kernel_rfl) ⟨TT, TT, TT⟩) ?_
      refine Done.mk (noG_r ?_)
      obtain rfl := Option.some.inj h
      exact ⟨Or.inr rfl, by kernel_rfl, by kernel_rfl⟩
end
end Go.AM
end
section
namespace Go.AM
open Go Go.RowKit Go.Proofs
noncomputable section
def boundary_around_j1 (i : Int) (r_ : Region) (r_1 : Row) : Option (Bool) :=
    ifB (decide (i > (0 : Int)))
    (chk (InR .i64 (i - 1 : Int))
      ((getI r_.rows (i - 1 : Int)).bind fun r_2 =>
      chk (InR .i64 (r_1.y - 1 : Int))
      (some (r_2.y == (r_1.y - 1 : Int)))))
    (some false)
def boundary_around_j2 (i : Int) (r_ : Region) (r_1 : Row) : Option ((List Run)) :=
    (boundary_around_j1 i r_ r_1).bind fun t26 =>
    ifB (t26)
    (chk (InR .i64 (i - 1 : Int))
      ((getI r_.rows (i - 1 : Int)).bind fun r_3 =>
      some r_3.runs))
    (some ([] : List Run))
def boundary_around_j3 (i : Int) (r_ : Region) (r_1 : Row) : Option (Bool) :=
    chk (InR .i64 (i + 1 : Int))
    (ifB (decide ((i + 1 : Int) < (r_.rows.length : Int)))
    ((getI r_.rows (i + 1 : Int)).bind fun r_4 =>
      chk (InR .i64 (r_1.y + 1 : Int))
      (some (r_4.y == (r_1.y + 1 : Int))))
    (some false))
def boundary_around_j4 (i : Int) (r_ : Region) (r_1 : Row) : Option ((List Run)) :=
    (boundary_around_j3 i r_ r_1).bind fun t51 =>
    ifB (t51)
    (chk (InR .i64 (i + 1 : Int))
      ((getI r_.rows (i + 1 : Int)).bind fun r_5 =>
      some r_5.runs))
    (some ([] : List Run))
noncomputable def boundary_around (r_ : Region) (i : Int) : Option ((List Run) × (List Run)) :=
  (getI r_.rows i).bind fun r_1 =>
  (boundary_around_j2 i r_ r_1).bind fun below =>
  (boundary_around_j4 i r_ r_1).bind fun above =>
  some (below, above)
set_option maxRecDepth 100000 in
set_option maxHeartbeats 4000000 in
theorem boundary_around_ok {r_ : Region} {i : Int} {r : ((List Run) × (List Run))} (h : boundary_around r_ i = some r) : ASpec Try.prog 44 [.agg [.p (encL Row.cs r_.rows)], pI i] [] (.tup [.p (encL Run.cs r.1), .p (encL Run.cs r.2)]) [] := by
  refine aspec_of Try.func44 (c := _) rfl (by kernel_rfl) (by rw [Try.ntmps44]; exact Nat.le_of_ble_eq_true rfl) ?_
  refine awp_seq ?_
  refine awp_regionD Try_mixed (orcs := []) (gs := [.keep [1, 2, 4, 5] [2]]) (s' := ⟨[(1, pI i), (2, .ptr 2 0), (4, .nils), (5, .nils)], [(2, .lit 24 [.p (encL Row.cs r_.rows)])]⟩) (by kernel_rfl) (holds_of ((UU ∧ UU ∧ UU ∧ UU) ∧ (UU ∧ UU)) (by kernel_rfl) ⟨⟨TT, TT, TT, TT⟩, ⟨TT, TT⟩⟩) ?_
  refine Done.mk (thenQ_n ?_)
  refine awp_seq ?_
  refine bind_el h (fun r_1 k1 h => ?_)
  replace k1 := getI_el k1
  refine awp_regionD Try_mixed (orcs := [(5, tV (pI r_1.y))]) (gs := [.keep [1, 2, 4, 5, 6] [2]]) (s' := ⟨[(1, pI i), (2, .ptr 2 0), (4, .nils), (5, .nils), (6, pI r_1.y)], [(2, .lit 24 [.p (encL Row.cs r_.rows)])]⟩) (by kernel_rfl) (holds_of ((UU ∧ UU ∧ UU ∧ ((0 ≤ i ∧ i < (r_.rows.length : Int))) ∧ UU ∧ ((r_.rows.flatMap Row.cs)[i.toNat * 2]? = some (vI r_1.y)) ∧ UU ∧ UU) ∧ (UU ∧ UU)) (by kernel_rfl) ⟨⟨TT, TT, TT, k1.2, TT, row_at Row.cs_len k1.1 (j := 0) (by omega) (by decide), TT, TT⟩, ⟨TT, TT⟩⟩) ?_
  refine Done.mk (thenQ_n ?_)
  refine awp_seq ?_
  refine bind_el h (fun below hm h => ?_)
  refine awp_tail (fun _ => Exit.normal) (fun o => match o with | below => ⟨[(1, pI i), (2, .ptr 2 0), (4, .p (encL Run.cs below)), (5, .nils), (6, pI r_1.y)], [(2, .lit 24 [.p (encL Row.cs r_.rows)])]⟩) hm (fun o h => ?_) ?_
  · refine awp_seq ?_
    refine bind_el h (fun t26 hm h => ?_)
    refine awp_tail (fun _ => Exit.normal) (fun o => match o with | t26 => ⟨[(1, pI i), (2, .ptr 2 0), (4, .nils), (5, .nils), (6, pI r_1.y), (26, pB t26)], [(2, .lit 24 [.p (encL Row.cs r_.rows)])]⟩) hm (fun o h => ?_) ?_
    · refine ifB_el h (fun k2 h => ?_) (fun k2 h => ?_)
      · refine chk_el h (fun k3 h => ?_)
        refine bind_el h (fun r_2 k4 h => ?_)
        replace k4 := getI_el k4
        refine chk_el h (fun k5 h => ?_)
        refine awp_regionD Try_mixed (orcs := [(2, tB true), (9, tV (pI r_2.y))]) (gs := [.keep [1, 2, 4, 5, 6, 26] [2]]) (s' := ⟨[(1, pI i), (2, .ptr 2 0), (4, .nils), (5, .nils), (6, pI r_1.y), (26, pB (r_2.y == (r_1.y - 1 : Int)))], [(2, .lit 24 [.p (encL Row.cs r_.rows)])]⟩) (by kernel_rfl) (holds_of ((UU ∧ UU ∧ ((UU ∧ some (pB (decide (i > (0 : Int)))) = some (pB true))) ∧ UU ∧ UU ∧ UU ∧ (InR .i64 (i - 1 : Int)) ∧ ((0 ≤ (i - 1 : Int) ∧ (i - 1 : Int) < (r_.rows.length : Int))) ∧ UU ∧ ((r_.rows.flatMap Row.cs)[(i - 1 : Int).toNat * 2]? = some (vI r_2.y)) ∧ UU ∧ (InR .i64 (r_1.y - 1 : Int)) ∧ UU ∧ UU ∧ UU) ∧ (UU ∧ UU)) (by kernel_rfl) ⟨⟨TT, TT, ⟨TT, by rw [k2]⟩, TT, TT, TT, k3, k4.2, TT, row_at Row.cs_len k4.1 (j := 0) (by omega) (by decide), TT, k5, TT, TT, TT⟩, ⟨TT, TT⟩⟩) ?_
        refine Done.mk ?_
        obtain rfl := Option.some.inj h
        exact ⟨rfl, by kernel_rfl⟩
      · refine awp_regionD Try_mixed (orcs := [(2, tB false)]) (gs := [.keep [1, 2, 4, 5, 6, 26] [2]]) (s' := ⟨[(1, pI i), (2, .ptr 2 0), (4, .nils), (5, .nils), (6, pI r_1.y), (26, pB false)], [(2, .lit 24 [.p (encL Row.cs r_.rows)])]⟩) (by kernel_rfl) (holds_of ((UU ∧ UU ∧ ((UU ∧ some (pB (decide (i > (0 : Int)))) = some (pB false))) ∧ UU ∧ UU) ∧ (UU ∧ UU)) (by kernel_rfl) ⟨⟨TT, TT, ⟨TT, by rw [k2]⟩, TT, TT⟩, ⟨TT, TT⟩⟩) ?_
        refine Done.mk ?_
        obtain rfl := Option.some.inj h
        exact ⟨rfl, by kernel_rfl⟩
    · have _ := hm
      refine Done.as (e := Exit.normal) (s := ⟨[(1, pI i), (2, .ptr 2 0), (4, .nils), (5, .nils), (6, pI r_1.y), (26, pB t26)], [(2, .lit 24 [.p (encL Row.cs r_.rows)])]⟩) rfl (by kernel_rfl) ?_
      refine Done.mk (thenQ_n ?_)
      refine ifB_el h (fun k6 h => ?_) (fun k6 h => ?_)
      · refine awp_cond_t (b := t26) (by kernel_rfl) k6 ?_
        refine chk_el h (fun k7 h => ?_)
        refine bind_el h (fun r_3 k8 h => ?_)
        replace k8 := getI_el k8
        refine awp_regionD Try_mixed (orcs := [(6, tV (.p (encL Run.cs r_3.runs)))]) (gs := [.keep [1, 2, 4, 5, 6] [2]]) (s' := ⟨[(1, pI i), (2, .ptr 2 0), (4, .p (encL Run.cs r_3.runs)), (5, .nils), (6, pI r_1.y)], [(2, .lit 24 [.p (encL Row.cs r_.rows)])]⟩) (by kernel_rfl) (holds_of ((UU ∧ UU ∧ UU ∧ (InR .i64 (i - 1 : Int)) ∧ ((0 ≤ (i - 1 : Int) ∧ (i - 1 : Int) < (r_.rows.length : Int))) ∧ UU ∧ ((r_.rows.flatMap Row.cs)[(i - 1 : Int).toNat * 2 + 1]? = some (encL Run.cs r_3.runs)) ∧ UU ∧ UU) ∧ (UU ∧ UU)) (by kernel_rfl) ⟨⟨TT, TT, TT, k7, k8.2, TT, row_at Row.cs_len k8.1 (j := 1) (by omega) (by decide), TT, TT⟩, ⟨TT, TT⟩⟩) ?_
        refine Done.mk ?_
        obtain rfl := Option.some.inj h
        exact ⟨rfl, by kernel_rfl⟩
      · refine awp_cond_f (b := t26) (by kernel_rfl) k6 ?_
        refine doneSkip ?_
        refine Done.gh [.keep [1, 2, 4, 5, 6] [2], .pureT 4, .keep [1, 2, 4, 5, 6] [2]] (s' := ⟨[(1, pI i), (2, .ptr 2 0), (4, .p (encL Run.cs (([] : List Run)))), (5, .nils), (6, pI r_1.y)], [(2, .lit 24 [.p (encL Row.cs r_.rows)])]⟩) (by kernel_rfl) (holds_of (UU ∧ UU ∧ UU ∧ UU) (by kernel_rfl) ⟨TT, TT, TT, TT⟩) ?_
        refine Done.mk ?_
        obtain rfl := Option.some.inj h
        exact ⟨rfl, by kernel_rfl⟩
  · have _ := hm
    refine Done.as (e := Exit.normal) (s := ⟨[(1, pI i), (2, .ptr 2 0), (4, .p (encL Run.cs below)), (5, .nils), (6, pI r_1.y)], [(2, .lit 24 [.p (encL Row.cs r_.rows)])]⟩) rfl (by kernel_rfl) ?_
    refine Done.mk (thenQ_n ?_)
    refine awp_seq ?_
    refine bind_el h (fun above hm h => ?_)
    refine awp_tail (fun _ => Exit.normal) (fun o => match o with | above => ⟨[(4, .p (encL Run.cs below)), (5, .p (encL Run.cs above))], []⟩) hm (fun o h => ?_) ?_
    · refine awp_seq ?_
      refine bind_el h (fun t51 hm h => ?_)
      refine awp_tail (fun _ => Exit.normal) (fun o => match o with | t51 => ⟨[(1, pI i), (2, .ptr 2 0), (4, .p (encL Run.cs below)), (5, .nils), (51, pB t51)], [(2, .lit 24 [.p (encL Row.cs r_.rows)])]⟩) hm (fun o h => ?_) ?_
      · refine chk_el h (fun k9 h => ?_)
        refine ifB_el h (fun k10 h => ?_) (fun k10 h => ?_)
        · refine bind_el h (fun r_4 k11 h => ?_)
          replace k11 := getI_el k11
          refine chk_el h (fun k12 h => ?_)
          refine awp_regionD Try_mixed (orcs := [(6, tB true), (13, tV (pI r_4.y))]) (gs := [.keep [1, 2, 4, 5, 51] [2]]) (s' := ⟨[(1, pI i), (2, .ptr 2 0), (4, .p (encL Run.cs below)), (5, .nils), (51, pB (r_4.y == (r_1.y + 1 : Int)))], [(2, .lit 24 [.p (encL Row.cs r_.rows)])]⟩) (by kernel_rfl) (holds_of ((UU ∧ (InR .i64 (i + 1 : Int)) ∧ UU ∧ UU ∧ UU ∧ UU ∧ ((UU ∧ some (pB (decide ((i + 1 : Int) < (r_.rows.length : Int)))) = some (pB true))) ∧ UU ∧ UU ∧ UU ∧ (InR .i64 (i + 1 : Int)) ∧ ((0 ≤ (i + 1 : Int) ∧ (i + 1 : Int) < (r_.rows.length : Int))) ∧ UU ∧ ((r_.rows.flatMap Row.cs)[(i + 1 : Int).toNat * 2]? = some (vI r_4.y)) ∧ UU ∧ (InR .i64 (r_1.y + 1 : Int)) ∧ UU ∧ UU ∧ UU) ∧ (UU ∧ UU)) (by kernel_rfl) ⟨⟨TT, k9, TT, TT, TT, TT, ⟨TT, by rw [k10]⟩, TT, TT, TT, k9, k11.2, TT, row_at Row.cs_len k11.1 (j := 0) (by omega) (by decide), TT, k12, TT, TT, TT⟩, ⟨TT, TT⟩⟩) ?_
          refine Done.mk ?_
          obtain rfl := Option.some.inj h
          exact ⟨rfl, by kernel_rfl⟩
        · refine awp_regionD Try_mixed (orcs := [(6, tB false)]) (gs := [.keep [1, 2, 4, 5, 51] [2]]) (s' := ⟨[(1, pI i), (2, .ptr 2 0), (4, .p (encL Run.cs below)), (5, .nils), (51, pB false)], [(2, .lit 24 [.p (encL Row.cs r_.rows)])]⟩) (by kernel_rfl) (holds_of ((UU ∧ (InR .i64 (i + 1 : Int)) ∧ UU ∧ UU ∧ UU ∧ UU ∧ ((UU ∧ some (pB (decide ((i + 1 : Int) < (r_.rows.length : Int)))) = some (pB false))) ∧ UU ∧ UU) ∧ (UU ∧ UU)) (by kernel_rfl) ⟨⟨TT, k9, TT, TT, TT, TT, ⟨TT, by rw [k10]⟩, TT, TT⟩, ⟨TT, TT⟩⟩) ?_
          refine Done.mk ?_
          obtain rfl := Option.some.inj h
          exact ⟨rfl, by kernel_rfl⟩
      · have _ := hm
        refine Done.as (e := Exit.normal) (s := ⟨[(1, pI i), (2, .ptr 2 0), (4, .p (encL Run.cs below)), (5, .nils), (51, pB t51)], [(2, .lit 24 [.p (encL Row.cs r_.rows)])]⟩) rfl (by kernel_rfl) ?_
        refine Done.mk (thenQ_n ?_)
        refine ifB_el h (fun k13 h => ?_) (fun k13 h => ?_)
        · refine awp_cond_t (b := t51) (by kernel_rfl) k13 ?_
          refine chk_el h (fun k14 h => ?_)
          refine bind_el h (fun r_5 k15 h => ?_)
          replace k15 := getI_el k15
          refine awp_regionD Try_mixed (orcs := [(6, tV (.p (encL Run.cs r_5.runs)))]) (gs := [.keep [4, 5] []]) (s' := ⟨[(4, .p (encL Run.cs below)), (5, .p (encL Run.cs r_5.runs))], []⟩) (by kernel_rfl) (holds_of ((UU ∧ UU ∧ UU ∧ (InR .i64 (i + 1 : Int)) ∧ ((0 ≤ (i + 1 : Int) ∧ (i + 1 : Int) < (r_.rows.length : Int))) ∧ UU ∧ ((r_.rows.flatMap Row.cs)[(i + 1 : Int).toNat * 2 + 1]? = some (encL Run.cs r_5.runs)) ∧ UU ∧ UU) ∧ (UU ∧ UU)) (by kernel_rfl) ⟨⟨TT, TT, TT, k14, k15.2, TT, row_at Row.cs_len k15.1 (j := 1) (by omega) (by decide), TT, TT⟩, ⟨TT, TT⟩⟩) ?_
          refine Done.mk ?_
          obtain rfl := Option.some.inj h
          exact ⟨rfl, by kernel_rfl⟩
        · refine awp_cond_f (b := t51) (by kernel_rfl) k13 ?_
          refine doneSkip ?_
          refine Done.gh [.keep [4, 5] [], .pureT 5, .keep [4, 5] []] (s' := ⟨[(4, .p (encL Run.cs below)), (5, .p (encL Run.cs (([] : List Run))))], []⟩) (by kernel_rfl) (holds_of (UU ∧ UU ∧ UU ∧ UU) (by kernel_rfl) ⟨TT, TT, TT, TT⟩) ?_
          refine Done.mk ?_
          obtain rfl := Option.some.inj h
          exact ⟨rfl, by kernel_rfl⟩
    · have _ := hm
      refine Done.as (e := Exit.normal) (s := ⟨[(4, .p (encL Run.cs below)), (5, .p (encL Run.cs above))], []⟩) rfl (by kernel_rfl) ?_
      refine Done.mk (thenQ_n ?_)
      refine awp_seq ?_
      refine awp_regionD Try_mixed (orcs := []) (gs := [.keep [4, 5] []]) (s' := ⟨[(4, .p (encL Run.cs below)), (5, .p (encL Run.cs above))], []⟩) (by kernel_rfl) (holds_of ((UU ∧ UU ∧ UU ∧ UU ∧ UU) ∧ (UU ∧ UU)) (by kernel_rfl) ⟨⟨TT, TT, TT, TT, TT⟩, ⟨TT, TT⟩⟩) ?_
      refine Done.mk (thenQ_n ?_)
      refine doneRet ?_
      refine Done.mk ?_
      obtain rfl := Option.some.inj h
      exact ⟨Or.inr rfl, by kernel_rfl, by kernel_rfl⟩
end
end Go.AM
end
section
namespace Go.AM
open Go Go.RowKit Go.Proofs
noncomputable section
noncomputable def runs_bounds_over (bRuns : (List Run)) (bAt : Int) : Option Bool :=
  chk (InR .i64 (2 * ((bRuns.length : Int)) : Int))
  (some (bAt == (2 * ((bRuns.length : Int)) : Int)))
set_option maxRecDepth 100000 in
set_option maxHeartbeats 4000000 in
theorem runs_bounds_over_ok {bRuns : (List Run)} {bAt : Int} {r : Bool} (h : runs_bounds_over bRuns bAt = some r) : ASpec Try.prog 78 [.ptr 0 0] [(0, .lit 125 [.p (encL Run.cs bRuns), pI bAt])] (pB r) [(0, .lit 125 [.p (encL Run.cs bRuns), pI bAt])] := by
  refine aspec_of Try.func78 (c := _) rfl (by kernel_rfl) (by rw [Try.ntmps78]; exact Nat.le_of_ble_eq_true rfl) ?_
  refine awp_seq ?_
  refine awp_regionD Try_mixed (orcs := []) (gs := [.keep [0] [0]]) (s' := ⟨[(0, .ptr 0 0)], [(0, .lit 125 [.p (encL Run.cs bRuns), pI bAt])]⟩) (by kernel_rfl) (holds_of ((UU ∧ UU) ∧ (UU ∧ UU)) (by kernel_rfl) ⟨⟨TT, TT⟩, ⟨TT, TT⟩⟩) ?_
  refine Done.mk (thenQ_n ?_)
  refine awp_seq ?_
  refine chk_el h (fun k1 h => ?_)
  refine awp_regionD Try_mixed (orcs := []) (gs := [.keep [2] [0]]) (s' := ⟨[(2, pB (bAt == (2 * ((bRuns.length : Int)) : Int)))], [(0, .lit 125 [.p (encL Run.cs bRuns), pI bAt])]⟩) (by kernel_rfl) (holds_of ((UU ∧ UU ∧ UU ∧ UU ∧ UU ∧ UU ∧ UU ∧ UU ∧ UU ∧ (InR .i64 (2 * ((bRuns.length : Int)) : Int)) ∧ UU ∧ UU ∧ UU) ∧ (UU ∧ UU)) (by kernel_rfl) ⟨⟨TT, TT, TT, TT, TT, TT, TT, TT, TT, k1, TT, TT, TT⟩, ⟨TT, TT⟩⟩) ?_
  refine Done.mk (thenQ_n ?_)
  refine doneRet ?_
  refine Done.mk ?_
  obtain rfl := Option.some.inj h
  exact ⟨Or.inr rfl, by kernel_rfl, by kernel_rfl⟩
end
end Go.AM
end
section
namespace Go.AM
open Go Go.RowKit Go.Proofs
noncomputable section
noncomputable def runs_bounds_inside (_bRuns : (List Run)) (bAt : Int) : Option Bool :=
  some ((bAt.tmod (2 : Int) : Int) == (1 : Int))
set_option maxRecDepth 100000 in
set_option maxHeartbeats 4000000 in
theorem runs_bounds_inside_ok {bRuns : (List Run)} {bAt : Int} {r : Bool} (h : runs_bounds_inside bRuns bAt = some r) : ASpec Try.prog 81 [.ptr 0 0] [(0, .lit 125 [.p (encL Run.cs bRuns), pI bAt])] (pB r) [(0, .lit 125 [.p (encL Run.cs bRuns), pI bAt])] := by
  refine aspec_of Try.func81 (c := _) rfl (by kernel_rfl) (by rw [Try.ntmps81]; exact Nat.le_of_ble_eq_true rfl) ?_
  refine awp_seq ?_
  refine awp_regionD Try_mixed (orcs := []) (gs := [.keep [0] [0]]) (s' := ⟨[(0, .ptr 0 0)], [(0, .lit 125 [.p (encL Run.cs bRuns), pI bAt])]⟩) (by kernel_rfl) (holds_of ((UU ∧ UU) ∧ (UU ∧ UU)) (by kernel_rfl) ⟨⟨TT, TT⟩, ⟨TT, TT⟩⟩) ?_
  refine Done.mk (thenQ_n ?_)
  refine awp_seq ?_
  refine awp_regionD Try_mixed (orcs := []) (gs := [.keep [2] [0]]) (s' := ⟨[(2, pB ((bAt.tmod (2 : Int) : Int) == (1 : Int)))], [(0, .lit 125 [.p (encL Run.cs bRuns), pI bAt])]⟩) (by kernel_rfl) (holds_of ((UU ∧ UU ∧ UU ∧ UU ∧ ((2 : Int) ≠ 0) ∧ UU ∧ UU ∧ UU) ∧ (UU ∧ UU)) (by kernel_rfl) ⟨⟨TT, TT, TT, TT, by decide, TT, TT, TT⟩, ⟨TT, TT⟩⟩) ?_
  refine Done.mk (thenQ_n ?_)
  refine doneRet ?_
  refine Done.mk ?_
  obtain rfl := Option.some.inj h
  exact ⟨Or.inr rfl, by kernel_rfl, by kernel_rfl⟩
end
end Go.AM
end
section
namespace Go.AM
open Go Go.RowKit Go.Proofs
noncomputable section
noncomputable def runs_bounds_next (bRuns : (List Run)) (bAt : Int) : Option Int :=
  (runs_bounds_over bRuns bAt).bind fun b =>
  ifB (b)
  (some 1048577)
  ((runs_bounds_inside bRuns bAt).bind fun b1 =>
    ifB (b1)
    (chk (((2 : Int) ≠ 0 ∧ InR .i64 (bAt.tdiv (2 : Int))))
      ((getI bRuns (bAt.tdiv (2 : Int) : Int)).bind fun r_ =>
      some r_.to))
    (chk (((2 : Int) ≠ 0 ∧ InR .i64 (bAt.tdiv (2 : Int))))
      ((getI bRuns (bAt.tdiv (2 : Int) : Int)).bind fun r_1 =>
      some r_1.frm)))
set_option maxRecDepth 100000 in
set_option maxHeartbeats 4000000 in
theorem runs_bounds_next_ok {bRuns : (List Run)} {bAt : Int} {r : Int} (h : runs_bounds_next bRuns bAt = some r) : ASpec Try.prog 79 [.ptr 0 0] [(0, .lit 125 [.p (encL Run.cs bRuns), pI bAt])] (pI r) [(0, .lit 125 [.p (encL Run.cs bRuns), pI bAt])] := by
  refine aspec_of Try.func79 (c := _) rfl (by kernel_rfl) (by rw [Try.ntmps79]; exact Nat.le_of_ble_eq_true rfl) ?_
  refine awp_seq ?_
  refine awp_regionD Try_mixed (orcs := []) (gs := [.keep [0] [0]]) (s' := ⟨[(0, .ptr 0 0)], [(0, .lit 125 [.p (encL Run.cs bRuns), pI bAt])]⟩) (by kernel_rfl) (holds_of ((UU ∧ UU) ∧ (UU ∧ UU)) (by kernel_rfl) ⟨⟨TT, TT⟩, ⟨TT, TT⟩⟩) ?_
  refine Done.mk (thenQ_n ?_)
  refine awp_seq ?_
  refine awp_block ?_
  refine awp_seq ?_
  refine bind_el h (fun b k1 h => ?_)
  refine awp_regionD Try_mixed (orcs := [(1, { r := some (pB b), fp := [0], post := [(0, .lit 125 [.p (encL Run.cs bRuns), pI bAt])] })]) (gs := [.keep [0, 3] [0]]) (s' := ⟨[(0, .ptr 0 0), (3, pB b)], [(0, .lit 125 [.p (encL Run.cs bRuns), pI bAt])]⟩) (by kernel_rfl) (holds_of ((UU ∧ (ASpec Try.prog 78 [.ptr 0 0] [(0, .lit 125 [.p (encL Run.cs bRuns), pI bAt])] (pB b) [(0, .lit 125 [.p (encL Run.cs bRuns), pI bAt])]) ∧ UU ∧ UU) ∧ (UU ∧ UU)) (by kernel_rfl) ⟨⟨TT, runs_bounds_over_ok k1, TT, TT⟩, ⟨TT, TT⟩⟩) ?_
  refine Done.mk (thenQ_n ?_)
  refine ifB_el h (fun k2 h => ?_) (fun k2 h => ?_)
  · refine awp_cond_t (b := b) (by kernel_rfl) k2 ?_
    refine awp_seq ?_
    refine awp_regionD Try_mixed (orcs := []) (gs := [.keep [2] [0]]) (s' := ⟨[(2, pI 1048577)], [(0, .lit 125 [.p (encL Run.cs bRuns), pI bAt])]⟩) (by kernel_rfl) (holds_of ((UU ∧ UU) ∧ (UU ∧ UU)) (by kernel_rfl) ⟨⟨TT, TT⟩, ⟨TT, TT⟩⟩) ?_
    refine Done.mk (thenQ_n ?_)
    refine doneRet ?_
    refine Done.mk (inB_r (thenQ_r ?_))
    obtain rfl := Option.some.inj h
    exact ⟨Or.inr rfl, by kernel_rfl, by kernel_rfl⟩
  · refine awp_cond_f (b := b) (by kernel_rfl) k2 ?_
    refine awp_seq ?_
    refine bind_el h (fun b1 k3 h => ?_)
    refine awp_regionD Try_mixed (orcs := [(1, { r := some (pB b1), fp := [0], post := [(0, .lit 125 [.p (encL Run.cs bRuns), pI bAt])] })]) (gs := [.keep [0, 6] [0]]) (s' := ⟨[(0, .ptr 0 0), (6, pB b1)], [(0, .lit 125 [.p (encL Run.cs bRuns), pI bAt])]⟩) (by kernel_rfl) (holds_of ((UU ∧ (ASpec Try.prog 81 [.ptr 0 0] [(0, .lit 125 [.p (encL Run.cs bRuns), pI bAt])] (pB b1) [(0, .lit 125 [.p (encL Run.cs bRuns), pI bAt])]) ∧ UU ∧ UU) ∧ (UU ∧ UU)) (by kernel_rfl) ⟨⟨TT, runs_bounds_inside_ok k3, TT, TT⟩, ⟨TT, TT⟩⟩) ?_
    refine Done.mk (thenQ_n ?_)
    refine ifB_el h (fun k4 h => ?_) (fun k4 h => ?_)
    · refine awp_cond_t (b := b1) (by kernel_rfl) k4 ?_
      refine awp_seq ?_
      refine chk_el h (fun k5 h => ?_)
      refine bind_el h (fun r_ k6 h => ?_)
      replace k6 := getI_el k6
      refine awp_regionD Try_mixed (orcs := [(11, tV (pI r_.to))]) (gs := [.keep [2] [0]]) (s' := ⟨[(2, pI r_.to)], [(0, .lit 125 [.p (encL Run.cs bRuns), pI bAt])]⟩) (by kernel_rfl) (holds_of ((UU ∧ UU ∧ UU ∧ UU ∧ UU ∧ UU ∧ UU ∧ UU ∧ (((2 : Int) ≠ 0 ∧ InR .i64 (bAt.tdiv (2 : Int)))) ∧ ((0 ≤ (bAt.tdiv (2 : Int) : Int) ∧ (bAt.tdiv (2 : Int) : Int) < (bRuns.length : Int))) ∧ UU ∧ ((bRuns.flatMap Run.cs)[(bAt.tdiv (2 : Int) : Int).toNat * 2 + 1]? = some (vI r_.to)) ∧ UU ∧ UU) ∧ (UU ∧ UU)) (by kernel_rfl) ⟨⟨TT, TT, TT, TT, TT, TT, TT, TT, k5, k6.2, TT, row_at Run.cs_len k6.1 (j := 1) (by omega) (by decide), TT, TT⟩, ⟨TT, TT⟩⟩) ?_
      refine Done.mk (thenQ_n ?_)
      refine doneRet ?_
      refine Done.mk (inB_r (thenQ_r ?_))
      obtain rfl := Option.some.inj h
      exact ⟨Or.inr rfl, by kernel_rfl, by kernel_rfl⟩
    · refine awp_cond_f (b := b1) (by kernel_rfl) k4 ?_
      refine doneSkip ?_
      refine Done.mk (inB_n (thenQ_n ?_))
      refine awp_seq ?_
      refine chk_el h (fun k7 h => ?_)
      refine bind_el h (fun r_1 k8 h => ?_)
      replace k8 := getI_el k8
      refine awp_regionD Try_mixed (orcs := [(11, tV (pI r_1.frm))]) (gs := [.keep [2] [0]]) (s' := ⟨[(2, pI r_1.frm)], [(0, .lit 125 [.p (encL Run.cs bRuns), pI bAt])]⟩) (by kernel_rfl) (holds_of ((UU ∧ UU ∧ UU ∧ UU ∧ UU ∧ UU ∧ UU ∧ UU ∧ (((2 : Int) ≠ 0 ∧ InR .i64 (bAt.tdiv (2 : Int)))) ∧ ((0 ≤ (bAt.tdiv (2 : Int) : Int) ∧ (bAt.tdiv (2 : Int) : Int) < (bRuns.length : Int))) ∧ UU ∧ ((bRuns.flatMap Run.cs)[(bAt.tdiv (2 : Int) : Int).toNat * 2]? = some (vI r_1.frm)) ∧ UU ∧ UU) ∧ (UU ∧ UU)) (by kernel_rfl) ⟨⟨TT, TT, TT, TT, TT, TT, TT, TT, k7, k8.2, TT, row_at Run.cs_len k8.1 (j := 0) (by omega) (by decide), TT, TT⟩, ⟨TT, TT⟩⟩) ?_
      refine Done.mk (thenQ_n ?_)
      refine doneRet ?_
      refine Done.mk ?_
      obtain rfl := Option.some.inj h
      exact ⟨Or.inr rfl, by kernel_rfl, by kernel_rfl⟩
end
end Go.AM
end
section
namespace Go.AM
open Go Go.RowKit Go.Proofs
noncomputable section
noncomputable def runs_bounds_pass (bRuns : (List Run)) (bAt : Int) (x : Int) : Option Int :=
  (runs_bounds_next bRuns bAt).bind fun n =>
  ifB (n == x)
  (chk (InR .i64 (bAt + 1 : Int))
    (some (bAt + 1)))
  (some bAt)
set_option maxRecDepth 100000 in
set_option maxHeartbeats 4000000 in
theorem runs_bounds_pass_ok {bRuns : (List Run)} {bAt : Int} {x : Int} {r : Int} (h : runs_bounds_pass bRuns bAt x = some r) : ASpec Try.prog 80 [.ptr 0 0, pI x] [(0, .lit 125 [.p (encL Run.cs bRuns), pI bAt])] (.tup []) [(0, .lit 125 [.p (encL Run.cs bRuns), pI r])] := by
  refine aspec_of Try.func80 (c := _) rfl (by kernel_rfl) (by rw [Try.ntmps80]; exact Nat.le_of_ble_eq_true rfl) ?_
  refine awp_seq ?_
  refine bind_el h (fun n k1 h => ?_)
  refine awp_regionD Try_mixed (orcs := [(1, { r := some (pI n), fp := [0], post := [(0, .lit 125 [.p (encL Run.cs bRuns), pI bAt])] })]) (gs := [.keep [0, 7] [0]]) (s' := ⟨[(0, .ptr 0 0), (7, pB (n == x))], [(0, .lit 125 [.p (encL Run.cs bRuns), pI bAt])]⟩) (by kernel_rfl) (holds_of ((UU ∧ (ASpec Try.prog 79 [.ptr 0 0] [(0, .lit 125 [.p (encL Run.cs bRuns), pI bAt])] (pI n) [(0, .lit 125 [.p (encL Run.cs bRuns), pI bAt])]) ∧ UU ∧ UU ∧ UU) ∧ (UU ∧ UU)) (by kernel_rfl) ⟨⟨TT, runs_bounds_next_ok k1, TT, TT, TT⟩, ⟨TT, TT⟩⟩) ?_
  refine Done.mk (thenQ_n ?_)
  refine ifB_el h (fun k2 h => ?_) (fun k2 h => ?_)
  · refine awp_cond_t (b := n == x) (by kernel_rfl) k2 ?_
    refine chk_el h (fun k3 h => ?_)
    refine awp_regionD Try_mixed (orcs := []) (gs := [.keep [] [0]]) (s' := ⟨[], [(0, .lit 125 [.p (encL Run.cs bRuns), pI (bAt + 1)])]⟩) (by kernel_rfl) (holds_of ((UU ∧ UU ∧ UU ∧ UU ∧ (InR .i64 (bAt + 1 : Int)) ∧ UU ∧ UU ∧ UU ∧ UU) ∧ (UU ∧ UU)) (by kernel_rfl) ⟨⟨TT, TT, TT, TT, k3, TT, TT, TT, TT⟩, ⟨TT, TT⟩⟩) ?_
    refine Done.mk ?_
    obtain rfl := Option.some.inj h
    exact ⟨Or.inl rfl, by kernel_rfl, by kernel_rfl⟩
  · refine awp_cond_f (b := n == x) (by kernel_rfl) k2 ?_
    refine doneSkip ?_
    refine Done.mk ?_
    obtain rfl := Option.some.inj h
    exact ⟨Or.inl rfl, by kernel_rfl, by kernel_rfl⟩
end
end Go.AM
end
section
namespace Go.AM
open Go Go.RowKit Go.Proofs
noncomputable section
def runs_Subtract_1_j1 (inA : Bool) (inB : Bool) : Option (Bool) :=
    ifB (inA)
    (some (!inB))
    (some false)
noncomputable def runs_Subtract_1 (inA : Bool) (inB : Bool) : Option Bool :=
  (runs_Subtract_1_j1 inA inB).bind fun t4 =>
  some t4
set_option maxRecDepth 100000 in
set_option maxHeartbeats 4000000 in
theorem runs_Subtract_1_ok {inA : Bool} {inB : Bool} {r : Bool} (h : runs_Subtract_1 inA inB = some r) : ASpec Try.prog 62 [pB inA, pB inB] [] (pB r) [] := by
  refine aspec_of Try.func62 (c := _) rfl (by kernel_rfl) (by rw [Try.ntmps62]; exact Nat.le_of_ble_eq_true rfl) ?_
  refine awp_seq ?_
  refine awp_regionD Try_mixed (orcs := []) (gs := [.keep [0, 1] []]) (s' := ⟨[(0, pB inA), (1, pB inB)], []⟩) (by kernel_rfl) (holds_of ((UU ∧ UU) ∧ (UU ∧ UU)) (by kernel_rfl) ⟨⟨TT, TT⟩, ⟨TT, TT⟩⟩) ?_
  refine Done.mk (thenQ_n ?_)
  refine awp_seq ?_
  refine bind_el h (fun t4 hm h => ?_)
  refine awp_tail (fun _ => Exit.normal) (fun o => match o with | t4 => ⟨[(4, pB t4)], []⟩) hm (fun o h => ?_) ?_
  · refine ifB_el h (fun k1 h => ?_) (fun k1 h => ?_)
    · refine awp_regionD Try_mixed (orcs := [(1, tB true)]) (gs := [.keep [4] []]) (s' := ⟨[(4, pB (!inB))], []⟩) (by kernel_rfl) (holds_of ((UU ∧ ((UU ∧ some (pB inA) = some (pB true))) ∧ UU ∧ UU ∧ UU ∧ UU ∧ UU) ∧ (UU ∧ UU)) (by kernel_rfl) ⟨⟨TT, ⟨TT, by rw [k1]⟩, TT, TT, TT, TT, TT⟩, ⟨TT, TT⟩⟩) ?_
      refine Done.mk ?_
      obtain rfl := Option.some.inj h
      exact ⟨rfl, by kernel_rfl⟩
    · refine awp_regionD Try_mixed (orcs := [(1, tB false)]) (gs := [.keep [4] []]) (s' := ⟨[(4, pB false)], []⟩) (by kernel_rfl) (holds_of ((UU ∧ ((UU ∧ some (pB inA) = some (pB false))) ∧ UU ∧ UU ∧ UU) ∧ (UU ∧ UU)) (by kernel_rfl) ⟨⟨TT, ⟨TT, by rw [k1]⟩, TT, TT, TT⟩, ⟨TT, TT⟩⟩) ?_
      refine Done.mk ?_
      obtain rfl := Option.some.inj h
      exact ⟨rfl, by kernel_rfl⟩
  · have _ := hm
    refine Done.as (e := Exit.normal) (s := ⟨[(4, pB t4)], []⟩) rfl (by kernel_rfl) ?_
    refine Done.mk (thenQ_n ?_)
    refine doneRet ?_
    refine Done.mk ?_
    obtain rfl := Option.some.inj h
    exact ⟨Or.inr rfl, by kernel_rfl, by kernel_rfl⟩
end
end Go.AM
end
