/- Models of functions, and that their calls do what the models say. Printed by gen.py. -/
import Derived.Test.YtijdlphadhpabaaProg
import Derived.Test.YtijdlphadhpabaaA4
import Derived.Test.YtijdlphadhpabaaA3
import Derived.Test.YtijdlphadhpabaaA1
import Derived.Test.YtijdlphadhpabaaA6
import Derived.Test.YtijdlphadhpabaaA8
import Derived.Test.YtijdlphadhpabaaA5
import Derived.Test.YtijdlphadhpabaaA7
import Derived.Test.YtijdlphadhpabaaA2
import Derived.Test.YtijdlphadhpabaaF1
import Derived.Test.YtijdlphadhpabaaF5
import Derived.Test.YtijdlphadhpabaaA9
import Derived.Test.YtijdlphadhpabaaF2
section
namespace Go.AM
open Go Go.RowKit Go.Proofs
noncomputable section
set_option maxRecDepth 100000 in
set_option maxHeartbeats 4000000 in
theorem ringwalk_left_ok {p_ : Pt} {d : Pt} {r : Cell} (h : ringwalk_left p_ d = some r) : ASpec Try.prog 36 [.agg [pI p_.x, pI p_.y], .agg [pI d.x, pI d.y]] [] (.agg [pI r.x, pI r.y]) [] := by
  refine aspec_of Try.func36 (c := _) rfl (by kernel_rfl) (by rw [Try.ntmps36]; exact Nat.le_of_ble_eq_true rfl) ?_
  refine awp_seq ?_
  refine awp_regionD Try_mixed (orcs := []) (gs := [.keep [2, 3, 4] [2, 3, 4]]) (s' := ⟨[(2, .ptr 2 0), (3, .ptr 3 0), (4, .ptr 4 0)], [(2, .lit 63 [pI p_.x, pI p_.y]), (3, .lit 63 [pI d.x, pI d.y]), (4, .lit 37 [pI 0, pI 0])]⟩) (by kernel_rfl) (holds_of ((UU ∧ UU ∧ UU ∧ UU) ∧ (UU ∧ UU)) (by kernel_rfl) ⟨⟨TT, TT, TT, TT⟩, ⟨TT, TT⟩⟩) ?_
  refine Done.mk (thenQ_n ?_)
  refine awp_seq ?_
  refine awp_seq ?_
  refine awp_regionD Try_mixed (orcs := []) (gs := [.keep [2, 4, 5] [2, 4]]) (s' := ⟨[(2, .ptr 2 0), (4, .ptr 4 0), (5, .agg [pI d.x, pI d.y])], [(2, .lit 63 [pI p_.x, pI p_.y]), (4, .lit 37 [pI 0, pI 0])]⟩) (by kernel_rfl) (holds_of ((UU ∧ UU) ∧ (UU ∧ UU)) (by kernel_rfl) ⟨⟨TT, TT⟩, ⟨TT, TT⟩⟩) ?_
  refine Done.mk (thenQ_n ?_)
  refine awp_block ?_
  refine awp_seq ?_
  refine awp_regionD Try_mixed (orcs := []) (gs := [.keep [2, 4, 5, 6] [2, 4]]) (s' := ⟨[(2, .ptr 2 0), (4, .ptr 4 0), (5, .agg [pI d.x, pI d.y]), (6, pB ((d.x == (1 : Int)) && ((d.y == (0 : Int)) && true)))], [(2, .lit 63 [pI p_.x, pI p_.y]), (4, .lit 37 [pI 0, pI 0])]⟩) (by kernel_rfl) (holds_of ((UU ∧ UU ∧ UU ∧ UU) ∧ (UU ∧ UU)) (by kernel_rfl) ⟨⟨TT, TT, TT, TT⟩, ⟨TT, TT⟩⟩) ?_
  refine Done.mk (thenQ_n ?_)
  refine ifB_el h (fun k1 h => ?_) (fun k1 h => ?_)
  · refine awp_cond_t (b := (d.x == (1 : Int)) && ((d.y == (0 : Int)) && true)) (by kernel_rfl) k1 ?_
    refine awp_seq ?_
    refine awp_regionD Try_mixed (orcs := []) (gs := [.keep [4] [4]]) (s' := ⟨[(4, .ptr 4 0)], [(4, .lit 37 [pI p_.x, pI p_.y])]⟩) (by kernel_rfl) (holds_of ((UU ∧ UU ∧ UU ∧ UU ∧ UU ∧ UU ∧ UU) ∧ (UU ∧ UU)) (by kernel_rfl) ⟨⟨TT, TT, TT, TT, TT, TT, TT⟩, ⟨TT, TT⟩⟩) ?_
    refine Done.mk (thenQ_n ?_)
    refine doneRet ?_
    refine Done.mk (inB_r (thenQ_r ?_))
    obtain rfl := Option.some.inj h
    exact ⟨Or.inr rfl, by kernel_rfl, by kernel_rfl⟩
  · refine awp_cond_f (b := (d.x == (1 : Int)) && ((d.y == (0 : Int)) && true)) (by kernel_rfl) k1 ?_
    refine awp_seq ?_
    refine awp_regionD Try_mixed (orcs := []) (gs := [.keep [2, 4, 5, 14] [2, 4]]) (s' := ⟨[(2, .ptr 2 0), (4, .ptr 4 0), (5, .agg [pI d.x, pI d.y]), (14, pB ((d.x == (0 : Int)) && ((d.y == (1 : Int)) && true)))], [(2, .lit 63 [pI p_.x, pI p_.y]), (4, .lit 37 [pI 0, pI 0])]⟩) (by kernel_rfl) (holds_of ((UU ∧ UU ∧ UU ∧ UU) ∧ (UU ∧ UU)) (by kernel_rfl) ⟨⟨TT, TT, TT, TT⟩, ⟨TT, TT⟩⟩) ?_
    refine Done.mk (thenQ_n ?_)
    refine ifB_el h (fun k2 h => ?_) (fun k2 h => ?_)
    · refine awp_cond_t (b := (d.x == (0 : Int)) && ((d.y == (1 : Int)) && true)) (by kernel_rfl) k2 ?_
      refine awp_seq ?_
      refine chk_el h (fun k3 h => ?_)
      refine awp_regionD Try_mixed (orcs := []) (gs := [.keep [4] [4]]) (s' := ⟨[(4, .ptr 4 0)], [(4, .lit 37 [pI (p_.x - 1), pI p_.y])]⟩) (by kernel_rfl) (holds_of ((UU ∧ UU ∧ (InR .i64 (p_.x - 1 : Int)) ∧ UU ∧ UU ∧ UU ∧ UU ∧ UU) ∧ (UU ∧ UU)) (by kernel_rfl) ⟨⟨TT, TT, k3, TT, TT, TT, TT, TT⟩, ⟨TT, TT⟩⟩) ?_
      refine Done.mk (thenQ_n ?_)
      refine doneRet ?_
      refine Done.mk (inB_r (thenQ_r ?_))
      obtain rfl := Option.some.inj h
      exact ⟨Or.inr rfl, by kernel_rfl, by kernel_rfl⟩
    · refine awp_cond_f (b := (d.x == (0 : Int)) && ((d.y == (1 : Int)) && true)) (by kernel_rfl) k2 ?_
      refine awp_seq ?_
      refine awp_regionD Try_mixed (orcs := []) (gs := [.keep [2, 4, 23] [2, 4]]) (s' := ⟨[(2, .ptr 2 0), (4, .ptr 4 0), (23, pB ((d.x == (-1 : Int)) && ((d.y == (0 : Int)) && true)))], [(2, .lit 63 [pI p_.x, pI p_.y]), (4, .lit 37 [pI 0, pI 0])]⟩) (by kernel_rfl) (holds_of ((UU ∧ UU ∧ UU ∧ UU) ∧ (UU ∧ UU)) (by kernel_rfl) ⟨⟨TT, TT, TT, TT⟩, ⟨TT, TT⟩⟩) ?_
      refine Done.mk (thenQ_n ?_)
      refine ifB_el h (fun k4 h => ?_) (fun k4 h => ?_)
      · refine awp_cond_t (b := (d.x == (-1 : Int)) && ((d.y == (0 : Int)) && true)) (by kernel_rfl) k4 ?_
        refine awp_seq ?_
        refine chk_el h (fun k5 h => ?_)
        refine chk_el h (fun k6 h => ?_)
        refine awp_regionD Try_mixed (orcs := []) (gs := [.keep [4] [4]]) (s' := ⟨[(4, .ptr 4 0)], [(4, .lit 37 [pI (p_.x - 1), pI (p_.y - 1)])]⟩) (by kernel_rfl) (holds_of ((UU ∧ UU ∧ (InR .i64 (p_.x - 1 : Int)) ∧ UU ∧ UU ∧ (InR .i64 (p_.y - 1 : Int)) ∧ UU ∧ UU ∧ UU) ∧ (UU ∧ UU)) (by kernel_rfl) ⟨⟨TT, TT, k5, TT, TT, k6, TT, TT, TT⟩, ⟨TT, TT⟩⟩) ?_
        refine Done.mk (thenQ_n ?_)
        refine doneRet ?_
        refine Done.mk (inB_r (thenQ_r ?_))
        obtain rfl := Option.some.inj h
        exact ⟨Or.inr rfl, by kernel_rfl, by kernel_rfl⟩
      · refine awp_cond_f (b := (d.x == (-1 : Int)) && ((d.y == (0 : Int)) && true)) (by kernel_rfl) k4 ?_
        refine doneSkip ?_
        refine Done.mk (inB_n (thenQ_n ?_))
        refine awp_seq ?_
        refine chk_el h (fun k7 h => ?_)
        refine awp_regionD Try_mixed (orcs := []) (gs := [.keep [4] [4]]) (s' := ⟨[(4, .ptr 4 0)], [(4, .lit 37 [pI p_.x, pI (p_.y - 1)])]⟩) (by kernel_rfl) (holds_of ((UU ∧ UU ∧ UU ∧ UU ∧ (InR .i64 (p_.y - 1 : Int)) ∧ UU ∧ UU ∧ UU) ∧ (UU ∧ UU)) (by kernel_rfl) ⟨⟨TT, TT, TT, TT, k7, TT, TT, TT⟩, ⟨TT, TT⟩⟩) ?_
        refine Done.mk (thenQ_n ?_)
        refine doneRet ?_
        refine Done.mk ?_
        obtain rfl := Option.some.inj h
        exact ⟨Or.inr rfl, by kernel_rfl, by kernel_rfl⟩
end
end Go.AM
end
section
namespace Go.AM
open Go Go.RowKit Go.Proofs
noncomputable section
set_option maxRecDepth 100000 in
set_option maxHeartbeats 4000000 in
theorem ringwalk_walk_ok {t0 : (List Pt)} {r : (List Cell)} (h : ringwalk_walk t0 = some r) : ASpec Try.prog 18 [.p (encL Pt.cs t0)] [] (.p (encL Cell.cs r)) [] := by
  refine aspec_of Try.func18 (c := _) rfl (by kernel_rfl) (by rw [Try.ntmps18]; exact Nat.le_of_ble_eq_true rfl) ?_
  refine awp_seq ?_
  refine awp_regionD Try_mixed (orcs := []) (gs := [.keep [0] []]) (s' := ⟨[(0, .p (encL Pt.cs t0))], []⟩) (by kernel_rfl) (holds_of ((UU ∧ UU) ∧ (UU ∧ UU)) (by kernel_rfl) ⟨⟨TT, TT⟩, ⟨TT, TT⟩⟩) ?_
  refine Done.mk (thenQ_n ?_)
  refine awp_scope ?_
  refine awp_seq ?_
  refine awp_regionD Try_mixed (orcs := []) (gs := [.keep [0, 3] []]) (s' := ⟨[(0, .p (encL Pt.cs t0)), (3, .nils)], []⟩) (by kernel_rfl) (holds_of ((UU ∧ UU) ∧ (UU ∧ UU)) (by kernel_rfl) ⟨⟨TT, TT⟩, ⟨TT, TT⟩⟩) ?_
  refine Done.mk (thenQ_n ?_)
  refine awp_seq ?_
  refine bind_el h (fun p_ k1 h => ?_)
  replace k1 := getI_el k1
  refine awp_regionD Try_mixed (orcs := [(2, tV (.agg [pI p_.x, pI p_.y]))]) (gs := [.keep [0, 3, 4, 5] [5]]) (s' := ⟨[(0, .p (encL Pt.cs t0)), (3, .nils), (4, pI 0), (5, .ptr 5 0)], [(5, .lit 63 [pI p_.x, pI p_.y])]⟩) (by kernel_rfl) (holds_of ((UU ∧ ((0 ≤ (0 : Int) ∧ (0 : Int) < (t0.length : Int))) ∧ (rowHas (t0.flatMap Pt.cs) ((0 : Int).toNat * 2) [pI p_.x, pI p_.y]) ∧ UU ∧ UU ∧ UU ∧ UU) ∧ (UU ∧ UU)) (by kernel_rfl) ⟨⟨TT, k1.2, row_has Pt.cs_len k1.1 (o := 0) (m := 2) (by omega) (by decide), TT, TT, TT, TT⟩, ⟨TT, TT⟩⟩) ?_
  refine Done.mk (thenQ_n ?_)
  refine awp_seq ?_
  refine bind_el h (fun p_1 k2 h => ?_)
  replace k2 := getI_el k2
  refine bind_el h (fun v k3 h => ?_)
  refine awp_regionD Try_mixed (orcs := [(2, tV (.agg [pI p_.x, pI p_.y])), (5, tV (.agg [pI p_1.x, pI p_1.y])), (6, tV (.agg [pI v.x, pI v.y]))]) (gs := [.keep [0, 3, 4, 5, 6] [5, 6]]) (s' := ⟨[(0, .p (encL Pt.cs t0)), (3, .nils), (4, pI 0), (5, .ptr 5 0), (6, .ptr 6 0)], [(5, .lit 63 [pI p_.x, pI p_.y]), (6, .lit 63 [pI v.x, pI v.y])]⟩) (by kernel_rfl) (holds_of ((UU ∧ ((0 ≤ (0 : Int) ∧ (0 : Int) < (t0.length : Int))) ∧ (rowHas (t0.flatMap Pt.cs) ((0 : Int).toNat * 2) [pI p_.x, pI p_.y]) ∧ UU ∧ ((0 ≤ (1 : Int) ∧ (1 : Int) < (t0.length : Int))) ∧ (rowHas (t0.flatMap Pt.cs) ((1 : Int).toNat * 2) [pI p_1.x, pI p_1.y]) ∧ (ASpec Try.prog 34 [.agg [pI p_.x, pI p_.y], .agg [pI p_1.x, pI p_1.y]] [] (.agg [pI v.x, pI v.y]) []) ∧ UU ∧ UU ∧ UU) ∧ (UU ∧ UU)) (by kernel_rfl) ⟨⟨TT, k1.2, row_has Pt.cs_len k1.1 (o := 0) (m := 2) (by omega) (by decide), TT, k2.2, row_has Pt.cs_len k2.1 (o := 0) (m := 2) (by omega) (by decide), ringwalk_direction_ok k3, TT, TT, TT⟩, ⟨TT, TT⟩⟩) ?_
  refine Done.mk (thenQ_n ?_)
  refine awp_seq ?_
  refine doneLabel ?_
  refine Done.mk (thenQ_n ?_)
  refine awp_seq ?_
  refine awp_block ?_
  refine bind_el h (fun t35 hm h => ?_)
  refine awp_gh [.keep [0, 3, 4, 5, 6] [5, 6], .opn 3 5004 37 2, .keep [0, 3, 4, 5, 6] [5, 6, 5004]] (s' := ⟨[(0, .p (encL Pt.cs t0)), (3, .own 5004 0 (([] : List Cell)).length 2), (4, pI 0), (5, .ptr 5 0), (6, .ptr 6 0)], [(5, .lit 63 [pI p_.x, pI p_.y]), (6, .lit 63 [pI v.x, pI v.y]), (5004, .row 37 ((([] : List Cell)).flatMap Cell.cs))]⟩) (by kernel_rfl) (holds_of (UU ∧ UU ∧ UU ∧ UU) (by kernel_rfl) ⟨TT, TT, TT, TT⟩) ?_
  refine awp_tail (fun _ => (Exit.exit 0)) (fun o => match o with | t35 => ⟨[(3, .own 5006 0 t35.length 2)], [(5006, .row 37 (t35.flatMap Cell.cs))]⟩) hm (fun o h => ?_) ?_
  · refine awp_loop' (fun s => match s with | (t33, t4, t5X2, t5Y2, t6X, t6Y) => ⟨[(0, .p (encL Pt.cs t0)), (3, .own 5004 0 t33.length 2), (4, pI t4), (5, .ptr 5 0), (6, .ptr 6 0)], [(5, .lit 63 [pI t5X2, pI t5Y2]), (6, .lit 63 [pI t6X, pI t6Y]), (5004, .row 37 (t33.flatMap Cell.cs))]⟩) h (by kernel_rfl) (fun s out h => ?_)
    obtain ⟨t33, t4, t5X2, t5Y2, t6X, t6Y⟩ := s
    refine awp_block ?_
    refine awp_seq ?_
    refine awp_block ?_
    refine bind_el h (fun o hm h => ?_)
    refine awp_gh [.keep [0, 3, 4, 5, 6] [5, 6, 5004], .ren 5004 5005, .keep [0, 3, 4, 5, 6] [5, 6, 5005]] (s' := ⟨[(0, .p (encL Pt.cs t0)), (3, .own 5005 0 t33.length 2), (4, pI t4), (5, .ptr 5 0), (6, .ptr 6 0)], [(5, .lit 63 [pI t5X2, pI t5Y2]), (6, .lit 63 [pI t6X, pI t6Y]), (5005, .row 37 (t33.flatMap Cell.cs))]⟩) (by kernel_rfl) (holds_of (UU ∧ UU ∧ UU ∧ UU) (by kernel_rfl) ⟨TT, TT, TT, TT⟩) ?_
    refine awp_tail (fun _ => (Exit.exit 2)) (fun o => match o with | (t31, t5X1, t5Y1) => ⟨[(0, .p (encL Pt.cs t0)), (3, .own 5005 0 t31.length 2), (4, pI t4), (5, .ptr 5 0), (6, .ptr 6 0)], [(5, .lit 63 [pI t5X1, pI t5Y1]), (6, .lit 63 [pI t6X, pI t6Y]), (5005, .row 37 (t31.flatMap Cell.cs))]⟩) hm (fun o h => ?_) ?_
    · refine awp_loop' (fun s => match s with | (t3, t5X, t5Y) => ⟨[(0, .p (encL Pt.cs t0)), (3, .own 5005 0 t3.length 2), (4, pI t4), (5, .ptr 5 0), (6, .ptr 6 0)], [(5, .lit 63 [pI t5X, pI t5Y]), (6, .lit 63 [pI t6X, pI t6Y]), (5005, .row 37 (t3.flatMap Cell.cs))]⟩) h (by kernel_rfl) (fun s out h => ?_)
      obtain ⟨t3, t5X, t5Y⟩ := s
      refine awp_seq ?_
      refine awp_seq ?_
      refine chk_el h (fun k4 h => ?_)
      refine chk_el h (fun k5 h => ?_)
      refine bind_el h (fun p_2 k6 h => ?_)
      replace k6 := getI_el k6
      refine awp_regionD Try_mixed (orcs := [(8, tV (.agg [pI p_2.x, pI p_2.y]))]) (gs := [.keep [0, 3, 4, 5, 6, 28] [5, 6, 5005]]) (s' := ⟨[(0, .p (encL Pt.cs t0)), (3, .own 5005 0 t3.length 2), (4, pI t4), (5, .ptr 5 0), (6, .ptr 6 0), (28, pB (!((t5X == p_2.x) && ((t5Y == p_2.y) && true))))], [(5, .lit 63 [pI t5X, pI t5Y]), (6, .lit 63 [pI t6X, pI t6Y]), (5005, .row 37 (t3.flatMap Cell.cs))]⟩) (by kernel_rfl) (holds_of ((UU ∧ UU ∧ UU ∧ (InR .i64 (t4 + 1 : Int)) ∧ UU ∧ UU ∧ ((t0.length : Int) ≠ 0) ∧ ((0 ≤ ((t4 + 1 : Int).tmod (t0.length : Int) : Int) ∧ ((t4 + 1 : Int).tmod (t0.length : Int) : Int) < (t0.length : Int))) ∧ (rowHas (t0.flatMap Pt.cs) (((t4 + 1 : Int).tmod (t0.length : Int) : Int).toNat * 2) [pI p_2.x, pI p_2.y]) ∧ UU ∧ UU) ∧ (UU ∧ UU)) (by kernel_rfl) ⟨⟨TT, TT, TT, k4, TT, TT, k5, k6.2, row_has Pt.cs_len k6.1 (o := 0) (m := 2) (by omega) (by decide), TT, TT⟩, ⟨TT, TT⟩⟩) ?_
      refine Done.mk (thenQ_n ?_)
      refine ifB_el h (fun k7 h => ?_) (fun k7 h => ?_)
      · refine awp_cond_t (b := !((t5X == p_2.x) && ((t5Y == p_2.y) && true))) (by kernel_rfl) k7 ?_
        refine doneSkip ?_
        refine Done.mk (thenQ_n ?_)
        refine awp_block ?_
        refine awp_seq ?_
        refine bind_el h (fun v1 k8 h => ?_)
        refine bind_el h (fun v2 k9 h => ?_)
        refine awp_regionD Try_mixed (orcs := [(3, tV (.agg [pI v1.x, pI v1.y])), (4, { r := some (.own 6000 0 v2.length 2), fp := [5005], post := [(6000, .row 37 (v2.flatMap Cell.cs))] })]) (gs := [.keep [0, 3, 4, 5, 6] [5, 6, 6000]]) (s' := ⟨[(0, .p (encL Pt.cs t0)), (3, .own 6000 0 v2.length 2), (4, pI t4), (5, .ptr 5 0), (6, .ptr 6 0)], [(5, .lit 63 [pI t5X, pI t5Y]), (6, .lit 63 [pI t6X, pI t6Y]), (6000, .row 37 (v2.flatMap Cell.cs))]⟩) (by kernel_rfl) (holds_of ((UU ∧ UU ∧ UU ∧ (ASpec Try.prog 36 [.agg [pI t5X, pI t5Y], .agg [pI t6X, pI t6Y]] [] (.agg [pI v1.x, pI v1.y]) []) ∧ (ASpec Try.prog 35 [.own 5005 0 t3.length 2, .agg [pI v1.x, pI v1.y]] [(5005, .row 37 (t3.flatMap Cell.cs))] (.own 6000 0 v2.length 2) [(6000, .row 37 (v2.flatMap Cell.cs))]) ∧ UU ∧ UU) ∧ (UU ∧ UU)) (by kernel_rfl) ⟨⟨TT, TT, TT, ringwalk_left_ok k8, aspec_at (ringwalk_add_ok k9) 0 5005 (by kernel_rfl), TT, TT⟩, ⟨TT, TT⟩⟩) ?_
        refine Done.mk (thenQ_n ?_)
        refine chk_el h (fun k10 h => ?_)
        refine chk_el h (fun k11 h => ?_)
        refine awp_regionD Try_mixed (orcs := []) (gs := [.keep [0, 3, 4, 5, 6] [5, 6, 6000]]) (s' := ⟨[(0, .p (encL Pt.cs t0)), (3, .own 6000 0 v2.length 2), (4, pI t4), (5, .ptr 5 0), (6, .ptr 6 0)], [(5, .lit 63 [pI (t5X + t6X), pI (t5Y + t6Y)]), (6, .lit 63 [pI t6X, pI t6Y]), (6000, .row 37 (v2.flatMap Cell.cs))]⟩) (by kernel_rfl) (holds_of ((UU ∧ UU ∧ UU ∧ UU ∧ (InR .i64 (t5X + t6X : Int)) ∧ UU ∧ UU ∧ UU ∧ UU ∧ (InR .i64 (t5Y + t6Y : Int)) ∧ UU ∧ UU ∧ UU) ∧ (UU ∧ UU)) (by kernel_rfl) ⟨⟨TT, TT, TT, TT, k10, TT, TT, TT, TT, k11, TT, TT, TT⟩, ⟨TT, TT⟩⟩) ?_
        refine Done.gh [.keep [0, 3, 4, 5, 6] [5, 6, 6000], .ren 6000 5005, .keep [0, 3, 4, 5, 6] [5, 6, 5005]] (s' := ⟨[(0, .p (encL Pt.cs t0)), (3, .own 5005 0 v2.length 2), (4, pI t4), (5, .ptr 5 0), (6, .ptr 6 0)], [(5, .lit 63 [pI (t5X + t6X), pI (t5Y + t6Y)]), (6, .lit 63 [pI t6X, pI t6Y]), (5005, .row 37 (v2.flatMap Cell.cs))]⟩) (by kernel_rfl) (holds_of (UU ∧ UU ∧ UU ∧ UU) (by kernel_rfl) ⟨TT, TT, TT, TT⟩) ?_
        refine Done.mk (inB_n ?_)
        obtain rfl := Option.some.inj h
        exact ⟨rfl, by kernel_rfl⟩
      · refine awp_cond_f (b := !((t5X == p_2.x) && ((t5Y == p_2.y) && true))) (by kernel_rfl) k7 ?_
        refine doneExit ?_
        refine Done.gh [.keep [0, 3, 4, 5, 6] [5, 6, 5005], .keep [0, 3, 4, 5, 6] [5, 6, 5005]] (s' := ⟨[(0, .p (encL Pt.cs t0)), (3, .own 5005 0 t3.length 2), (4, pI t4), (5, .ptr 5 0), (6, .ptr 6 0)], [(5, .lit 63 [pI t5X, pI t5Y]), (6, .lit 63 [pI t6X, pI t6Y]), (5005, .row 37 (t3.flatMap Cell.cs))]⟩) (by kernel_rfl) (holds_of (UU ∧ UU ∧ UU) (by kernel_rfl) ⟨TT, TT, TT⟩) ?_
        refine Done.mk (thenQ_x ?_)
        obtain rfl := Option.some.inj h
        exact ⟨fun q => (by cases q), fun q => (by subst q; exact ⟨rfl, by kernel_rfl⟩)⟩
    · obtain ⟨t31, t5X1, t5Y1⟩ := o
      refine Done.as (e := (Exit.exit 2)) (s := ⟨[(0, .p (encL Pt.cs t0)), (3, .own 5005 0 t31.length 2), (4, pI t4), (5, .ptr 5 0), (6, .ptr 6 0)], [(5, .lit 63 [pI t5X1, pI t5Y1]), (6, .lit 63 [pI t6X, pI t6Y]), (5005, .row 37 (t31.flatMap Cell.cs))]⟩) rfl (by kernel_rfl) ?_
      refine Done.mk (inB_hit (thenQ_n ?_))
      refine awp_seq ?_
      refine chk_el h (fun k12 h => ?_)
      refine awp_regionD Try_mixed (orcs := []) (gs := [.keep [0, 3, 4, 5, 6] [5, 6, 5005]]) (s' := ⟨[(0, .p (encL Pt.cs t0)), (3, .own 5005 0 t31.length 2), (4, pI (t4 + 1)), (5, .ptr 5 0), (6, .ptr 6 0)], [(5, .lit 63 [pI t5X1, pI t5Y1]), (6, .lit 63 [pI t6X, pI t6Y]), (5005, .row 37 (t31.flatMap Cell.cs))]⟩) (by kernel_rfl) (holds_of ((UU ∧ (InR .i64 (t4 + 1 : Int)) ∧ UU ∧ UU) ∧ (UU ∧ UU)) (by kernel_rfl) ⟨⟨TT, k12, TT, TT⟩, ⟨TT, TT⟩⟩) ?_
      refine Done.mk (thenQ_n ?_)
      refine awp_seq ?_
      refine chk_el h (fun k13 h => ?_)
      refine bind_el h (fun p_3 k14 h => ?_)
      replace k14 := getI_el k14
      refine chk_el h (fun k15 h => ?_)
      refine bind_el h (fun p_4 k16 h => ?_)
      replace k16 := getI_el k16
      refine bind_el h (fun v3 k17 h => ?_)
      refine awp_regionD Try_mixed (orcs := [(6, tV (.agg [pI p_3.x, pI p_3.y])), (14, tV (.agg [pI p_4.x, pI p_4.y])), (15, tV (.agg [pI v3.x, pI v3.y]))]) (gs := [.keep [0, 3, 4, 5, 6, 7] [5, 6, 7, 5005]]) (s' := ⟨[(0, .p (encL Pt.cs t0)), (3, .own 5005 0 t31.length 2), (4, pI (t4 + 1)), (5, .ptr 5 0), (6, .ptr 6 0), (7, .ptr 7 0)], [(5, .lit 63 [pI t5X1, pI t5Y1]), (6, .lit 63 [pI t6X, pI t6Y]), (7, .lit 63 [pI v3.x, pI v3.y]), (5005, .row 37 (t31.flatMap Cell.cs))]⟩) (by kernel_rfl) (holds_of ((UU ∧ UU ∧ UU ∧ UU ∧ ((t0.length : Int) ≠ 0) ∧ ((0 ≤ ((t4 + 1 : Int).tmod (t0.length : Int) : Int) ∧ ((t4 + 1 : Int).tmod (t0.length : Int) : Int) < (t0.length : Int))) ∧ (rowHas (t0.flatMap Pt.cs) (((t4 + 1 : Int).tmod (t0.length : Int) : Int).toNat * 2) [pI p_3.x, pI p_3.y]) ∧ UU ∧ UU ∧ (InR .i64 ((t4 + 1) + 1 : Int)) ∧ UU ∧ UU ∧ ((t0.length : Int) ≠ 0) ∧ ((0 ≤ (((t4 + 1) + 1 : Int).tmod (t0.length : Int) : Int) ∧ (((t4 + 1) + 1 : Int).tmod (t0.length : Int) : Int) < (t0.length : Int))) ∧ (rowHas (t0.flatMap Pt.cs) ((((t4 + 1) + 1 : Int).tmod (t0.length : Int) : Int).toNat * 2) [pI p_4.x, pI p_4.y]) ∧ (ASpec Try.prog 34 [.agg [pI p_3.x, pI p_3.y], .agg [pI p_4.x, pI p_4.y]] [] (.agg [pI v3.x, pI v3.y]) []) ∧ UU ∧ UU ∧ UU) ∧ (UU ∧ UU)) (by kernel_rfl) ⟨⟨TT, TT, TT, TT, k13, k14.2, row_has Pt.cs_len k14.1 (o := 0) (m := 2) (by omega) (by decide), TT, TT, k15, TT, TT, k13, k16.2, row_has Pt.cs_len k16.1 (o := 0) (m := 2) (by omega) (by decide), ringwalk_direction_ok k17, TT, TT, TT⟩, ⟨TT, TT⟩⟩) ?_
      refine Done.mk (thenQ_n ?_)
      refine awp_seq ?_
      refine bind_el h (fun t32 hm h => ?_)
      refine awp_tail (fun _ => Exit.normal) (fun o => match o with | t32 => ⟨[(0, .p (encL Pt.cs t0)), (3, .own 5006 0 t32.length 2), (4, pI (t4 + 1)), (5, .ptr 5 0), (6, .ptr 6 0), (7, .ptr 7 0)], [(5, .lit 63 [pI t5X1, pI t5Y1]), (6, .lit 63 [pI t6X, pI t6Y]), (7, .lit 63 [pI v3.x, pI v3.y]), (5006, .row 37 (t32.flatMap Cell.cs))]⟩) hm (fun o h => ?_) ?_
      · refine awp_seq ?_
        refine chk_el h (fun k18 h => ?_)
        refine chk_el h (fun k19 h => ?_)
        refine chk_el h (fun k20 h => ?_)
        refine awp_regionD Try_mixed (orcs := []) (gs := [.keep [0, 3, 4, 5, 6, 7, 74] [5, 6, 7, 5005]]) (s' := ⟨[(0, .p (encL Pt.cs t0)), (3, .own 5005 0 t31.length 2), (4, pI (t4 + 1)), (5, .ptr 5 0), (6, .ptr 6 0), (7, .ptr 7 0), (74, pB (decide (((t6X * v3.y) - (t6Y * v3.x) : Int) < (0 : Int))))], [(5, .lit 63 [pI t5X1, pI t5Y1]), (6, .lit 63 [pI t6X, pI t6Y]), (7, .lit 63 [pI v3.x, pI v3.y]), (5005, .row 37 (t31.flatMap Cell.cs))]⟩) (by kernel_rfl) (holds_of ((UU ∧ UU ∧ UU ∧ UU ∧ (InR .i64 (t6X * v3.y : Int)) ∧ UU ∧ UU ∧ UU ∧ UU ∧ (InR .i64 (t6Y * v3.x : Int)) ∧ (InR .i64 ((t6X * v3.y) - (t6Y * v3.x) : Int)) ∧ UU ∧ UU) ∧ (UU ∧ UU)) (by kernel_rfl) ⟨⟨TT, TT, TT, TT, k18, TT, TT, TT, TT, k19, k20, TT, TT⟩, ⟨TT, TT⟩⟩) ?_
        refine Done.mk (thenQ_n ?_)
        refine ifB_el h (fun k21 h => ?_) (fun k21 h => ?_)
        · refine awp_cond_t (b := decide (((t6X * v3.y) - (t6Y * v3.x) : Int) < (0 : Int))) (by kernel_rfl) k21 ?_
          refine awp_seq ?_
          refine chk_el h (fun k22 h => ?_)
          refine chk_el h (fun k23 h => ?_)
          refine bind_el h (fun v4 k24 h => ?_)
          refine awp_regionD Try_mixed (orcs := [(12, tV (.agg [pI v4.x, pI v4.y]))]) (gs := [.keep [0, 3, 4, 5, 6, 7, 8] [5, 6, 7, 8, 5005]]) (s' := ⟨[(0, .p (encL Pt.cs t0)), (3, .own 5005 0 t31.length 2), (4, pI (t4 + 1)), (5, .ptr 5 0), (6, .ptr 6 0), (7, .ptr 7 0), (8, .ptr 8 0)], [(5, .lit 63 [pI t5X1, pI t5Y1]), (6, .lit 63 [pI t6X, pI t6Y]), (7, .lit 63 [pI v3.x, pI v3.y]), (8, .lit 37 [pI v4.x, pI v4.y]), (5005, .row 37 (t31.flatMap Cell.cs))]⟩) (by kernel_rfl) (holds_of ((UU ∧ UU ∧ UU ∧ UU ∧ (InR .i64 (t5X1 - t6X : Int)) ∧ UU ∧ UU ∧ UU ∧ UU ∧ (InR .i64 (t5Y1 - t6Y : Int)) ∧ UU ∧ UU ∧ (ASpec Try.prog 36 [.agg [pI (t5X1 - t6X), pI (t5Y1 - t6Y)], .agg [pI t6X, pI t6Y]] [] (.agg [pI v4.x, pI v4.y]) []) ∧ UU ∧ UU ∧ UU) ∧ (UU ∧ UU)) (by kernel_rfl) ⟨⟨TT, TT, TT, TT, k22, TT, TT, TT, TT, k23, TT, TT, ringwalk_left_ok k24, TT, TT, TT⟩, ⟨TT, TT⟩⟩) ?_
          refine Done.mk (thenQ_n ?_)
          refine chk_el h (fun k25 h => ?_)
          refine chk_el h (fun k26 h => ?_)
          refine bind_el h (fun v5 k27 h => ?_)
          refine awp_regionD Try_mixed (orcs := [(12, { r := some (.own 6000 0 v5.length 2), fp := [5005], post := [(6000, .row 37 (v5.flatMap Cell.cs))] })]) (gs := [.keep [0, 3, 4, 5, 6, 7] [5, 6, 7, 6000]]) (s' := ⟨[(0, .p (encL Pt.cs t0)), (3, .own 6000 0 v5.length 2), (4, pI (t4 + 1)), (5, .ptr 5 0), (6, .ptr 6 0), (7, .ptr 7 0)], [(5, .lit 63 [pI t5X1, pI t5Y1]), (6, .lit 63 [pI t6X, pI t6Y]), (7, .lit 63 [pI v3.x, pI v3.y]), (6000, .row 37 (v5.flatMap Cell.cs))]⟩) (by kernel_rfl) (holds_of ((UU ∧ UU ∧ UU ∧ UU ∧ UU ∧ (InR .i64 (v4.x + t6X : Int)) ∧ UU ∧ UU ∧ UU ∧ UU ∧ (InR .i64 (v4.y + t6Y : Int)) ∧ UU ∧ (ASpec Try.prog 35 [.own 5005 0 t31.length 2, .agg [pI (v4.x + t6X), pI (v4.y + t6Y)]] [(5005, .row 37 (t31.flatMap Cell.cs))] (.own 6000 0 v5.length 2) [(6000, .row 37 (v5.flatMap Cell.cs))]) ∧ UU ∧ UU) ∧ (UU ∧ UU)) (by kernel_rfl) ⟨⟨TT, TT, TT, TT, TT, k25, TT, TT, TT, TT, k26, TT, aspec_at (ringwalk_add_ok k27) 0 5005 (by kernel_rfl), TT, TT⟩, ⟨TT, TT⟩⟩) ?_
          refine Done.gh [.keep [0, 3, 4, 5, 6, 7] [5, 6, 7, 6000], .ren 6000 5006, .keep [0, 3, 4, 5, 6, 7] [5, 6, 7, 5006]] (s' := ⟨[(0, .p (encL Pt.cs t0)), (3, .own 5006 0 v5.length 2), (4, pI (t4 + 1)), (5, .ptr 5 0), (6, .ptr 6 0), (7, .ptr 7 0)], [(5, .lit 63 [pI t5X1, pI t5Y1]), (6, .lit 63 [pI t6X, pI t6Y]), (7, .lit 63 [pI v3.x, pI v3.y]), (5006, .row 37 (v5.flatMap Cell.cs))]⟩) (by kernel_rfl) (holds_of (UU ∧ UU ∧ UU ∧ UU) (by kernel_rfl) ⟨TT, TT, TT, TT⟩) ?_
          refine Done.mk ?_
          obtain rfl := Option.some.inj h
          exact ⟨rfl, by kernel_rfl⟩
        · refine awp_cond_f (b := decide (((t6X * v3.y) - (t6Y * v3.x) : Int) < (0 : Int))) (by kernel_rfl) k21 ?_
          refine doneSkip ?_
          refine Done.gh [.keep [0, 3, 4, 5, 6, 7] [5, 6, 7, 5005], .ren 5005 5006, .keep [0, 3, 4, 5, 6, 7] [5, 6, 7, 5006]] (s' := ⟨[(0, .p (encL Pt.cs t0)), (3, .own 5006 0 t31.length 2), (4, pI (t4 + 1)), (5, .ptr 5 0), (6, .ptr 6 0), (7, .ptr 7 0)], [(5, .lit 63 [pI t5X1, pI t5Y1]), (6, .lit 63 [pI t6X, pI t6Y]), (7, .lit 63 [pI v3.x, pI v3.y]), (5006, .row 37 (t31.flatMap Cell.cs))]⟩) (by kernel_rfl) (holds_of (UU ∧ UU ∧ UU ∧ UU) (by kernel_rfl) ⟨TT, TT, TT, TT⟩) ?_
          refine Done.mk ?_
          obtain rfl := Option.some.inj h
          exact ⟨rfl, by kernel_rfl⟩
      · have _ := hm
        refine Done.as (e := Exit.normal) (s := ⟨[(0, .p (encL Pt.cs t0)), (3, .own 5006 0 t32.length 2), (4, pI (t4 + 1)), (5, .ptr 5 0), (6, .ptr 6 0), (7, .ptr 7 0)], [(5, .lit 63 [pI t5X1, pI t5Y1]), (6, .lit 63 [pI t6X, pI t6Y]), (7, .lit 63 [pI v3.x, pI v3.y]), (5006, .row 37 (t32.flatMap Cell.cs))]⟩) rfl (by kernel_rfl) ?_
        refine Done.mk (thenQ_n ?_)
        refine awp_seq ?_
        refine awp_regionD Try_mixed (orcs := []) (gs := [.keep [0, 3, 4, 5, 6] [5, 6, 5006]]) (s' := ⟨[(0, .p (encL Pt.cs t0)), (3, .own 5006 0 t32.length 2), (4, pI (t4 + 1)), (5, .ptr 5 0), (6, .ptr 6 0)], [(5, .lit 63 [pI t5X1, pI t5Y1]), (6, .lit 63 [pI v3.x, pI v3.y]), (5006, .row 37 (t32.flatMap Cell.cs))]⟩) (by kernel_rfl) (holds_of ((UU ∧ UU ∧ UU) ∧ (UU ∧ UU)) (by kernel_rfl) ⟨⟨TT, TT, TT⟩, ⟨TT, TT⟩⟩) ?_
        refine Done.mk (thenQ_n ?_)
        refine awp_seq ?_
        refine awp_regionD Try_mixed (orcs := []) (gs := [.keep [0, 3, 4, 5, 6, 105] [5, 6, 5006]]) (s' := ⟨[(0, .p (encL Pt.cs t0)), (3, .own 5006 0 t32.length 2), (4, pI (t4 + 1)), (5, .ptr 5 0), (6, .ptr 6 0), (105, pB ((t4 + 1 : Int) == (t0.length : Int)))], [(5, .lit 63 [pI t5X1, pI t5Y1]), (6, .lit 63 [pI v3.x, pI v3.y]), (5006, .row 37 (t32.flatMap Cell.cs))]⟩) (by kernel_rfl) (holds_of ((UU ∧ UU ∧ UU ∧ UU ∧ UU) ∧ (UU ∧ UU)) (by kernel_rfl) ⟨⟨TT, TT, TT, TT, TT⟩, ⟨TT, TT⟩⟩) ?_
        refine Done.mk (thenQ_n ?_)
        refine ifB_el h (fun k28 h => ?_) (fun k28 h => ?_)
        · refine awp_cond_t (b := (t4 + 1 : Int) == (t0.length : Int)) (by kernel_rfl) k28 ?_
          refine doneExit ?_
          refine Done.gh [.keep [3] [5006], .keep [3] [5006]] (s' := ⟨[(3, .own 5006 0 t32.length 2)], [(5006, .row 37 (t32.flatMap Cell.cs))]⟩) (by kernel_rfl) (holds_of (UU ∧ UU ∧ UU) (by kernel_rfl) ⟨TT, TT, TT⟩) ?_
          refine Done.mk (inB_miss rfl ?_)
          obtain rfl := Option.some.inj h
          exact ⟨fun q => (by cases q), fun q => (by subst q; exact ⟨rfl, by kernel_rfl⟩)⟩
        · refine awp_cond_f (b := (t4 + 1 : Int) == (t0.length : Int)) (by kernel_rfl) k28 ?_
          refine doneSkip ?_
          refine Done.gh [.keep [0, 3, 4, 5, 6] [5, 6, 5006], .ren 5006 5004, .keep [0, 3, 4, 5, 6] [5, 6, 5004]] (s' := ⟨[(0, .p (encL Pt.cs t0)), (3, .own 5004 0 t32.length 2), (4, pI (t4 + 1)), (5, .ptr 5 0), (6, .ptr 6 0)], [(5, .lit 63 [pI t5X1, pI t5Y1]), (6, .lit 63 [pI v3.x, pI v3.y]), (5004, .row 37 (t32.flatMap Cell.cs))]⟩) (by kernel_rfl) (holds_of (UU ∧ UU ∧ UU ∧ UU) (by kernel_rfl) ⟨TT, TT, TT, TT⟩) ?_
          refine Done.mk (inB_n ?_)
          obtain rfl := Option.some.inj h
          exact ⟨rfl, by kernel_rfl⟩
  · have _ := hm
    refine Done.as (e := (Exit.exit 0)) (s := ⟨[(3, .own 5006 0 t35.length 2)], [(5006, .row 37 (t35.flatMap Cell.cs))]⟩) rfl (by kernel_rfl) ?_
    refine Done.mk (inB_hit (thenQ_n ?_))
    refine awp_seq ?_
    refine bind_el h (fun t36 hm h => ?_)
    refine awp_tail (fun _ => Exit.normal) (fun o => match o with | t36 => ⟨[(3, .own 5006 0 t36.length 2)], [(5006, .row 37 (t36.flatMap Cell.cs))]⟩) hm (fun o h => ?_) ?_
    · refine awp_seq ?_
      refine bind_el h (fun t120 hm h => ?_)
      refine awp_tail (fun _ => Exit.normal) (fun o => match o with | t120 => ⟨[(3, .own 5006 0 t35.length 2), (120, pB t120)], [(5006, .row 37 (t35.flatMap Cell.cs))]⟩) hm (fun o h => ?_) ?_
      · refine ifB_el h (fun k29 h => ?_) (fun k29 h => ?_)
        · refine bind_el h (fun c k30 h => ?_)
          replace k30 := getI_el k30
          refine chk_el h (fun k31 h => ?_)
          refine bind_el h (fun c1 k32 h => ?_)
          replace k32 := getI_el k32
          refine awp_regionD Try_mixed (orcs := [(3, tB true), (6, tV (.agg [pI c.x, pI c.y])), (12, tV (.agg [pI c1.x, pI c1.y]))]) (gs := [.keep [3, 120] [5006]]) (s' := ⟨[(3, .own 5006 0 t35.length 2), (120, pB ((c.x == c1.x) && ((c.y == c1.y) && true)))], [(5006, .row 37 (t35.flatMap Cell.cs))]⟩) (by kernel_rfl) (holds_of ((UU ∧ UU ∧ UU ∧ ((UU ∧ some (pB (decide ((t35.length : Int) > (1 : Int)))) = some (pB true))) ∧ UU ∧ ((0 ≤ (0 : Int) ∧ (0 : Int) < (t35.length : Int))) ∧ (rowHas (t35.flatMap Cell.cs) (0 + (0 : Int).toNat * 2) [pI c.x, pI c.y]) ∧ UU ∧ UU ∧ UU ∧ (InR .i64 (((t35.length : Int)) - 1 : Int)) ∧ ((0 ≤ (((t35.length : Int)) - 1 : Int) ∧ (((t35.length : Int)) - 1 : Int) < (t35.length : Int))) ∧ (rowHas (t35.flatMap Cell.cs) (0 + (((t35.length : Int)) - 1 : Int).toNat * 2) [pI c1.x, pI c1.y]) ∧ UU ∧ UU ∧ UU) ∧ (UU ∧ UU)) (by kernel_rfl) ⟨⟨TT, TT, TT, ⟨TT, by rw [k29]⟩, TT, k30.2, row_has Cell.cs_len k30.1 (o := 0) (m := 2) (by omega) (by decide), TT, TT, TT, k31, k32.2, row_has Cell.cs_len k32.1 (o := 0) (m := 2) (by omega) (by decide), TT, TT, TT⟩, ⟨TT, TT⟩⟩) ?_
          refine Done.mk ?_
          obtain rfl := Option.some.inj h
          exact ⟨rfl, by kernel_rfl⟩
        · refine awp_regionD Try_mixed (orcs := [(3, tB false)]) (gs := [.keep [3, 120] [5006]]) (s' := ⟨[(3, .own 5006 0 t35.length 2), (120, pB false)], [(5006, .row 37 (t35.flatMap Cell.cs))]⟩) (by kernel_rfl) (holds_of ((UU ∧ UU ∧ UU ∧ ((UU ∧ some (pB (decide ((t35.length : Int) > (1 : Int)))) = some (pB false))) ∧ UU ∧ UU) ∧ (UU ∧ UU)) (by kernel_rfl) ⟨⟨TT, TT, TT, ⟨TT, by rw [k29]⟩, TT, TT⟩, ⟨TT, TT⟩⟩) ?_
          refine Done.mk ?_
          obtain rfl := Option.some.inj h
          exact ⟨rfl, by kernel_rfl⟩
      · have _ := hm
        refine Done.as (e := Exit.normal) (s := ⟨[(3, .own 5006 0 t35.length 2), (120, pB t120)], [(5006, .row 37 (t35.flatMap Cell.cs))]⟩) rfl (by kernel_rfl) ?_
        refine Done.mk (thenQ_n ?_)
        refine ifB_el h (fun k33 h => ?_) (fun k33 h => ?_)
        · refine awp_cond_t (b := t120) (by kernel_rfl) k33 ?_
          refine chk_el h (fun k34 h => ?_)
          refine chk_el h (fun k35 h => ?_)
          refine awp_regionD Try_mixed (orcs := [(4, tV (.own 5006 0 (t35.take (((t35.length : Int)) - 1 : Int).toNat).length 2))]) (gs := [.cut 5006 ((((t35.length : Int)) - 1 : Int).toNat * 2), .castB 5006 (.row 37 ((t35.take (((t35.length : Int)) - 1 : Int).toNat).flatMap Cell.cs)), .keep [3] [5006]]) (s' := ⟨[(3, .own 5006 0 (t35.take (((t35.length : Int)) - 1 : Int).toNat).length 2)], [(5006, .row 37 ((t35.take (((t35.length : Int)) - 1 : Int).toNat).flatMap Cell.cs))]⟩) (by kernel_rfl) (holds_of ((UU ∧ UU ∧ UU ∧ (InR .i64 (((t35.length : Int)) - 1 : Int)) ∧ (((0 ≤ (((t35.length : Int)) - 1 : Int) ∧ (((t35.length : Int)) - 1 : Int) ≤ (t35.length : Int)) ∧ some (AV.own 5006 0 (((t35.length : Int)) - 1 : Int).toNat 2) = some (AV.own 5006 0 (t35.take (((t35.length : Int)) - 1 : Int).toNat).length 2))) ∧ UU ∧ UU) ∧ (UU ∧ (some (ABlk.row 37 ((t35.flatMap Cell.cs).take ((((t35.length : Int)) - 1 : Int).toNat * 2))) = some (ABlk.row 37 ((t35.take (((t35.length : Int)) - 1 : Int).toNat).flatMap Cell.cs))) ∧ UU ∧ UU)) (by kernel_rfl) ⟨⟨TT, TT, TT, k34, ⟨k35, take_len k35⟩, TT, TT⟩, ⟨TT, (take_rowB Cell.cs_len _ _ _), TT, TT⟩⟩) ?_
          refine Done.mk ?_
          obtain rfl := Option.some.inj h
          exact ⟨rfl, by kernel_rfl⟩
        · refine awp_cond_f (b := t120) (by kernel_rfl) k33 ?_
          refine doneSkip ?_
          refine Done.gh [.keep [3] [5006], .keep [3] [5006]] (s' := ⟨[(3, .own 5006 0 t35.length 2)], [(5006, .row 37 (t35.flatMap Cell.cs))]⟩) (by kernel_rfl) (holds_of (UU ∧ UU ∧ UU) (by kernel_rfl) ⟨TT, TT, TT⟩) ?_
          refine Done.mk ?_
          obtain rfl := Option.some.inj h
          exact ⟨rfl, by kernel_rfl⟩
    · have _ := hm
      refine Done.as (e := Exit.normal) (s := ⟨[(3, .own 5006 0 t36.length 2)], [(5006, .row 37 (t36.flatMap Cell.cs))]⟩) rfl (by kernel_rfl) ?_
      refine Done.mk (thenQ_n ?_)
      refine awp_seq ?_
      refine awp_regionD Try_mixed (orcs := []) (gs := [.keep [2] [5006]]) (s' := ⟨[(2, .own 5006 0 t36.length 2)], [(5006, .row 37 (t36.flatMap Cell.cs))]⟩) (by kernel_rfl) (holds_of ((UU ∧ UU ∧ UU) ∧ (UU ∧ UU)) (by kernel_rfl) ⟨⟨TT, TT, TT⟩, ⟨TT, TT⟩⟩) ?_
      refine Done.mk (thenQ_n ?_)
      refine doneRet ?_
      refine Done.gh [.frz 5006, .keep [2] []] (s' := ⟨[(2, .p (encL Cell.cs t36))], []⟩) (by kernel_rfl) (holds_of (UU ∧ UU ∧ UU) (by kernel_rfl) ⟨TT, TT, TT⟩) ?_
      refine Done.mk (noG_r ?_)
      obtain rfl := Option.some.inj h
      exact ⟨Or.inr rfl, by kernel_rfl, by kernel_rfl⟩
end
end Go.AM
end
section
namespace Go.AM
open Go Go.RowKit Go.Proofs
noncomputable section
set_option maxRecDepth 100000 in
set_option maxHeartbeats 4000000 in
theorem ringwalk_Walk_ok {r_ : Region} {r : (List Track)} (h : ringwalk_Walk r_ = some r) : ASpec Try.prog 10 [.agg [.p (encL Row.cs r_.rows)]] [] (.p (encL Track.cs r)) [] := by
  refine aspec_of Try.func10 (c := _) rfl (by kernel_rfl) (by rw [Try.ntmps10]; exact Nat.le_of_ble_eq_true rfl) ?_
  refine awp_seq ?_
  refine awp_regionD Try_mixed (orcs := []) (gs := [.keep [1] [1]]) (s' := ⟨[(1, .ptr 1 0)], [(1, .lit 24 [.p (encL Row.cs r_.rows)])]⟩) (by kernel_rfl) (holds_of ((UU ∧ UU ∧ UU) ∧ (UU ∧ UU)) (by kernel_rfl) ⟨⟨TT, TT, TT⟩, ⟨TT, TT⟩⟩) ?_
  refine Done.mk (thenQ_n ?_)
  refine awp_seq ?_
  refine awp_regionD Try_mixed (orcs := []) (gs := [.keep [1, 3] [1]]) (s' := ⟨[(1, .ptr 1 0), (3, .nils)], [(1, .lit 24 [.p (encL Row.cs r_.rows)])]⟩) (by kernel_rfl) (holds_of ((UU ∧ UU) ∧ (UU ∧ UU)) (by kernel_rfl) ⟨⟨TT, TT⟩, ⟨TT, TT⟩⟩) ?_
  refine Done.mk (thenQ_n ?_)
  refine awp_seq ?_
  refine awp_seq ?_
  refine bind_el h (fun v k1 h => ?_)
  refine awp_regionD Try_mixed (orcs := [(1, tV (.p (encL Poly.cs v)))]) (gs := [.keep [3, 8, 9, 10] []]) (s' := ⟨[(3, .nils), (8, .p (encL Poly.cs v)), (9, pI ((v.length : Int))), (10, pI 0)], []⟩) (by kernel_rfl) (holds_of ((UU ∧ (ASpec Try.prog 14 [.agg [.p (encL Row.cs r_.rows)]] [] (.p (encL Poly.cs v)) []) ∧ UU ∧ UU ∧ UU) ∧ (UU ∧ UU)) (by kernel_rfl) ⟨⟨TT, boundary_Trace_ok k1, TT, TT, TT⟩, ⟨TT, TT⟩⟩) ?_
  refine Done.mk (thenQ_n ?_)
  refine awp_block ?_
  refine bind_el h (fun out_2 hm h => ?_)
  refine awp_gh [.keep [3, 8, 9, 10] [], .opn 3 5002 35 3, .keep [3, 8, 9, 10] [5002]] (s' := ⟨[(3, .own 5002 0 (([] : List Track)).length 3), (8, .p (encL Poly.cs v)), (9, pI ((v.length : Int))), (10, pI 0)], [(5002, .row 35 ((([] : List Track)).flatMap Track.cs))]⟩) (by kernel_rfl) (holds_of (UU ∧ UU ∧ UU ∧ UU) (by kernel_rfl) ⟨TT, TT, TT, TT⟩) ?_
  refine awp_tail (fun _ => (Exit.exit 0)) (fun o => match o with | out_2 => ⟨[(3, .own 5002 0 out_2.length 3)], [(5002, .row 35 (out_2.flatMap Track.cs))]⟩) hm (fun o h => ?_) ?_
  · refine awp_loop' (fun s => match s with | (out_1, t10) => ⟨[(3, .own 5002 0 out_1.length 3), (8, .p (encL Poly.cs v)), (9, pI ((v.length : Int))), (10, pI t10)], [(5002, .row 35 (out_1.flatMap Track.cs))]⟩) h (by kernel_rfl) (fun s out h => ?_)
    obtain ⟨out_1, t10⟩ := s
    refine awp_seq ?_
    refine awp_regionD Try_mixed (orcs := []) (gs := [.keep [3, 8, 9, 10, 11] [5002]]) (s' := ⟨[(3, .own 5002 0 out_1.length 3), (8, .p (encL Poly.cs v)), (9, pI ((v.length : Int))), (10, pI t10), (11, pB (decide (t10 < (v.length : Int))))], [(5002, .row 35 (out_1.flatMap Track.cs))]⟩) (by kernel_rfl) (holds_of ((UU ∧ UU) ∧ (UU ∧ UU)) (by kernel_rfl) ⟨⟨TT, TT⟩, ⟨TT, TT⟩⟩) ?_
    refine Done.mk (thenQ_n ?_)
    refine awp_seq ?_
    refine ifB_el h (fun k2 h => ?_) (fun k2 h => ?_)
    · refine awp_cond_t (b := decide (t10 < (v.length : Int))) (by kernel_rfl) k2 ?_
      refine doneSkip ?_
      refine Done.mk (thenQ_n ?_)
      refine awp_seq ?_
      refine bind_el h (fun out_ hm h => ?_)
      refine awp_tail (fun _ => Exit.normal) (fun o => match o with | out_ => ⟨[(3, .own 5003 0 out_.length 3), (8, .p (encL Poly.cs v)), (9, pI ((v.length : Int))), (10, pI t10)], [(5003, .row 35 (out_.flatMap Track.cs))]⟩) hm (fun o h => ?_) ?_
      · refine awp_block ?_
        refine awp_seq ?_
        refine bind_el h (fun p_ k3 h => ?_)
        replace k3 := getI_el k3
        refine awp_regionD Try_mixed (orcs := [(1, tV (.agg [.p (encL Pt.cs p_.pts)]))]) (gs := [.keep [3, 5, 8, 9, 10] [5, 5002]]) (s' := ⟨[(3, .own 5002 0 out_1.length 3), (5, .ptr 5 0), (8, .p (encL Poly.cs v)), (9, pI ((v.length : Int))), (10, pI t10)], [(5, .lit 53 [.p (encL Pt.cs p_.pts)]), (5002, .row 35 (out_1.flatMap Track.cs))]⟩) (by kernel_rfl) (holds_of ((((0 ≤ t10 ∧ t10 < (v.length : Int))) ∧ (rowHas (v.flatMap Poly.cs) (t10.toNat * 1) [.p (encL Pt.cs p_.pts)]) ∧ UU ∧ UU ∧ UU) ∧ (UU ∧ UU)) (by kernel_rfl) ⟨⟨k3.2, row_has Poly.cs_len k3.1 (o := 0) (m := 1) (by omega) (by decide), TT, TT, TT⟩, ⟨TT, TT⟩⟩) ?_
        refine Done.mk (thenQ_n ?_)
        refine awp_seq ?_
        refine bind_el h (fun v1 k4 h => ?_)
        refine awp_regionD Try_mixed (orcs := [(2, tV (.p (encL Cell.cs v1)))]) (gs := [.keep [3, 6, 8, 9, 10] [5002]]) (s' := ⟨[(3, .own 5002 0 out_1.length 3), (6, .p (encL Cell.cs v1)), (8, .p (encL Poly.cs v)), (9, pI ((v.length : Int))), (10, pI t10)], [(5002, .row 35 (out_1.flatMap Track.cs))]⟩) (by kernel_rfl) (holds_of ((UU ∧ UU ∧ (ASpec Try.prog 18 [.p (encL Pt.cs p_.pts)] [] (.p (encL Cell.cs v1)) []) ∧ UU ∧ UU) ∧ (UU ∧ UU)) (by kernel_rfl) ⟨⟨TT, TT, ringwalk_walk_ok k4, TT, TT⟩, ⟨TT, TT⟩⟩) ?_
        refine Done.mk (thenQ_n ?_)
        refine awp_seq ?_
        refine awp_regionD Try_mixed (orcs := []) (gs := [.keep [3, 6, 8, 9, 10, 19] [5002]]) (s' := ⟨[(3, .own 5002 0 out_1.length 3), (6, .p (encL Cell.cs v1)), (8, .p (encL Poly.cs v)), (9, pI ((v.length : Int))), (10, pI t10), (19, pB (decide ((v1.length : Int) ≤ (65536 : Int))))], [(5002, .row 35 (out_1.flatMap Track.cs))]⟩) (by kernel_rfl) (holds_of ((UU ∧ UU ∧ UU ∧ UU) ∧ (UU ∧ UU)) (by kernel_rfl) ⟨⟨TT, TT, TT, TT⟩, ⟨TT, TT⟩⟩) ?_
        refine Done.mk (thenQ_n ?_)
        refine ifB_el h (fun k5 h => ?_) (fun k5 h => ?_)
        · refine awp_cond_t (b := decide ((v1.length : Int) ≤ (65536 : Int))) (by kernel_rfl) k5 ?_
          refine chk_el h (fun k6 h => ?_)
          refine awp_regionD Try_mixed (orcs := [(4, tV (.own 24 0 (out_1 ++ ([Track.mk 1 true v1])).length 3))]) (gs := [.castB 24 (.row 35 ((out_1 ++ ([Track.mk 1 true v1])).flatMap Track.cs)), .keep [3, 8, 9, 10] [24]]) (s' := ⟨[(3, .own 24 0 (out_1 ++ ([Track.mk 1 true v1])).length 3), (8, .p (encL Poly.cs v)), (9, pI ((v.length : Int))), (10, pI t10)], [(24, .row 35 ((out_1 ++ ([Track.mk 1 true v1])).flatMap Track.cs))]⟩) (by kernel_rfl) (holds_of ((UU ∧ UU ∧ UU ∧ UU ∧ ((((out_1.flatMap Track.cs).length = out_1.length * 3 ∧ (([Track.mk 1 true v1]).flatMap Track.cs).length = ([Track.mk 1 true v1]).length * 3 ∧ (out_1.length + ([Track.mk 1 true v1]).length) * 40 ≤ 140737488355328 ∧ out_1.length + ([Track.mk 1 true v1]).length ≤ 9223372036854775807) ∧ some (AV.own 24 0 (out_1.length + ([Track.mk 1 true v1]).length) 3) = some (AV.own 24 0 (out_1 ++ ([Track.mk 1 true v1])).length 3))) ∧ UU ∧ UU) ∧ ((some (ABlk.row 35 (out_1.flatMap Track.cs ++ ([Track.mk 1 true v1]).flatMap Track.cs)) = some (ABlk.row 35 ((out_1 ++ ([Track.mk 1 true v1])).flatMap Track.cs))) ∧ UU ∧ UU)) (by kernel_rfl) ⟨⟨TT, TT, TT, TT, ⟨⟨flat_len Track.cs_len _, flat_len Track.cs_len _, by omega, by omega⟩, app_len _ _ _ _⟩, TT, TT⟩, ⟨(app_row Track.cs _ _ _), TT, TT⟩⟩) ?_
          refine Done.gh [.keep [3, 8, 9, 10] [24], .ren 24 5003, .keep [3, 8, 9, 10] [5003]] (s' := ⟨[(3, .own 5003 0 (out_1 ++ ([Track.mk 1 true v1])).length 3), (8, .p (encL Poly.cs v)), (9, pI ((v.length : Int))), (10, pI t10)], [(5003, .row 35 ((out_1 ++ ([Track.mk 1 true v1])).flatMap Track.cs))]⟩) (by kernel_rfl) (holds_of (UU ∧ UU ∧ UU ∧ UU) (by kernel_rfl) ⟨TT, TT, TT, TT⟩) ?_
          refine Done.mk (inB_n ?_)
          obtain rfl := Option.some.inj h
          exact ⟨rfl, by kernel_rfl⟩
        · refine awp_cond_f (b := decide ((v1.length : Int) ≤ (65536 : Int))) (by kernel_rfl) k5 ?_
          refine doneSkip ?_
          refine Done.gh [.keep [3, 8, 9, 10] [5002], .ren 5002 5003, .keep [3, 8, 9, 10] [5003]] (s' := ⟨[(3, .own 5003 0 out_1.length 3), (8, .p (encL Poly.cs v)), (9, pI ((v.length : Int))), (10, pI t10)], [(5003, .row 35 (out_1.flatMap Track.cs))]⟩) (by kernel_rfl) (holds_of (UU ∧ UU ∧ UU ∧ UU) (by kernel_rfl) ⟨TT, TT, TT, TT⟩) ?_
          refine Done.mk (inB_n ?_)
          obtain rfl := Option.some.inj h
          exact ⟨rfl, by kernel_rfl⟩
      · have _ := hm
        refine Done.as (e := Exit.normal) (s := ⟨[(3, .own 5003 0 out_.length 3), (8, .p (encL Poly.cs v)), (9, pI ((v.length : Int))), (10, pI t10)], [(5003, .row 35 (out_.flatMap Track.cs))]⟩) rfl (by kernel_rfl) ?_
        refine Done.mk (thenQ_n ?_)
        refine chk_el h (fun k7 h => ?_)
        refine awp_regionD Try_mixed (orcs := []) (gs := [.keep [3, 8, 9, 10] [5003]]) (s' := ⟨[(3, .own 5003 0 out_.length 3), (8, .p (encL Poly.cs v)), (9, pI ((v.length : Int))), (10, pI (t10 + 1))], [(5003, .row 35 (out_.flatMap Track.cs))]⟩) (by kernel_rfl) (holds_of (((InR .i64 (t10 + 1 : Int)) ∧ UU ∧ UU) ∧ (UU ∧ UU)) (by kernel_rfl) ⟨⟨k7, TT, TT⟩, ⟨TT, TT⟩⟩) ?_
        refine Done.gh [.keep [3, 8, 9, 10] [5003], .ren 5003 5002, .keep [3, 8, 9, 10] [5002]] (s' := ⟨[(3, .own 5002 0 out_.length 3), (8, .p (encL Poly.cs v)), (9, pI ((v.length : Int))), (10, pI (t10 + 1))], [(5002, .row 35 (out_.flatMap Track.cs))]⟩) (by kernel_rfl) (holds_of (UU ∧ UU ∧ UU ∧ UU) (by kernel_rfl) ⟨TT, TT, TT, TT⟩) ?_
        refine Done.mk ?_
        obtain rfl := Option.some.inj h
        exact ⟨rfl, by kernel_rfl⟩
    · refine awp_cond_f (b := decide (t10 < (v.length : Int))) (by kernel_rfl) k2 ?_
      refine doneExit ?_
      refine Done.gh [.keep [3] [5002], .keep [3] [5002]] (s' := ⟨[(3, .own 5002 0 out_1.length 3)], [(5002, .row 35 (out_1.flatMap Track.cs))]⟩) (by kernel_rfl) (holds_of (UU ∧ UU ∧ UU) (by kernel_rfl) ⟨TT, TT, TT⟩) ?_
      refine Done.mk (thenQ_x ?_)
      obtain rfl := Option.some.inj h
      exact ⟨fun q => (by cases q), fun q => (by subst q; exact ⟨rfl, by kernel_rfl⟩)⟩
  · have _ := hm
    refine Done.as (e := (Exit.exit 0)) (s := ⟨[(3, .own 5002 0 out_2.length 3)], [(5002, .row 35 (out_2.flatMap Track.cs))]⟩) rfl (by kernel_rfl) ?_
    refine Done.mk (inB_hit (thenQ_n ?_))
    refine awp_seq ?_
    refine awp_regionD Try_mixed (orcs := []) (gs := [.keep [2] [5002]]) (s' := ⟨[(2, .own 5002 0 out_2.length 3)], [(5002, .row 35 (out_2.flatMap Track.cs))]⟩) (by kernel_rfl) (holds_of ((UU ∧ UU ∧ UU) ∧ (UU ∧ UU)) (by kernel_rfl) ⟨⟨TT, TT, TT⟩, ⟨TT, TT⟩⟩) ?_
    refine Done.mk (thenQ_n ?_)
    refine doneRet ?_
    refine Done.gh [.frz 5002, .keep [2] []] (s' := ⟨[(2, .p (encL Track.cs out_2))], []⟩) (by kernel_rfl) (holds_of (UU ∧ UU ∧ UU) (by kernel_rfl) ⟨TT, TT, TT⟩) ?_
    refine Done.mk ?_
    obtain rfl := Option.some.inj h
    exact ⟨Or.inr rfl, by kernel_rfl, by kernel_rfl⟩
end
end Go.AM
end
section
namespace Go.AM
open Go Go.RowKit Go.Proofs
noncomputable section
set_option maxRecDepth 100000 in
set_option maxHeartbeats 4000000 in
theorem region_Box_ok {t0 : Region} {r : (Cell × Cell × Bool)} (h : region_Box t0 = some r) : ASpec Try.prog 29 [.agg [.p (encL Row.cs t0.rows)]] [] (.tup [.agg [pI r.1.x, pI r.1.y], .agg [pI r.2.1.x, pI r.2.1.y], pB r.2.2]) [] := by
  refine aspec_of Try.func29 (c := _) rfl (by kernel_rfl) (by rw [Try.ntmps29]; exact Nat.le_of_ble_eq_true rfl) ?_
  refine awp_seq ?_
  refine awp_regionD Try_mixed (orcs := []) (gs := [.keep [1, 2, 3] [1, 2, 3]]) (s' := ⟨[(1, .ptr 1 0), (2, .ptr 2 0), (3, .ptr 3 0)], [(1, .lit 24 [.p (encL Row.cs t0.rows)]), (2, .lit 37 [pI 0, pI 0]), (3, .lit 37 [pI 0, pI 0])]⟩) (by kernel_rfl) (holds_of ((UU ∧ UU ∧ UU ∧ UU ∧ UU) ∧ (UU ∧ UU)) (by kernel_rfl) ⟨⟨TT, TT, TT, TT, TT⟩, ⟨TT, TT⟩⟩) ?_
  refine Done.mk (thenQ_n ?_)
  refine awp_seq ?_
  refine awp_seq ?_
  refine bind_el h (fun t17 hm h => ?_)
  refine awp_tail (fun _ => Exit.normal) (fun o => match o with | t17 => ⟨[(1, .ptr 1 0), (2, .ptr 2 0), (3, .ptr 3 0), (17, pB t17)], [(1, .lit 24 [.p (encL Row.cs t0.rows)]), (2, .lit 37 [pI 0, pI 0]), (3, .lit 37 [pI 0, pI 0])]⟩) hm (fun o h => ?_) ?_
  · refine bind_el h (fun b k1 h => ?_)
    refine ifB_el h (fun k2 h => ?_) (fun k2 h => ?_)
    · refine awp_regionD Try_mixed (orcs := [(1, tV (pB b)), (3, tB true)]) (gs := [.keep [1, 2, 3, 17] [1, 2, 3]]) (s' := ⟨[(1, .ptr 1 0), (2, .ptr 2 0), (3, .ptr 3 0), (17, pB true)], [(1, .lit 24 [.p (encL Row.cs t0.rows)]), (2, .lit 37 [pI 0, pI 0]), (3, .lit 37 [pI 0, pI 0])]⟩) (by kernel_rfl) (holds_of ((UU ∧ (ASpec Try.prog 24 [.agg [.p (encL Row.cs t0.rows)]] [] (pB b) []) ∧ UU ∧ ((UU ∧ some (pB (!b)) = some (pB true))) ∧ UU ∧ UU) ∧ (UU ∧ UU)) (by kernel_rfl) ⟨⟨TT, region_Valid_ok k1, TT, ⟨TT, by rw [k2]⟩, TT, TT⟩, ⟨TT, TT⟩⟩) ?_
      refine Done.mk ?_
      obtain rfl := Option.some.inj h
      exact ⟨rfl, by kernel_rfl⟩
    · refine awp_regionD Try_mixed (orcs := [(1, tV (pB b)), (3, tB false)]) (gs := [.keep [1, 2, 3, 17] [1, 2, 3]]) (s' := ⟨[(1, .ptr 1 0), (2, .ptr 2 0), (3, .ptr 3 0), (17, pB ((t0.rows.length : Int) == (0 : Int)))], [(1, .lit 24 [.p (encL Row.cs t0.rows)]), (2, .lit 37 [pI 0, pI 0]), (3, .lit 37 [pI 0, pI 0])]⟩) (by kernel_rfl) (holds_of ((UU ∧ (ASpec Try.prog 24 [.agg [.p (encL Row.cs t0.rows)]] [] (pB b) []) ∧ UU ∧ ((UU ∧ some (pB (!b)) = some (pB false))) ∧ UU ∧ UU ∧ UU ∧ UU ∧ UU ∧ UU) ∧ (UU ∧ UU)) (by kernel_rfl) ⟨⟨TT, region_Valid_ok k1, TT, ⟨TT, by rw [k2]⟩, TT, TT, TT, TT, TT, TT⟩, ⟨TT, TT⟩⟩) ?_
      refine Done.mk ?_
      obtain rfl := Option.some.inj h
      exact ⟨rfl, by kernel_rfl⟩
  · have _ := hm
    refine Done.as (e := Exit.normal) (s := ⟨[(1, .ptr 1 0), (2, .ptr 2 0), (3, .ptr 3 0), (17, pB t17)], [(1, .lit 24 [.p (encL Row.cs t0.rows)]), (2, .lit 37 [pI 0, pI 0]), (3, .lit 37 [pI 0, pI 0])]⟩) rfl (by kernel_rfl) ?_
    refine Done.mk (thenQ_n ?_)
    refine ifB_el h (fun k3 h => ?_) (fun k3 h => ?_)
    · refine awp_cond_t (b := t17) (by kernel_rfl) k3 ?_
      refine awp_seq ?_
      refine awp_regionD Try_mixed (orcs := []) (gs := [.keep [2, 3, 4] [2, 3]]) (s' := ⟨[(2, .ptr 2 0), (3, .ptr 3 0), (4, pB false)], [(2, .lit 37 [pI 0, pI 0]), (3, .lit 37 [pI 0, pI 0])]⟩) (by kernel_rfl) (holds_of ((UU ∧ UU ∧ UU ∧ UU ∧ UU ∧ UU) ∧ (UU ∧ UU)) (by kernel_rfl) ⟨⟨TT, TT, TT, TT, TT, TT⟩, ⟨TT, TT⟩⟩) ?_
      refine Done.mk (thenQ_n ?_)
      refine doneRet ?_
      refine Done.mk (thenQ_r ?_)
      obtain rfl := Option.some.inj h
      exact ⟨Or.inr rfl, by kernel_rfl, by kernel_rfl⟩
    · refine awp_cond_f (b := t17) (by kernel_rfl) k3 ?_
      refine doneSkip ?_
      refine Done.mk (thenQ_n ?_)
      refine awp_seq ?_
      refine bind_el h (fun r_ k4 h => ?_)
      replace k4 := getI_el k4
      refine awp_regionD Try_mixed (orcs := [(4, tV (pI r_.y))]) (gs := [.keep [1, 2, 3, 5] [1, 2, 3, 5]]) (s' := ⟨[(1, .ptr 1 0), (2, .ptr 2 0), (3, .ptr 3 0), (5, .ptr 5 0)], [(1, .lit 24 [.p (encL Row.cs t0.rows)]), (2, .lit 37 [pI 0, pI 0]), (3, .lit 37 [pI 0, pI 0]), (5, .lit 37 [pI 4096, pI r_.y])]⟩) (by kernel_rfl) (holds_of ((UU ∧ UU ∧ ((0 ≤ (0 : Int) ∧ (0 : Int) < (t0.rows.length : Int))) ∧ UU ∧ ((t0.rows.flatMap Row.cs)[(0 : Int).toNat * 2]? = some (vI r_.y)) ∧ UU ∧ UU ∧ UU ∧ UU) ∧ (UU ∧ UU)) (by kernel_rfl) ⟨⟨TT, TT, k4.2, TT, row_at Row.cs_len k4.1 (j := 0) (by omega) (by decide), TT, TT, TT, TT⟩, ⟨TT, TT⟩⟩) ?_
      refine Done.mk (thenQ_n ?_)
      refine awp_seq ?_
      refine chk_el h (fun k5 h => ?_)
      refine bind_el h (fun r_1 k6 h => ?_)
      replace k6 := getI_el k6
      refine awp_regionD Try_mixed (orcs := [(8, tV (pI r_1.y))]) (gs := [.keep [1, 2, 3, 5, 6] [1, 2, 3, 5, 6]]) (s' := ⟨[(1, .ptr 1 0), (2, .ptr 2 0), (3, .ptr 3 0), (5, .ptr 5 0), (6, .ptr 6 0)], [(1, .lit 24 [.p (encL Row.cs t0.rows)]), (2, .lit 37 [pI 0, pI 0]), (3, .lit 37 [pI 0, pI 0]), (5, .lit 37 [pI 4096, pI r_.y]), (6, .lit 37 [pI (-4096), pI r_1.y])]⟩) (by kernel_rfl) (holds_of ((UU ∧ UU ∧ UU ∧ UU ∧ UU ∧ (InR .i64 (((t0.rows.length : Int)) - 1 : Int)) ∧ ((0 ≤ (((t0.rows.length : Int)) - 1 : Int) ∧ (((t0.rows.length : Int)) - 1 : Int) < (t0.rows.length : Int))) ∧ UU ∧ ((t0.rows.flatMap Row.cs)[(((t0.rows.length : Int)) - 1 : Int).toNat * 2]? = some (vI r_1.y)) ∧ UU ∧ UU ∧ UU ∧ UU) ∧ (UU ∧ UU)) (by kernel_rfl) ⟨⟨TT, TT, TT, TT, TT, k5, k6.2, TT, row_at Row.cs_len k6.1 (j := 0) (by omega) (by decide), TT, TT, TT, TT⟩, ⟨TT, TT⟩⟩) ?_
      refine Done.mk (thenQ_n ?_)
      refine awp_seq ?_
      refine awp_seq ?_
      refine awp_regionD Try_mixed (orcs := []) (gs := [.keep [2, 3, 5, 6, 37, 38, 39] [2, 3, 5, 6]]) (s' := ⟨[(2, .ptr 2 0), (3, .ptr 3 0), (5, .ptr 5 0), (6, .ptr 6 0), (37, .p (encL Row.cs t0.rows)), (38, pI ((t0.rows.length : Int))), (39, pI 0)], [(2, .lit 37 [pI 0, pI 0]), (3, .lit 37 [pI 0, pI 0]), (5, .lit 37 [pI 4096, pI r_.y]), (6, .lit 37 [pI (-4096), pI r_1.y])]⟩) (by kernel_rfl) (holds_of ((UU ∧ UU ∧ UU ∧ UU ∧ UU) ∧ (UU ∧ UU)) (by kernel_rfl) ⟨⟨TT, TT, TT, TT, TT⟩, ⟨TT, TT⟩⟩) ?_
      refine Done.mk (thenQ_n ?_)
      refine awp_block ?_
      refine bind_el h (fun o hm h => ?_)
      refine awp_gh [.keep [2, 3, 5, 6, 37, 38, 39] [2, 3, 5, 6], .keep [2, 3, 5, 6, 37, 38, 39] [2, 3, 5, 6]] (s' := ⟨[(2, .ptr 2 0), (3, .ptr 3 0), (5, .ptr 5 0), (6, .ptr 6 0), (37, .p (encL Row.cs t0.rows)), (38, pI ((t0.rows.length : Int))), (39, pI 0)], [(2, .lit 37 [pI 0, pI 0]), (3, .lit 37 [pI 0, pI 0]), (5, .lit 37 [pI 4096, pI r_.y]), (6, .lit 37 [pI (-4096), pI r_1.y])]⟩) (by kernel_rfl) (holds_of (UU ∧ UU ∧ UU) (by kernel_rfl) ⟨TT, TT, TT⟩) ?_
      refine awp_tail (fun _ => (Exit.exit 0)) (fun o => match o with | (t5X1, t6X1) => ⟨[(2, .ptr 2 0), (3, .ptr 3 0), (5, .ptr 5 0), (6, .ptr 6 0)], [(2, .lit 37 [pI 0, pI 0]), (3, .lit 37 [pI 0, pI 0]), (5, .lit 37 [pI t5X1, pI r_.y]), (6, .lit 37 [pI t6X1, pI r_1.y])]⟩) hm (fun o h => ?_) ?_
      · refine awp_loop' (fun s => match s with | (t39, t5X, t6X) => ⟨[(2, .ptr 2 0), (3, .ptr 3 0), (5, .ptr 5 0), (6, .ptr 6 0), (37, .p (encL Row.cs t0.rows)), (38, pI ((t0.rows.length : Int))), (39, pI t39)], [(2, .lit 37 [pI 0, pI 0]), (3, .lit 37 [pI 0, pI 0]), (5, .lit 37 [pI t5X, pI r_.y]), (6, .lit 37 [pI t6X, pI r_1.y])]⟩) h (by kernel_rfl) (fun s out h => ?_)
        obtain ⟨t39, t5X, t6X⟩ := s
        refine awp_seq ?_
        refine awp_regionD Try_mixed (orcs := []) (gs := [.keep [2, 3, 5, 6, 37, 38, 39, 40] [2, 3, 5, 6]]) (s' := ⟨[(2, .ptr 2 0), (3, .ptr 3 0), (5, .ptr 5 0), (6, .ptr 6 0), (37, .p (encL Row.cs t0.rows)), (38, pI ((t0.rows.length : Int))), (39, pI t39), (40, pB (decide (t39 < (t0.rows.length : Int))))], [(2, .lit 37 [pI 0, pI 0]), (3, .lit 37 [pI 0, pI 0]), (5, .lit 37 [pI t5X, pI r_.y]), (6, .lit 37 [pI t6X, pI r_1.y])]⟩) (by kernel_rfl) (holds_of ((UU ∧ UU) ∧ (UU ∧ UU)) (by kernel_rfl) ⟨⟨TT, TT⟩, ⟨TT, TT⟩⟩) ?_
        refine Done.mk (thenQ_n ?_)
        refine awp_seq ?_
        refine ifB_el h (fun k7 h => ?_) (fun k7 h => ?_)
        · refine awp_cond_t (b := decide (t39 < (t0.rows.length : Int))) (by kernel_rfl) k7 ?_
          refine doneSkip ?_
          refine Done.mk (thenQ_n ?_)
          refine awp_seq ?_
          refine awp_block ?_
          refine awp_seq ?_
          refine bind_el h (fun r_2 k8 h => ?_)
          replace k8 := getI_el k8
          refine awp_regionD Try_mixed (orcs := [(1, tV (.agg [pI r_2.y, .p (encL Run.cs r_2.runs)]))]) (gs := [.keep [2, 3, 5, 6, 8, 37, 38, 39] [2, 3, 5, 6, 8]]) (s' := ⟨[(2, .ptr 2 0), (3, .ptr 3 0), (5, .ptr 5 0), (6, .ptr 6 0), (8, .ptr 8 0), (37, .p (encL Row.cs t0.rows)), (38, pI ((t0.rows.length : Int))), (39, pI t39)], [(2, .lit 37 [pI 0, pI 0]), (3, .lit 37 [pI 0, pI 0]), (5, .lit 37 [pI t5X, pI r_.y]), (6, .lit 37 [pI t6X, pI r_1.y]), (8, .lit 48 [pI r_2.y, .p (encL Run.cs r_2.runs)])]⟩) (by kernel_rfl) (holds_of ((((0 ≤ t39 ∧ t39 < (t0.rows.length : Int))) ∧ (rowHas (t0.rows.flatMap Row.cs) (t39.toNat * 2) [pI r_2.y, .p (encL Run.cs r_2.runs)]) ∧ UU ∧ UU ∧ UU) ∧ (UU ∧ UU)) (by kernel_rfl) ⟨⟨k8.2, row_has Row.cs_len k8.1 (o := 0) (m := 2) (by omega) (by decide), TT, TT, TT⟩, ⟨TT, TT⟩⟩) ?_
          refine Done.mk (thenQ_n ?_)
          refine awp_seq ?_
          refine bind_el h (fun r_3 k9 h => ?_)
          replace k9 := getI_el k9
          refine awp_regionD Try_mixed (orcs := [(6, tV (pI r_3.frm))]) (gs := [.keep [2, 3, 5, 6, 8, 37, 38, 39] [2, 3, 5, 6, 8]]) (s' := ⟨[(2, .ptr 2 0), (3, .ptr 3 0), (5, .ptr 5 0), (6, .ptr 6 0), (8, .ptr 8 0), (37, .p (encL Row.cs t0.rows)), (38, pI ((t0.rows.length : Int))), (39, pI t39)], [(2, .lit 37 [pI 0, pI 0]), (3, .lit 37 [pI 0, pI 0]), (5, .lit 37 [pI (min t5X r_3.frm), pI r_.y]), (6, .lit 37 [pI t6X, pI r_1.y]), (8, .lit 48 [pI r_2.y, .p (encL Run.cs r_2.runs)])]⟩) (by kernel_rfl) (holds_of ((UU ∧ UU ∧ UU ∧ UU ∧ ((0 ≤ (0 : Int) ∧ (0 : Int) < (r_2.runs.length : Int))) ∧ UU ∧ ((r_2.runs.flatMap Run.cs)[(0 : Int).toNat * 2]? = some (vI r_3.frm)) ∧ UU ∧ UU ∧ UU ∧ UU) ∧ (UU ∧ UU)) (by kernel_rfl) ⟨⟨TT, TT, TT, TT, k9.2, TT, row_at Run.cs_len k9.1 (j := 0) (by omega) (by decide), TT, TT, TT, TT⟩, ⟨TT, TT⟩⟩) ?_
          refine Done.mk (thenQ_n ?_)
          refine chk_el h (fun k10 h => ?_)
          refine bind_el h (fun r_4 k11 h => ?_)
          replace k11 := getI_el k11
          refine chk_el h (fun k12 h => ?_)
          refine awp_regionD Try_mixed (orcs := [(10, tV (pI r_4.to))]) (gs := [.keep [2, 3, 5, 6, 37, 38, 39] [2, 3, 5, 6]]) (s' := ⟨[(2, .ptr 2 0), (3, .ptr 3 0), (5, .ptr 5 0), (6, .ptr 6 0), (37, .p (encL Row.cs t0.rows)), (38, pI ((t0.rows.length : Int))), (39, pI t39)], [(2, .lit 37 [pI 0, pI 0]), (3, .lit 37 [pI 0, pI 0]), (5, .lit 37 [pI (min t5X r_3.frm), pI r_.y]), (6, .lit 37 [pI (max t6X (r_4.to - 1 : Int)), pI r_1.y])]⟩) (by kernel_rfl) (holds_of ((UU ∧ UU ∧ UU ∧ UU ∧ UU ∧ UU ∧ UU ∧ (InR .i64 (((r_2.runs.length : Int)) - 1 : Int)) ∧ ((0 ≤ (((r_2.runs.length : Int)) - 1 : Int) ∧ (((r_2.runs.length : Int)) - 1 : Int) < (r_2.runs.length : Int))) ∧ UU ∧ ((r_2.runs.flatMap Run.cs)[(((r_2.runs.length : Int)) - 1 : Int).toNat * 2 + 1]? = some (vI r_4.to)) ∧ (InR .i64 (r_4.to - 1 : Int)) ∧ UU ∧ UU ∧ UU ∧ UU) ∧ (UU ∧ UU)) (by kernel_rfl) ⟨⟨TT, TT, TT, TT, TT, TT, TT, k10, k11.2, TT, row_at Run.cs_len k11.1 (j := 1) (by omega) (by decide), k12, TT, TT, TT, TT⟩, ⟨TT, TT⟩⟩) ?_
          refine Done.mk (inB_n (thenQ_n ?_))
          refine chk_el h (fun k13 h => ?_)
          refine awp_regionD Try_mixed (orcs := []) (gs := [.keep [2, 3, 5, 6, 37, 38, 39] [2, 3, 5, 6]]) (s' := ⟨[(2, .ptr 2 0), (3, .ptr 3 0), (5, .ptr 5 0), (6, .ptr 6 0), (37, .p (encL Row.cs t0.rows)), (38, pI ((t0.rows.length : Int))), (39, pI (t39 + 1))], [(2, .lit 37 [pI 0, pI 0]), (3, .lit 37 [pI 0, pI 0]), (5, .lit 37 [pI (min t5X r_3.frm), pI r_.y]), (6, .lit 37 [pI (max t6X (r_4.to - 1 : Int)), pI r_1.y])]⟩) (by kernel_rfl) (holds_of (((InR .i64 (t39 + 1 : Int)) ∧ UU ∧ UU) ∧ (UU ∧ UU)) (by kernel_rfl) ⟨⟨k13, TT, TT⟩, ⟨TT, TT⟩⟩) ?_
          refine Done.mk ?_
          obtain rfl := Option.some.inj h
          exact ⟨rfl, by kernel_rfl⟩
        · refine awp_cond_f (b := decide (t39 < (t0.rows.length : Int))) (by kernel_rfl) k7 ?_
          refine doneExit ?_
          refine Done.gh [.keep [2, 3, 5, 6] [2, 3, 5, 6], .keep [2, 3, 5, 6] [2, 3, 5, 6]] (s' := ⟨[(2, .ptr 2 0), (3, .ptr 3 0), (5, .ptr 5 0), (6, .ptr 6 0)], [(2, .lit 37 [pI 0, pI 0]), (3, .lit 37 [pI 0, pI 0]), (5, .lit 37 [pI t5X, pI r_.y]), (6, .lit 37 [pI t6X, pI r_1.y])]⟩) (by kernel_rfl) (holds_of (UU ∧ UU ∧ UU) (by kernel_rfl) ⟨TT, TT, TT⟩) ?_
          refine Done.mk (thenQ_x ?_)
          obtain rfl := Option.some.inj h
          exact ⟨fun q => (by cases q), fun q => (by subst q; exact ⟨rfl, by kernel_rfl⟩)⟩
      · obtain ⟨t5X1, t6X1⟩ := o
        refine Done.as (e := (Exit.exit 0)) (s := ⟨[(2, .ptr 2 0), (3, .ptr 3 0), (5, .ptr 5 0), (6, .ptr 6 0)], [(2, .lit 37 [pI 0, pI 0]), (3, .lit 37 [pI 0, pI 0]), (5, .lit 37 [pI t5X1, pI r_.y]), (6, .lit 37 [pI t6X1, pI r_1.y])]⟩) rfl (by kernel_rfl) ?_
        refine Done.mk (inB_hit (thenQ_n ?_))
        refine awp_seq ?_
        refine awp_regionD Try_mixed (orcs := []) (gs := [.keep [2, 3, 4] [2, 3]]) (s' := ⟨[(2, .ptr 2 0), (3, .ptr 3 0), (4, pB true)], [(2, .lit 37 [pI t5X1, pI r_.y]), (3, .lit 37 [pI t6X1, pI r_1.y])]⟩) (by kernel_rfl) (holds_of ((UU ∧ UU ∧ UU ∧ UU ∧ UU ∧ UU) ∧ (UU ∧ UU)) (by kernel_rfl) ⟨⟨TT, TT, TT, TT, TT, TT⟩, ⟨TT, TT⟩⟩) ?_
        refine Done.mk (thenQ_n ?_)
        refine doneRet ?_
        refine Done.mk ?_
        obtain rfl := Option.some.inj h
        exact ⟨Or.inr rfl, by kernel_rfl, by kernel_rfl⟩
end
end Go.AM
end
section
namespace Go.AM
open Go Go.RowKit Go.Proofs
noncomputable section
set_option maxRecDepth 100000 in
set_option maxHeartbeats 4000000 in
theorem region_near_ok {d : Int} {r : Bool} (h : region_near d = some r) : ASpec Try.prog 30 [pI d] [] (pB r) [] := by
  refine aspec_of Try.func30 (c := _) rfl (by kernel_rfl) (by rw [Try.ntmps30]; exact Nat.le_of_ble_eq_true rfl) ?_
  refine awp_seq ?_
  refine awp_regionD Try_mixed (orcs := []) (gs := [.keep [0] []]) (s' := ⟨[(0, pI d)], []⟩) (by kernel_rfl) (holds_of ((UU ∧ UU) ∧ (UU ∧ UU)) (by kernel_rfl) ⟨⟨TT, TT⟩, ⟨TT, TT⟩⟩) ?_
  refine Done.mk (thenQ_n ?_)
  refine awp_seq ?_
  refine bind_el h (fun t2 hm h => ?_)
  refine awp_tail (fun _ => Exit.normal) (fun o => match o with | t2 => ⟨[(2, pB t2)], []⟩) hm (fun o h => ?_) ?_
  · refine ifB_el h (fun k1 h => ?_) (fun k1 h => ?_)
    · refine awp_regionD Try_mixed (orcs := [(2, tB true)]) (gs := [.keep [2] []]) (s' := ⟨[(2, pB (decide (d ≤ (8192 : Int))))], []⟩) (by kernel_rfl) (holds_of ((UU ∧ UU ∧ ((UU ∧ some (pB (decide (d ≥ (-8192 : Int)))) = some (pB true))) ∧ UU ∧ UU ∧ UU ∧ UU ∧ UU) ∧ (UU ∧ UU)) (by kernel_rfl) ⟨⟨TT, TT, ⟨TT, by rw [k1]⟩, TT, TT, TT, TT, TT⟩, ⟨TT, TT⟩⟩) ?_
      refine Done.mk ?_
      obtain rfl := Option.some.inj h
      exact ⟨rfl, by kernel_rfl⟩
    · refine awp_regionD Try_mixed (orcs := [(2, tB false)]) (gs := [.keep [2] []]) (s' := ⟨[(2, pB false)], []⟩) (by kernel_rfl) (holds_of ((UU ∧ UU ∧ ((UU ∧ some (pB (decide (d ≥ (-8192 : Int)))) = some (pB false))) ∧ UU ∧ UU ∧ UU) ∧ (UU ∧ UU)) (by kernel_rfl) ⟨⟨TT, TT, ⟨TT, by rw [k1]⟩, TT, TT, TT⟩, ⟨TT, TT⟩⟩) ?_
      refine Done.mk ?_
      obtain rfl := Option.some.inj h
      exact ⟨rfl, by kernel_rfl⟩
  · have _ := hm
    refine Done.as (e := Exit.normal) (s := ⟨[(2, pB t2)], []⟩) rfl (by kernel_rfl) ?_
    refine Done.mk (thenQ_n ?_)
    refine doneRet ?_
    refine Done.mk ?_
    obtain rfl := Option.some.inj h
    exact ⟨Or.inr rfl, by kernel_rfl, by kernel_rfl⟩
end
end Go.AM
end
