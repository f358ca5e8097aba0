/- Models of functions, and that their calls do what the models say. Printed by gen.py. -/
import Derived.Test.YtijdlphadhpabaaProg
import Derived.Test.YtijdlphadhpabaaA3
import Derived.Test.YtijdlphadhpabaaA6
import Derived.Test.YtijdlphadhpabaaA1
import Derived.Test.YtijdlphadhpabaaA8
import Derived.Test.YtijdlphadhpabaaA5
import Derived.Test.YtijdlphadhpabaaA7
import Derived.Test.YtijdlphadhpabaaA2
import Derived.Test.YtijdlphadhpabaaA4
import Derived.Test.YtijdlphadhpabaaF1
import Derived.Test.YtijdlphadhpabaaF4
import Derived.Test.YtijdlphadhpabaaA9
import Derived.Test.YtijdlphadhpabaaF2
section
namespace Go.AM
open Go Go.RowKit Go.Proofs
noncomputable section
set_option maxRecDepth 100000 in
set_option maxHeartbeats 4000000 in
theorem boundary_heading_right_ok {h_ : Int} {r : Int} (h : boundary_heading_right h_ = some r) : ASpec Try.prog 52 [pI h_] [] (pI r) [] := by
  refine aspec_of Try.func52 (c := _) rfl (by kernel_rfl) (by rw [Try.ntmps52]; exact Nat.le_of_ble_eq_true rfl) ?_
  refine awp_seq ?_
  refine awp_regionD Try_mixed (orcs := []) (gs := [.keep [0] []]) (s' := ⟨[(0, pI h_)], []⟩) (by kernel_rfl) (holds_of ((UU ∧ UU) ∧ (UU ∧ UU)) (by kernel_rfl) ⟨⟨TT, TT⟩, ⟨TT, TT⟩⟩) ?_
  refine Done.mk (thenQ_n ?_)
  refine awp_seq ?_
  refine chk_el h (fun k1 h => ?_)
  refine awp_regionD Try_mixed (orcs := []) (gs := [.keep [2] []]) (s' := ⟨[(2, pI ((h_ + 3 : Int).tmod (4 : Int)))], []⟩) (by kernel_rfl) (holds_of ((UU ∧ (InR .i64 (h_ + 3 : Int)) ∧ ((4 : Int) ≠ 0) ∧ UU ∧ UU) ∧ (UU ∧ UU)) (by kernel_rfl) ⟨⟨TT, k1, by decide, TT, TT⟩, ⟨TT, TT⟩⟩) ?_
  refine Done.mk (thenQ_n ?_)
  refine doneRet ?_
  refine Done.mk ?_
  obtain rfl := Option.some.inj h
  exact ⟨Or.inr rfl, by kernel_rfl, by kernel_rfl⟩
end
end Go.AM
end
section
namespace Go.AM
open Go Go.RowKit Go.Proofs
noncomputable section
set_option maxRecDepth 100000 in
set_option maxHeartbeats 4000000 in
theorem slices_Contains_ok {s_ : (List Int)} {v : Int} {r : Bool} (h : slices_Contains s_ v = some r) : ASpec Try.prog 53 [.p (encL iC s_), pI v] [] (pB r) [] := by
  refine aspec_of Try.func53 (c := _) rfl (by kernel_rfl) (by rw [Try.ntmps53]; exact Nat.le_of_ble_eq_true rfl) ?_
  refine awp_seq ?_
  refine awp_regionD Try_mixed (orcs := []) (gs := [.keep [0, 1] []]) (s' := ⟨[(0, .p (encL iC s_)), (1, pI v)], []⟩) (by kernel_rfl) (holds_of ((UU ∧ UU) ∧ (UU ∧ UU)) (by kernel_rfl) ⟨⟨TT, TT⟩, ⟨TT, TT⟩⟩) ?_
  refine Done.mk (thenQ_n ?_)
  refine awp_seq ?_
  refine bind_el h (fun n k1 h => ?_)
  refine awp_regionD Try_mixed (orcs := [(2, tV (pI n))]) (gs := [.keep [4] []]) (s' := ⟨[(4, pB (decide (n ≥ (0 : Int))))], []⟩) (by kernel_rfl) (holds_of ((UU ∧ UU ∧ (ASpec Try.prog 73 [.p (encL iC s_), pI v] [] (pI n) []) ∧ UU ∧ UU ∧ UU) ∧ (UU ∧ UU)) (by kernel_rfl) ⟨⟨TT, TT, slices_Index_ok k1, TT, TT, TT⟩, ⟨TT, TT⟩⟩) ?_
  refine Done.mk (thenQ_n ?_)
  refine doneRet ?_
  refine Done.mk ?_
  obtain rfl := Option.some.inj h
  exact ⟨Or.inr rfl, by kernel_rfl, by kernel_rfl⟩
end
end Go.AM
end
section
namespace Go.AM
open Go Go.RowKit Go.Proofs
noncomputable section
set_option maxRecDepth 100000 in
set_option maxHeartbeats 4000000 in
theorem boundary_cracks_walk_ok {c : (List (Pt × (List Int)))} {start : Pt} {r : (Poly × (List (Pt × (List Int))))} (h : boundary_cracks_walk c start = some r) : ASpec Try.prog 28 [.map 0, .agg [pI start.x, pI start.y]] [(0, .ptab 2 (encT keyPt (encL iC) c))] (.agg [.p (encL Pt.cs r.1.pts)]) [(0, .ptab 2 (encT keyPt (encL iC) r.2))] := by
  refine aspec_of Try.func28 (c := _) rfl (by kernel_rfl) (by rw [Try.ntmps28]; exact Nat.le_of_ble_eq_true rfl) ?_
  refine awp_seq ?_
  refine awp_regionD Try_mixed (orcs := []) (gs := [.keep [0, 3, 4] [0, 3, 4]]) (s' := ⟨[(0, .map 0), (3, .ptr 3 0), (4, .ptr 4 0)], [(0, .ptab 2 (encT keyPt (encL iC) c)), (3, .lit 63 [pI start.x, pI start.y]), (4, .lit 53 [.nils])]⟩) (by kernel_rfl) (holds_of ((UU ∧ UU ∧ UU) ∧ (UU ∧ UU)) (by kernel_rfl) ⟨⟨TT, TT, TT⟩, ⟨TT, TT⟩⟩) ?_
  refine Done.mk (thenQ_n ?_)
  refine awp_seq ?_
  refine awp_regionD Try_mixed (orcs := [(1, { own := true })]) (gs := [.keep [0, 3, 4, 5] [0, 3, 4, 5, 11]]) (s' := ⟨[(0, .map 0), (3, .ptr 3 0), (4, .ptr 4 0), (5, .ptr 5 0)], [(0, .ptab 2 (encT keyPt (encL iC) c)), (3, .lit 63 [pI start.x, pI start.y]), (4, .lit 53 [.nils]), (5, .lit 53 [.own 11 0 ([start]).length 2]), (11, .row 63 (([start]).flatMap Pt.cs))]⟩) (by kernel_rfl) (holds_of ((UU ∧ UU ∧ UU ∧ UU ∧ UU ∧ UU) ∧ (UU ∧ UU)) (by kernel_rfl) ⟨⟨TT, TT, TT, TT, TT, TT⟩, ⟨TT, TT⟩⟩) ?_
  refine Done.mk (thenQ_n ?_)
  refine awp_seq ?_
  refine bind_el h (fun h_ k1 h => ?_)
  replace k1 := getI_el k1
  refine awp_regionD Try_mixed (orcs := [(2, tV (.p (encL iC (getT ([] : (List Int)) start c)))), (4, tV (pI h_))]) (gs := [.keep [0, 3, 4, 5, 6] [0, 3, 4, 5, 11]]) (s' := ⟨[(0, .map 0), (3, .ptr 3 0), (4, .ptr 4 0), (5, .ptr 5 0), (6, pI h_)], [(0, .ptab 2 (encT keyPt (encL iC) c)), (3, .lit 63 [pI start.x, pI start.y]), (4, .lit 53 [.nils]), (5, .lit 53 [.own 11 0 ([start]).length 2]), (11, .row 63 (([start]).flatMap Pt.cs))]⟩) (by kernel_rfl) (holds_of ((UU ∧ UU ∧ ((UU ∧ some (AV.p ((tGet (keyPt start) (encT keyPt (encL iC) c)).getD ((encL iC) []))) = some (AV.p (encL iC (getT ([] : (List Int)) start c))))) ∧ ((0 ≤ (0 : Int) ∧ (0 : Int) < ((getT ([] : (List Int)) start c).length : Int))) ∧ (((getT ([] : (List Int)) start c).flatMap iC)[(0 : Int).toNat * 1]? = some (vI h_)) ∧ UU ∧ UU) ∧ (UU ∧ UU)) (by kernel_rfl) ⟨⟨TT, TT, ⟨TT, get_told keyPt_inj _ _ _ _⟩, k1.2, row_at iC_len k1.1 (j := 0) (by omega) (by decide), TT, TT⟩, ⟨TT, TT⟩⟩) ?_
  refine Done.mk (thenQ_n ?_)
  refine awp_seq ?_
  refine awp_regionD Try_mixed (orcs := []) (gs := [.keep [0, 3, 4, 5, 6, 7] [0, 3, 4, 5, 7, 11]]) (s' := ⟨[(0, .map 0), (3, .ptr 3 0), (4, .ptr 4 0), (5, .ptr 5 0), (6, pI h_), (7, .ptr 7 0)], [(0, .ptab 2 (encT keyPt (encL iC) c)), (3, .lit 63 [pI start.x, pI start.y]), (4, .lit 53 [.nils]), (5, .lit 53 [.own 11 0 ([start]).length 2]), (7, .lit 63 [pI start.x, pI start.y]), (11, .row 63 (([start]).flatMap Pt.cs))]⟩) (by kernel_rfl) (holds_of ((UU ∧ UU ∧ UU ∧ UU) ∧ (UU ∧ UU)) (by kernel_rfl) ⟨⟨TT, TT, TT, TT⟩, ⟨TT, TT⟩⟩) ?_
  refine Done.mk (thenQ_n ?_)
  refine awp_seq ?_
  refine awp_block ?_
  refine bind_el h (fun o hm h => ?_)
  refine awp_gh [.keep [0, 3, 4, 5, 6, 7] [0, 3, 4, 5, 7, 11], .ren 11 5005, .keep [0, 3, 4, 5, 6, 7] [0, 3, 4, 5, 7, 5005]] (s' := ⟨[(0, .map 0), (3, .ptr 3 0), (4, .ptr 4 0), (5, .ptr 5 0), (6, pI h_), (7, .ptr 7 0)], [(0, .ptab 2 (encT keyPt (encL iC) c)), (3, .lit 63 [pI start.x, pI start.y]), (4, .lit 53 [.nils]), (5, .lit 53 [.own 5005 0 ([start]).length 2]), (7, .lit 63 [pI start.x, pI start.y]), (5005, .row 63 (([start]).flatMap Pt.cs))]⟩) (by kernel_rfl) (holds_of (UU ∧ UU ∧ UU ∧ UU) (by kernel_rfl) ⟨TT, TT, TT, TT⟩) ?_
  refine awp_tail (fun _ => (Exit.exit 0)) (fun o => match o with | (out_4, c3) => ⟨[(4, .ptr 4 0), (5, .ptr 5 0)], [(0, .ptab 2 (encT keyPt (encL iC) c3)), (4, .lit 53 [.nils]), (5, .lit 53 [.own 5005 0 out_4.length 2]), (5005, .row 63 (out_4.flatMap Pt.cs))]⟩) hm (fun o h => ?_) ?_
  · refine awp_loop' (fun s => match s with | (h_3, c1, out_3, pX, pY) => ⟨[(0, .map 0), (3, .ptr 3 0), (4, .ptr 4 0), (5, .ptr 5 0), (6, pI h_3), (7, .ptr 7 0)], [(0, .ptab 2 (encT keyPt (encL iC) c1)), (3, .lit 63 [pI start.x, pI start.y]), (4, .lit 53 [.nils]), (5, .lit 53 [.own 5005 0 out_3.length 2]), (7, .lit 63 [pI pX, pI pY]), (5005, .row 63 (out_3.flatMap Pt.cs))]⟩) h (by kernel_rfl) (fun s out h => ?_)
    obtain ⟨h_3, c1, out_3, pX, pY⟩ := s
    refine awp_seq ?_
    refine awp_seq ?_
    refine bind_el h (fun v k2 h => ?_)
    refine awp_regionD Try_mixed (orcs := [(3, { r := some (pB v.1), fp := [0], post := [(0, .ptab 2 (encT keyPt (encL iC) v.2))] })]) (gs := [.keep [0, 3, 4, 5, 6, 7, 22] [0, 3, 4, 5, 7, 5005]]) (s' := ⟨[(0, .map 0), (3, .ptr 3 0), (4, .ptr 4 0), (5, .ptr 5 0), (6, pI h_3), (7, .ptr 7 0), (22, pB v.1)], [(0, .ptab 2 (encT keyPt (encL iC) v.2)), (3, .lit 63 [pI start.x, pI start.y]), (4, .lit 53 [.nils]), (5, .lit 53 [.own 5005 0 out_3.length 2]), (7, .lit 63 [pI pX, pI pY]), (5005, .row 63 (out_3.flatMap Pt.cs))]⟩) (by kernel_rfl) (holds_of ((UU ∧ UU ∧ UU ∧ (ASpec Try.prog 49 [.map 0, .agg [pI pX, pI pY], pI h_3] [(0, .ptab 2 (encT keyPt (encL iC) c1))] (pB v.1) [(0, .ptab 2 (encT keyPt (encL iC) v.2))]) ∧ UU) ∧ (UU ∧ UU)) (by kernel_rfl) ⟨⟨TT, TT, TT, boundary_cracks_take_ok k2, TT⟩, ⟨TT, TT⟩⟩) ?_
    refine Done.mk (thenQ_n ?_)
    refine ifB_el h (fun k3 h => ?_) (fun k3 h => ?_)
    · refine awp_cond_t (b := v.1) (by kernel_rfl) k3 ?_
      refine doneSkip ?_
      refine Done.mk (thenQ_n ?_)
      refine awp_block ?_
      refine awp_seq ?_
      refine bind_el h (fun v1 k4 h => ?_)
      refine awp_regionD Try_mixed (orcs := [(2, tV (.agg [pI v1.x, pI v1.y]))]) (gs := [.keep [0, 3, 4, 5, 6, 7] [0, 3, 4, 5, 7, 5005]]) (s' := ⟨[(0, .map 0), (3, .ptr 3 0), (4, .ptr 4 0), (5, .ptr 5 0), (6, pI h_3), (7, .ptr 7 0)], [(0, .ptab 2 (encT keyPt (encL iC) v.2)), (3, .lit 63 [pI start.x, pI start.y]), (4, .lit 53 [.nils]), (5, .lit 53 [.own 5005 0 out_3.length 2]), (7, .lit 63 [pI v1.x, pI v1.y]), (5005, .row 63 (out_3.flatMap Pt.cs))]⟩) (by kernel_rfl) (holds_of ((UU ∧ UU ∧ (ASpec Try.prog 50 [pI h_3, .agg [pI pX, pI pY]] [] (.agg [pI v1.x, pI v1.y]) []) ∧ UU ∧ UU) ∧ (UU ∧ UU)) (by kernel_rfl) ⟨⟨TT, TT, boundary_heading_from_ok k4, TT, TT⟩, ⟨TT, TT⟩⟩) ?_
      refine Done.mk (thenQ_n ?_)
      refine awp_seq ?_
      refine awp_seq ?_
      refine awp_regionD Try_mixed (orcs := []) (gs := [.keep [0, 3, 4, 5, 6, 7, 28] [0, 3, 4, 5, 7, 5005]]) (s' := ⟨[(0, .map 0), (3, .ptr 3 0), (4, .ptr 4 0), (5, .ptr 5 0), (6, pI h_3), (7, .ptr 7 0), (28, pB ((v1.x == start.x) && ((v1.y == start.y) && true)))], [(0, .ptab 2 (encT keyPt (encL iC) v.2)), (3, .lit 63 [pI start.x, pI start.y]), (4, .lit 53 [.nils]), (5, .lit 53 [.own 5005 0 out_3.length 2]), (7, .lit 63 [pI v1.x, pI v1.y]), (5005, .row 63 (out_3.flatMap Pt.cs))]⟩) (by kernel_rfl) (holds_of ((UU ∧ UU ∧ UU ∧ UU) ∧ (UU ∧ UU)) (by kernel_rfl) ⟨⟨TT, TT, TT, TT⟩, ⟨TT, TT⟩⟩) ?_
      refine Done.mk (thenQ_n ?_)
      refine ifB_el h (fun k5 h => ?_) (fun k5 h => ?_)
      · refine awp_cond_t (b := (v1.x == start.x) && ((v1.y == start.y) && true)) (by kernel_rfl) k5 ?_
        refine doneExit ?_
        refine Done.gh [.keep [4, 5] [0, 4, 5, 5005], .keep [4, 5] [0, 4, 5, 5005]] (s' := ⟨[(4, .ptr 4 0), (5, .ptr 5 0)], [(0, .ptab 2 (encT keyPt (encL iC) v.2)), (4, .lit 53 [.nils]), (5, .lit 53 [.own 5005 0 out_3.length 2]), (5005, .row 63 (out_3.flatMap Pt.cs))]⟩) (by kernel_rfl) (holds_of (UU ∧ UU ∧ UU) (by kernel_rfl) ⟨TT, TT, TT⟩) ?_
        refine Done.mk (thenQ_x (inB_miss rfl ?_))
        obtain rfl := Option.some.inj h
        exact ⟨fun q => (by cases q), fun q => (by subst q; exact ⟨rfl, by kernel_rfl⟩)⟩
      · refine awp_cond_f (b := (v1.x == start.x) && ((v1.y == start.y) && true)) (by kernel_rfl) k5 ?_
        refine doneSkip ?_
        refine Done.mk (thenQ_n ?_)
        refine awp_seq ?_
        refine bind_el h (fun n k6 h => ?_)
        refine bind_el h (fun n1 k7 h => ?_)
        refine awp_regionD Try_mixed (orcs := [(1, tV (pI n)), (4, tV (pI n1))]) (gs := [.keep [0, 3, 4, 5, 6, 7, 34, 35] [0, 3, 4, 5, 7, 5005]]) (s' := ⟨[(0, .map 0), (3, .ptr 3 0), (4, .ptr 4 0), (5, .ptr 5 0), (6, pI h_3), (7, .ptr 7 0), (34, .agg [pI n, pI h_3, pI n1]), (35, pI 0)], [(0, .ptab 2 (encT keyPt (encL iC) v.2)), (3, .lit 63 [pI start.x, pI start.y]), (4, .lit 53 [.nils]), (5, .lit 53 [.own 5005 0 out_3.length 2]), (7, .lit 63 [pI v1.x, pI v1.y]), (5005, .row 63 (out_3.flatMap Pt.cs))]⟩) (by kernel_rfl) (holds_of ((UU ∧ (ASpec Try.prog 51 [pI h_3] [] (pI n) []) ∧ UU ∧ UU ∧ (ASpec Try.prog 52 [pI h_3] [] (pI n1) []) ∧ UU ∧ UU ∧ UU) ∧ (UU ∧ UU)) (by kernel_rfl) ⟨⟨TT, boundary_heading_left_ok k6, TT, TT, boundary_heading_right_ok k7, TT, TT, TT⟩, ⟨TT, TT⟩⟩) ?_
        refine Done.mk (thenQ_n ?_)
        refine awp_block ?_
        refine bind_el h (fun o hm h => ?_)
        refine awp_gh [.keep [0, 3, 4, 5, 6, 7, 34, 35] [0, 3, 4, 5, 7, 5005], .keep [0, 3, 4, 5, 6, 7, 34, 35] [0, 3, 4, 5, 7, 5005]] (s' := ⟨[(0, .map 0), (3, .ptr 3 0), (4, .ptr 4 0), (5, .ptr 5 0), (6, pI h_3), (7, .ptr 7 0), (34, .agg [pI n, pI h_3, pI n1]), (35, pI 0)], [(0, .ptab 2 (encT keyPt (encL iC) v.2)), (3, .lit 63 [pI start.x, pI start.y]), (4, .lit 53 [.nils]), (5, .lit 53 [.own 5005 0 out_3.length 2]), (7, .lit 63 [pI v1.x, pI v1.y]), (5005, .row 63 (out_3.flatMap Pt.cs))]⟩) (by kernel_rfl) (holds_of (UU ∧ UU ∧ UU) (by kernel_rfl) ⟨TT, TT, TT⟩) ?_
        refine awp_tail (fun _ => (Exit.exit 2)) (fun o => match o with | (h_2, out_2) => ⟨[(0, .map 0), (3, .ptr 3 0), (4, .ptr 4 0), (5, .ptr 5 0), (6, pI h_2), (7, .ptr 7 0)], [(0, .ptab 2 (encT keyPt (encL iC) v.2)), (3, .lit 63 [pI start.x, pI start.y]), (4, .lit 53 [.nils]), (5, .lit 53 [.own 5009 0 out_2.length 2]), (7, .lit 63 [pI v1.x, pI v1.y]), (5009, .row 63 (out_2.flatMap Pt.cs))]⟩) hm (fun o h => ?_) ?_
        · refine awp_loop' (fun s => match s with | t35 => ⟨[(0, .map 0), (3, .ptr 3 0), (4, .ptr 4 0), (5, .ptr 5 0), (6, pI h_3), (7, .ptr 7 0), (34, .agg [pI n, pI h_3, pI n1]), (35, pI t35)], [(0, .ptab 2 (encT keyPt (encL iC) v.2)), (3, .lit 63 [pI start.x, pI start.y]), (4, .lit 53 [.nils]), (5, .lit 53 [.own 5005 0 out_3.length 2]), (7, .lit 63 [pI v1.x, pI v1.y]), (5005, .row 63 (out_3.flatMap Pt.cs))]⟩) h (by kernel_rfl) (fun t35 out h => ?_)
          refine awp_seq ?_
          refine awp_regionD Try_mixed (orcs := []) (gs := [.keep [0, 3, 4, 5, 6, 7, 34, 35, 36] [0, 3, 4, 5, 7, 5005]]) (s' := ⟨[(0, .map 0), (3, .ptr 3 0), (4, .ptr 4 0), (5, .ptr 5 0), (6, pI h_3), (7, .ptr 7 0), (34, .agg [pI n, pI h_3, pI n1]), (35, pI t35), (36, pB (decide (t35 < (3 : Int))))], [(0, .ptab 2 (encT keyPt (encL iC) v.2)), (3, .lit 63 [pI start.x, pI start.y]), (4, .lit 53 [.nils]), (5, .lit 53 [.own 5005 0 out_3.length 2]), (7, .lit 63 [pI v1.x, pI v1.y]), (5005, .row 63 (out_3.flatMap Pt.cs))]⟩) (by kernel_rfl) (holds_of ((UU ∧ UU) ∧ (UU ∧ UU)) (by kernel_rfl) ⟨⟨TT, TT⟩, ⟨TT, TT⟩⟩) ?_
          refine Done.mk (thenQ_n ?_)
          refine awp_seq ?_
          refine ifB_el h (fun k8 h => ?_) (fun k8 h => ?_)
          · refine awp_cond_t (b := decide (t35 < (3 : Int))) (by kernel_rfl) k8 ?_
            refine doneSkip ?_
            refine Done.mk (thenQ_n ?_)
            refine awp_seq ?_
            refine awp_block ?_
            refine awp_seq ?_
            refine bind_el h (fun x k9 h => ?_)
            replace k9 := getI_el k9
            refine awp_regionD Try_mixed (orcs := [(0, tV (pI x))]) (gs := [.keep [0, 3, 4, 5, 6, 7, 9, 34, 35] [0, 3, 4, 5, 7, 5005]]) (s' := ⟨[(0, .map 0), (3, .ptr 3 0), (4, .ptr 4 0), (5, .ptr 5 0), (6, pI h_3), (7, .ptr 7 0), (9, pI x), (34, .agg [pI n, pI h_3, pI n1]), (35, pI t35)], [(0, .ptab 2 (encT keyPt (encL iC) v.2)), (3, .lit 63 [pI start.x, pI start.y]), (4, .lit 53 [.nils]), (5, .lit 53 [.own 5005 0 out_3.length 2]), (7, .lit 63 [pI v1.x, pI v1.y]), (5005, .row 63 (out_3.flatMap Pt.cs))]⟩) (by kernel_rfl) (holds_of ((((0 ≤ t35 ∧ t35 < ((3 : Nat) : Int) ∧ ([pI n, pI h_3, pI n1] : List AV)[t35.toNat]? = some (pI x))) ∧ UU ∧ UU) ∧ (UU ∧ UU)) (by kernel_rfl) ⟨⟨⟨k9.2.1, k9.2.2, idx_map k9.1⟩, TT, TT⟩, ⟨TT, TT⟩⟩) ?_
            refine Done.mk (thenQ_n ?_)
            refine awp_seq ?_
            refine bind_el h (fun b k10 h => ?_)
            refine awp_regionD Try_mixed (orcs := [(2, tV (.p (encL iC (getT ([] : (List Int)) v1 v.2)))), (4, tV (pB b))]) (gs := [.keep [0, 3, 4, 5, 6, 7, 9, 34, 35, 42] [0, 3, 4, 5, 7, 5005]]) (s' := ⟨[(0, .map 0), (3, .ptr 3 0), (4, .ptr 4 0), (5, .ptr 5 0), (6, pI h_3), (7, .ptr 7 0), (9, pI x), (34, .agg [pI n, pI h_3, pI n1]), (35, pI t35), (42, pB b)], [(0, .ptab 2 (encT keyPt (encL iC) v.2)), (3, .lit 63 [pI start.x, pI start.y]), (4, .lit 53 [.nils]), (5, .lit 53 [.own 5005 0 out_3.length 2]), (7, .lit 63 [pI v1.x, pI v1.y]), (5005, .row 63 (out_3.flatMap Pt.cs))]⟩) (by kernel_rfl) (holds_of ((UU ∧ UU ∧ ((UU ∧ some (AV.p ((tGet (keyPt v1) (encT keyPt (encL iC) v.2)).getD ((encL iC) []))) = some (AV.p (encL iC (getT ([] : (List Int)) v1 v.2))))) ∧ UU ∧ (ASpec Try.prog 53 [.p (encL iC (getT ([] : (List Int)) v1 v.2)), pI x] [] (pB b) []) ∧ UU) ∧ (UU ∧ UU)) (by kernel_rfl) ⟨⟨TT, TT, ⟨TT, get_told keyPt_inj _ _ _ _⟩, TT, slices_Contains_ok k10, TT⟩, ⟨TT, TT⟩⟩) ?_
            refine Done.mk (thenQ_n ?_)
            refine ifB_el h (fun k11 h => ?_) (fun k11 h => ?_)
            · refine awp_cond_t (b := b) (by kernel_rfl) k11 ?_
              refine awp_seq ?_
              refine bind_el h (fun out_ hm h => ?_)
              refine awp_tail (fun _ => Exit.normal) (fun o => match o with | out_ => ⟨[(0, .map 0), (3, .ptr 3 0), (4, .ptr 4 0), (5, .ptr 5 0), (7, .ptr 7 0), (9, pI x)], [(0, .ptab 2 (encT keyPt (encL iC) v.2)), (3, .lit 63 [pI start.x, pI start.y]), (4, .lit 53 [.nils]), (5, .lit 53 [.own 5007 0 out_.length 2]), (7, .lit 63 [pI v1.x, pI v1.y]), (5007, .row 63 (out_.flatMap Pt.cs))]⟩) hm (fun o h => ?_) ?_
              · refine awp_seq ?_
                refine awp_regionD Try_mixed (orcs := []) (gs := [.keep [0, 3, 4, 5, 7, 9, 45] [0, 3, 4, 5, 7, 5005]]) (s' := ⟨[(0, .map 0), (3, .ptr 3 0), (4, .ptr 4 0), (5, .ptr 5 0), (7, .ptr 7 0), (9, pI x), (45, pB (x != h_3))], [(0, .ptab 2 (encT keyPt (encL iC) v.2)), (3, .lit 63 [pI start.x, pI start.y]), (4, .lit 53 [.nils]), (5, .lit 53 [.own 5005 0 out_3.length 2]), (7, .lit 63 [pI v1.x, pI v1.y]), (5005, .row 63 (out_3.flatMap Pt.cs))]⟩) (by kernel_rfl) (holds_of ((UU ∧ UU ∧ UU ∧ UU) ∧ (UU ∧ UU)) (by kernel_rfl) ⟨⟨TT, TT, TT, TT⟩, ⟨TT, TT⟩⟩) ?_
                refine Done.mk (thenQ_n ?_)
                refine ifB_el h (fun k12 h => ?_) (fun k12 h => ?_)
                · refine awp_cond_t (b := x != h_3) (by kernel_rfl) k12 ?_
                  refine chk_el h (fun k13 h => ?_)
                  refine awp_regionD Try_mixed (orcs := [(4, tV (.own 50 0 (out_3 ++ ([v1])).length 2))]) (gs := [.castB 50 (.row 63 ((out_3 ++ ([v1])).flatMap Pt.cs)), .keep [0, 3, 4, 5, 7, 9] [0, 3, 4, 5, 7, 50]]) (s' := ⟨[(0, .map 0), (3, .ptr 3 0), (4, .ptr 4 0), (5, .ptr 5 0), (7, .ptr 7 0), (9, pI x)], [(0, .ptab 2 (encT keyPt (encL iC) v.2)), (3, .lit 63 [pI start.x, pI start.y]), (4, .lit 53 [.nils]), (5, .lit 53 [.own 50 0 (out_3 ++ ([v1])).length 2]), (7, .lit 63 [pI v1.x, pI v1.y]), (50, .row 63 ((out_3 ++ ([v1])).flatMap Pt.cs))]⟩) (by kernel_rfl) (holds_of ((UU ∧ UU ∧ UU ∧ UU ∧ ((((out_3.flatMap Pt.cs).length = out_3.length * 2 ∧ (([v1]).flatMap Pt.cs).length = ([v1]).length * 2 ∧ (out_3.length + ([v1]).length) * 16 ≤ 140737488355328 ∧ out_3.length + ([v1]).length ≤ 9223372036854775807) ∧ some (AV.own 50 0 (out_3.length + ([v1]).length) 2) = some (AV.own 50 0 (out_3 ++ ([v1])).length 2))) ∧ UU ∧ UU ∧ UU) ∧ ((some (ABlk.row 63 (out_3.flatMap Pt.cs ++ ([v1]).flatMap Pt.cs)) = some (ABlk.row 63 ((out_3 ++ ([v1])).flatMap Pt.cs))) ∧ UU ∧ UU)) (by kernel_rfl) ⟨⟨TT, TT, TT, TT, ⟨⟨flat_len Pt.cs_len _, flat_len Pt.cs_len _, by omega, by omega⟩, app_len _ _ _ _⟩, TT, TT, TT⟩, ⟨(app_row Pt.cs _ _ _), TT, TT⟩⟩) ?_
                  refine Done.gh [.keep [0, 3, 4, 5, 7, 9] [0, 3, 4, 5, 7, 50], .ren 50 5007, .keep [0, 3, 4, 5, 7, 9] [0, 3, 4, 5, 7, 5007]] (s' := ⟨[(0, .map 0), (3, .ptr 3 0), (4, .ptr 4 0), (5, .ptr 5 0), (7, .ptr 7 0), (9, pI x)], [(0, .ptab 2 (encT keyPt (encL iC) v.2)), (3, .lit 63 [pI start.x, pI start.y]), (4, .lit 53 [.nils]), (5, .lit 53 [.own 5007 0 (out_3 ++ ([v1])).length 2]), (7, .lit 63 [pI v1.x, pI v1.y]), (5007, .row 63 ((out_3 ++ ([v1])).flatMap Pt.cs))]⟩) (by kernel_rfl) (holds_of (UU ∧ UU ∧ UU ∧ UU) (by kernel_rfl) ⟨TT, TT, TT, TT⟩) ?_
                  refine Done.mk ?_
                  obtain rfl := Option.some.inj h
                  exact ⟨rfl, by kernel_rfl⟩
                · refine awp_cond_f (b := x != h_3) (by kernel_rfl) k12 ?_
                  refine doneSkip ?_
                  refine Done.gh [.keep [0, 3, 4, 5, 7, 9] [0, 3, 4, 5, 7, 5005], .ren 5005 5007, .keep [0, 3, 4, 5, 7, 9] [0, 3, 4, 5, 7, 5007]] (s' := ⟨[(0, .map 0), (3, .ptr 3 0), (4, .ptr 4 0), (5, .ptr 5 0), (7, .ptr 7 0), (9, pI x)], [(0, .ptab 2 (encT keyPt (encL iC) v.2)), (3, .lit 63 [pI start.x, pI start.y]), (4, .lit 53 [.nils]), (5, .lit 53 [.own 5007 0 out_3.length 2]), (7, .lit 63 [pI v1.x, pI v1.y]), (5007, .row 63 (out_3.flatMap Pt.cs))]⟩) (by kernel_rfl) (holds_of (UU ∧ UU ∧ UU ∧ UU) (by kernel_rfl) ⟨TT, TT, TT, TT⟩) ?_
                  refine Done.mk ?_
                  obtain rfl := Option.some.inj h
                  exact ⟨rfl, by kernel_rfl⟩
              · have _ := hm
                refine Done.as (e := Exit.normal) (s := ⟨[(0, .map 0), (3, .ptr 3 0), (4, .ptr 4 0), (5, .ptr 5 0), (7, .ptr 7 0), (9, pI x)], [(0, .ptab 2 (encT keyPt (encL iC) v.2)), (3, .lit 63 [pI start.x, pI start.y]), (4, .lit 53 [.nils]), (5, .lit 53 [.own 5007 0 out_.length 2]), (7, .lit 63 [pI v1.x, pI v1.y]), (5007, .row 63 (out_.flatMap Pt.cs))]⟩) rfl (by kernel_rfl) ?_
                refine Done.mk (thenQ_n ?_)
                refine awp_seq ?_
                refine awp_regionD Try_mixed (orcs := []) (gs := [.keep [0, 3, 4, 5, 6, 7] [0, 3, 4, 5, 7, 5007]]) (s' := ⟨[(0, .map 0), (3, .ptr 3 0), (4, .ptr 4 0), (5, .ptr 5 0), (6, pI x), (7, .ptr 7 0)], [(0, .ptab 2 (encT keyPt (encL iC) v.2)), (3, .lit 63 [pI start.x, pI start.y]), (4, .lit 53 [.nils]), (5, .lit 53 [.own 5007 0 out_.length 2]), (7, .lit 63 [pI v1.x, pI v1.y]), (5007, .row 63 (out_.flatMap Pt.cs))]⟩) (by kernel_rfl) (holds_of ((UU ∧ UU ∧ UU) ∧ (UU ∧ UU)) (by kernel_rfl) ⟨⟨TT, TT, TT⟩, ⟨TT, TT⟩⟩) ?_
                refine Done.mk (thenQ_n ?_)
                refine doneExit ?_
                refine Done.gh [.keep [0, 3, 4, 5, 6, 7] [0, 3, 4, 5, 7, 5007], .ren 5007 5009, .keep [0, 3, 4, 5, 6, 7] [0, 3, 4, 5, 7, 5009]] (s' := ⟨[(0, .map 0), (3, .ptr 3 0), (4, .ptr 4 0), (5, .ptr 5 0), (6, pI x), (7, .ptr 7 0)], [(0, .ptab 2 (encT keyPt (encL iC) v.2)), (3, .lit 63 [pI start.x, pI start.y]), (4, .lit 53 [.nils]), (5, .lit 53 [.own 5009 0 out_.length 2]), (7, .lit 63 [pI v1.x, pI v1.y]), (5009, .row 63 (out_.flatMap Pt.cs))]⟩) (by kernel_rfl) (holds_of (UU ∧ UU ∧ UU ∧ UU) (by kernel_rfl) ⟨TT, TT, TT, TT⟩) ?_
                refine Done.mk (inB_miss rfl (thenQ_x ?_))
                obtain rfl := Option.some.inj h
                exact ⟨fun q => (by cases q), fun q => (by subst q; exact ⟨rfl, by kernel_rfl⟩)⟩
            · refine awp_cond_f (b := b) (by kernel_rfl) k11 ?_
              refine doneSkip ?_
              refine Done.mk (inB_n (thenQ_n ?_))
              refine chk_el h (fun k14 h => ?_)
              refine awp_regionD Try_mixed (orcs := []) (gs := [.keep [0, 3, 4, 5, 6, 7, 34, 35] [0, 3, 4, 5, 7, 5005]]) (s' := ⟨[(0, .map 0), (3, .ptr 3 0), (4, .ptr 4 0), (5, .ptr 5 0), (6, pI h_3), (7, .ptr 7 0), (34, .agg [pI n, pI h_3, pI n1]), (35, pI (t35 + 1))], [(0, .ptab 2 (encT keyPt (encL iC) v.2)), (3, .lit 63 [pI start.x, pI start.y]), (4, .lit 53 [.nils]), (5, .lit 53 [.own 5005 0 out_3.length 2]), (7, .lit 63 [pI v1.x, pI v1.y]), (5005, .row 63 (out_3.flatMap Pt.cs))]⟩) (by kernel_rfl) (holds_of (((InR .i64 (t35 + 1 : Int)) ∧ UU ∧ UU) ∧ (UU ∧ UU)) (by kernel_rfl) ⟨⟨k14, TT, TT⟩, ⟨TT, TT⟩⟩) ?_
              refine Done.mk ?_
              obtain rfl := Option.some.inj h
              exact ⟨rfl, by kernel_rfl⟩
          · refine awp_cond_f (b := decide (t35 < (3 : Int))) (by kernel_rfl) k8 ?_
            refine doneExit ?_
            refine Done.gh [.keep [0, 3, 4, 5, 6, 7] [0, 3, 4, 5, 7, 5005], .ren 5005 5009, .keep [0, 3, 4, 5, 6, 7] [0, 3, 4, 5, 7, 5009]] (s' := ⟨[(0, .map 0), (3, .ptr 3 0), (4, .ptr 4 0), (5, .ptr 5 0), (6, pI h_3), (7, .ptr 7 0)], [(0, .ptab 2 (encT keyPt (encL iC) v.2)), (3, .lit 63 [pI start.x, pI start.y]), (4, .lit 53 [.nils]), (5, .lit 53 [.own 5009 0 out_3.length 2]), (7, .lit 63 [pI v1.x, pI v1.y]), (5009, .row 63 (out_3.flatMap Pt.cs))]⟩) (by kernel_rfl) (holds_of (UU ∧ UU ∧ UU ∧ UU) (by kernel_rfl) ⟨TT, TT, TT, TT⟩) ?_
            refine Done.mk (thenQ_x ?_)
            obtain rfl := Option.some.inj h
            exact ⟨fun q => (by cases q), fun q => (by subst q; exact ⟨rfl, by kernel_rfl⟩)⟩
        · obtain ⟨h_2, out_2⟩ := o
          refine Done.as (e := (Exit.exit 2)) (s := ⟨[(0, .map 0), (3, .ptr 3 0), (4, .ptr 4 0), (5, .ptr 5 0), (6, pI h_2), (7, .ptr 7 0)], [(0, .ptab 2 (encT keyPt (encL iC) v.2)), (3, .lit 63 [pI start.x, pI start.y]), (4, .lit 53 [.nils]), (5, .lit 53 [.own 5009 0 out_2.length 2]), (7, .lit 63 [pI v1.x, pI v1.y]), (5009, .row 63 (out_2.flatMap Pt.cs))]⟩) rfl (by kernel_rfl) ?_
          refine Done.gh [.keep [0, 3, 4, 5, 6, 7] [0, 3, 4, 5, 7, 5009], .ren 5009 5005, .keep [0, 3, 4, 5, 6, 7] [0, 3, 4, 5, 7, 5005]] (s' := ⟨[(0, .map 0), (3, .ptr 3 0), (4, .ptr 4 0), (5, .ptr 5 0), (6, pI h_2), (7, .ptr 7 0)], [(0, .ptab 2 (encT keyPt (encL iC) v.2)), (3, .lit 63 [pI start.x, pI start.y]), (4, .lit 53 [.nils]), (5, .lit 53 [.own 5005 0 out_2.length 2]), (7, .lit 63 [pI v1.x, pI v1.y]), (5005, .row 63 (out_2.flatMap Pt.cs))]⟩) (by kernel_rfl) (holds_of (UU ∧ UU ∧ UU ∧ UU) (by kernel_rfl) ⟨TT, TT, TT, TT⟩) ?_
          refine Done.mk (inB_hit (inB_n ?_))
          obtain rfl := Option.some.inj h
          exact ⟨rfl, by kernel_rfl⟩
    · refine awp_cond_f (b := v.1) (by kernel_rfl) k3 ?_
      refine doneExit ?_
      refine Done.gh [.keep [4, 5] [0, 4, 5, 5005], .keep [4, 5] [0, 4, 5, 5005]] (s' := ⟨[(4, .ptr 4 0), (5, .ptr 5 0)], [(0, .ptab 2 (encT keyPt (encL iC) v.2)), (4, .lit 53 [.nils]), (5, .lit 53 [.own 5005 0 out_3.length 2]), (5005, .row 63 (out_3.flatMap Pt.cs))]⟩) (by kernel_rfl) (holds_of (UU ∧ UU ∧ UU) (by kernel_rfl) ⟨TT, TT, TT⟩) ?_
      refine Done.mk (thenQ_x ?_)
      obtain rfl := Option.some.inj h
      exact ⟨fun q => (by cases q), fun q => (by subst q; exact ⟨rfl, by kernel_rfl⟩)⟩
  · obtain ⟨out_4, c3⟩ := o
    refine Done.as (e := (Exit.exit 0)) (s := ⟨[(4, .ptr 4 0), (5, .ptr 5 0)], [(0, .ptab 2 (encT keyPt (encL iC) c3)), (4, .lit 53 [.nils]), (5, .lit 53 [.own 5005 0 out_4.length 2]), (5005, .row 63 (out_4.flatMap Pt.cs))]⟩) rfl (by kernel_rfl) ?_
    refine Done.mk (inB_hit (thenQ_n ?_))
    refine awp_seq ?_
    refine awp_regionD Try_mixed (orcs := []) (gs := [.keep [4] [0, 4, 5005]]) (s' := ⟨[(4, .ptr 4 0)], [(0, .ptab 2 (encT keyPt (encL iC) c3)), (4, .lit 53 [.own 5005 0 out_4.length 2]), (5005, .row 63 (out_4.flatMap Pt.cs))]⟩) (by kernel_rfl) (holds_of ((UU ∧ UU ∧ UU) ∧ (UU ∧ UU)) (by kernel_rfl) ⟨⟨TT, TT, TT⟩, ⟨TT, TT⟩⟩) ?_
    refine Done.mk (thenQ_n ?_)
    refine doneRet ?_
    refine Done.gh [.frz 5005, .keep [4] [0, 4]] (s' := ⟨[(4, .ptr 4 0)], [(0, .ptab 2 (encT keyPt (encL iC) c3)), (4, .lit 53 [.p (encL Pt.cs out_4)])]⟩) (by kernel_rfl) (holds_of (UU ∧ UU ∧ UU) (by kernel_rfl) ⟨TT, TT, TT⟩) ?_
    refine Done.mk ?_
    obtain rfl := Option.some.inj h
    exact ⟨Or.inr rfl, by kernel_rfl, by kernel_rfl⟩
end
end Go.AM
end
section
namespace Go.AM
open Go Go.RowKit Go.Proofs
noncomputable section
set_option maxRecDepth 100000 in
set_option maxHeartbeats 4000000 in
theorem boundary_Trace_ok {r_ : Region} {r : (List Poly)} (h : boundary_Trace r_ = some r) : ASpec Try.prog 14 [.agg [.p (encL Row.cs r_.rows)]] [] (.p (encL Poly.cs r)) [] := by
  refine aspec_of Try.func14 (c := _) rfl (by kernel_rfl) (by rw [Try.ntmps14]; exact Nat.le_of_ble_eq_true rfl) ?_
  refine awp_seq ?_
  refine awp_regionD Try_mixed (orcs := []) (gs := [.keep [1] [1]]) (s' := ⟨[(1, .ptr 1 0)], [(1, .lit 24 [.p (encL Row.cs r_.rows)])]⟩) (by kernel_rfl) (holds_of ((UU ∧ UU ∧ UU) ∧ (UU ∧ UU)) (by kernel_rfl) ⟨⟨TT, TT, TT⟩, ⟨TT, TT⟩⟩) ?_
  refine Done.mk (thenQ_n ?_)
  refine awp_seq ?_
  refine awp_seq ?_
  refine bind_el h (fun b k1 h => ?_)
  refine awp_regionD Try_mixed (orcs := [(1, tV (pB b))]) (gs := [.keep [1, 11] [1]]) (s' := ⟨[(1, .ptr 1 0), (11, pB (!b))], [(1, .lit 24 [.p (encL Row.cs r_.rows)])]⟩) (by kernel_rfl) (holds_of ((UU ∧ (ASpec Try.prog 24 [.agg [.p (encL Row.cs r_.rows)]] [] (pB b) []) ∧ UU ∧ UU) ∧ (UU ∧ UU)) (by kernel_rfl) ⟨⟨TT, region_Valid_ok k1, TT, TT⟩, ⟨TT, TT⟩⟩) ?_
  refine Done.mk (thenQ_n ?_)
  refine ifB_el h (fun k2 h => ?_) (fun k2 h => ?_)
  · refine awp_cond_t (b := !b) (by kernel_rfl) k2 ?_
    refine awp_seq ?_
    refine awp_regionD Try_mixed (orcs := []) (gs := [.keep [2] []]) (s' := ⟨[(2, .nils)], []⟩) (by kernel_rfl) (holds_of ((UU ∧ UU) ∧ (UU ∧ UU)) (by kernel_rfl) ⟨⟨TT, TT⟩, ⟨TT, TT⟩⟩) ?_
    refine Done.mk (thenQ_n ?_)
    refine doneRet ?_
    refine Done.gh [.pureT 2, .keep [2] []] (s' := ⟨[(2, .p (.sl [] 0))], []⟩) (by kernel_rfl) (holds_of (UU ∧ UU ∧ UU) (by kernel_rfl) ⟨TT, TT, TT⟩) ?_
    refine Done.mk (thenQ_r ?_)
    obtain rfl := Option.some.inj h
    exact ⟨Or.inr rfl, by kernel_rfl, by kernel_rfl⟩
  · refine awp_cond_f (b := !b) (by kernel_rfl) k2 ?_
    refine doneSkip ?_
    refine Done.mk (thenQ_n ?_)
    refine awp_seq ?_
    refine bind_el h (fun v k3 h => ?_)
    refine awp_regionD Try_mixed (orcs := [(1, { r := some (.map 6000), fp := [], post := [(6000, .ptab 2 (encT keyPt (encL iC) v))] })]) (gs := [.keep [3] [6000]]) (s' := ⟨[(3, .map 6000)], [(6000, .ptab 2 (encT keyPt (encL iC) v))]⟩) (by kernel_rfl) (holds_of ((UU ∧ (ASpec Try.prog 25 [.agg [.p (encL Row.cs r_.rows)]] [] (.map 6000) [(6000, .ptab 2 (encT keyPt (encL iC) v))]) ∧ UU ∧ UU) ∧ (UU ∧ UU)) (by kernel_rfl) ⟨⟨TT, boundary_collect_ok k3, TT, TT⟩, ⟨TT, TT⟩⟩) ?_
    refine Done.mk (thenQ_n ?_)
    refine awp_seq ?_
    refine awp_regionD Try_mixed (orcs := []) (gs := [.keep [3, 4] [6000]]) (s' := ⟨[(3, .map 6000), (4, .nils)], [(6000, .ptab 2 (encT keyPt (encL iC) v))]⟩) (by kernel_rfl) (holds_of ((UU ∧ UU) ∧ (UU ∧ UU)) (by kernel_rfl) ⟨⟨TT, TT⟩, ⟨TT, TT⟩⟩) ?_
    refine Done.mk (thenQ_n ?_)
    refine awp_seq ?_
    refine chk_el h (fun k5 h => ?_)
    refine awp_seq ?_
    refine awp_gh [.keep [3, 4] [6000], .opn 4 5001 63 2, .keep [3, 4] [6000, 5001]] (s' := ⟨[(3, .map 6000), (4, .own 5001 0 (([] : List Pt)).length 2)], [(6000, .ptab 2 (encT keyPt (encL iC) v)), (5001, .row 63 ((([] : List Pt)).flatMap Pt.cs))]⟩) (by kernel_rfl) (holds_of (UU ∧ UU ∧ UU ∧ UU) (by kernel_rfl) ⟨TT, TT, TT, TT⟩) ?_
    refine awp_rangeMap (mid := 6000) (it := 5002) (tm := 3) (d0 := 14) (d1 := 15) (ag := 2) (m := encT keyPt (encL iC) v) rfl Try.underlying61 ⟨rfl, rfl, rfl, rfl⟩ ⟨rfl, rfl, rfl, rfl⟩ (by rw [Try.ntmps14]; decide) rfl rfl (by decide) (fresh_of (by kernel_rfl)) (fun es clock b0 hes hst => ?_)
    refine Done.gh [.keep [3, 4, 15] [6000, 5001, 5002]] (s' := ⟨[(3, .map 6000), (4, .own 5001 0 (comeKeys v (Come.nil v.length).js).length 2), (15, .ptr 5002 0)], [(6000, .ptx 2 (encT keyPt (encL iC) v) es clock b0), (5001, .row 63 ((comeKeys v (Come.nil v.length).js).flatMap Pt.cs)), (5002, .obj (.mapIter (some b0) clock (seenOf es (Come.nil v.length).js) clock))]⟩) (by kernel_rfl) (holds_of (UU ∧ UU) (by kernel_rfl) ⟨TT, TT⟩) ?_
    refine Done.mk (thenQ_n ?_)
    refine awp_tailE (fun l : List Pt => l.Perm (List.map (fun x => x.1) v)) .normal (fun l => ⟨[(3, .map 6000), (4, .own 5001 0 l.length 2)], [(6000, .ptab 2 (encT keyPt (encL iC) v)), (5001, .row 63 (l.flatMap Pt.cs))]⟩) ?_ (fun keys hl => ?_)
    · refine awp_block ?_
      have hlen : es.toList.length = v.length := by rw [Array.length_toList, hes]; exact List.length_map _
      refine awp_loopR (S := Come v.length) (fun js => ⟨[(3, .map 6000), (4, .own 5001 0 (comeKeys v js.js).length 2), (15, .ptr 5002 0)], [(6000, .ptx 2 (encT keyPt (encL iC) v) es clock b0), (5001, .row 63 ((comeKeys v js.js).flatMap Pt.cs)), (5002, .obj (.mapIter (some b0) clock (seenOf es js.js) clock))]⟩) (fun js => (leftOf es (seenOf es js.js)).size) (fun js => ?_) (Come.nil _)
      refine awp_seq ?_
      refine awp_next (mid := 6000) (it := 5002) (t := 15) (d1 := 16) (d2 := 17) (ag := 2) (m := encT keyPt (encL iC) v) (es := es) (clock := clock) (b0 := b0) (seen := seenOf es js.js) rfl ⟨rfl, rfl, rfl, rfl⟩ ⟨rfl, rfl, rfl, rfl⟩ (by rw [Try.ntmps14]; decide) rfl rfl rfl (fun hall => ?_) (fun e he hno hlt => ?_)
      · refine Done.gh [.keep [3, 4, 15, 17] [6000, 5001, 5002]] (s' := ⟨[(3, .map 6000), (4, .own 5001 0 (comeKeys v js.js).length 2), (15, .ptr 5002 0), (17, pB false)], [(6000, .ptx 2 (encT keyPt (encL iC) v) es clock b0), (5001, .row 63 ((comeKeys v js.js).flatMap Pt.cs)), (5002, .obj (.mapIter (some b0) clock (seenOf es js.js) clock))]⟩) (by kernel_rfl) (holds_of (UU ∧ UU) (by kernel_rfl) ⟨TT, TT⟩) ?_
        refine Done.mk (thenQ_n ?_)
        refine awp_seq ?_
        refine awp_false (by kernel_rfl) ?_
        refine doneExit ?_
        refine Done.unptx (mid := 6000) rfl ?_
        refine Done.gh [.keep [3, 4] [6000, 5001]] (s' := ⟨[(3, .map 6000), (4, .own 5001 0 (comeKeys v js.js).length 2)], [(6000, .ptab 2 (encT keyPt (encL iC) v)), (5001, .row 63 ((comeKeys v js.js).flatMap Pt.cs))]⟩) (by kernel_rfl) (holds_of (UU ∧ UU) (by kernel_rfl) ⟨TT, TT⟩) ?_
        refine Done.mk (thenQ_x (Or.inr ⟨fun hq => (by cases hq), inB_hit ⟨rfl, comeKeys v js.js, comeKeys_perm v js.nd js.lt (fun j hj => seenOf_all (fun i hi => by have := js.lt i hi; rw [← hlen, Array.length_toList] at this; exact this) hst.1 hall j (by rw [← Array.length_toList, hlen]; exact hj)), rfl⟩⟩))
      · obtain ⟨j, hj⟩ := List.mem_iff_getElem?.1 he
        have hjm : j < v.length := by rw [← hlen]; exact (List.getElem?_eq_some_iff.1 hj).1
        obtain ⟨x, hx⟩ : ∃ x, v[j]? = some x := ⟨_, List.getElem?_eq_getElem hjm⟩
        have hnj := seenOf_not hj hno
        refine Done.gh [.keep [3, 4, 15, 17] [6000, 5001, 5002]] (s' := ⟨[(3, .map 6000), (4, .own 5001 0 (comeKeys v js.js).length 2), (15, .ptr 5002 0), (17, pB true)], [(6000, .ptx 2 (encT keyPt (encL iC) v) es clock b0), (5001, .row 63 ((comeKeys v js.js).flatMap Pt.cs)), (5002, .obj (.mapIter (some b0) clock ((seenOf es js.js).push e.born) clock))]⟩) (by kernel_rfl) (holds_of (UU ∧ UU) (by kernel_rfl) ⟨TT, TT⟩) ?_
        refine Done.mk (thenQ_n ?_)
        refine awp_seq ?_
        refine awp_true (by kernel_rfl) ?_
        refine doneSkip ?_
        refine Done.mk (thenQ_n ?_)
        refine awp_block ?_
        refine awp_seq ?_
        refine awp_entry (mid := 6000) (it := 5002) (t := 15) (d1 := 18) (d2 := 19) (ag := 2) (m := encT keyPt (encL iC) v) (es := es) (clock := clock) (b0 := b0) (seen := seenOf es js.js) (e := e) (j := j) (k := keyPt x.1) (p := (encL iC) x.2) [] [.keep [3, 4, 15, 5] [6000, 5001, 5, 5002]] (s' := ⟨[(3, .map 6000), (4, .own 5001 0 (comeKeys v js.js).length 2), (15, .ptr 5002 0), (5, .ptr 5 0)], [(6000, .ptx 2 (encT keyPt (encL iC) v) es clock b0), (5001, .row 63 ((comeKeys v js.js).flatMap Pt.cs)), (5, .lit 63 [pI x.1.x, pI x.1.y]), (5002, .obj (.mapIter (some b0) clock ((seenOf es js.js).push e.born) clock))]⟩) (by decide) ⟨rfl, rfl, rfl, rfl⟩ ⟨rfl, rfl, rfl, rfl⟩ (by rw [Try.ntmps14]; decide) rfl rfl rfl hj (by rw [encT, List.getElem?_map, hx]; rfl) (by decide) (by kernel_rfl) (holds_of ((UU ∧ UU ∧ UU) ∧ (UU ∧ UU)) (by kernel_rfl) ⟨⟨TT, TT, TT⟩, ⟨TT, TT⟩⟩) ?_
        refine Done.mk (thenQ_n ?_)
        have hsz : (comeKeys v js.js).length + ([x.1]).length ≤ 1099511627776 := js.size _ hjm hnj k5
        refine awp_regionD Try_mixed (orcs := [(3, tV (.own 23 0 ((comeKeys v js.js) ++ ([x.1])).length 2))]) (gs := [.castB 23 (.row 63 (((comeKeys v js.js) ++ ([x.1])).flatMap Pt.cs)), .keep [3, 4, 15] [6000, 23, 5002], .ren 23 5001, .keep [3, 4, 15] [6000, 5001, 5002]]) (s' := ⟨[(3, .map 6000), (4, .own 5001 0 ((comeKeys v js.js) ++ [x.1]).length 2), (15, .ptr 5002 0)], [(6000, .ptx 2 (encT keyPt (encL iC) v) es clock b0), (5001, .row 63 (((comeKeys v js.js) ++ [x.1]).flatMap Pt.cs)), (5002, .obj (.mapIter (some b0) clock ((seenOf es js.js).push e.born) clock))]⟩) (by kernel_rfl) (holds_of ((UU ∧ UU ∧ UU ∧ (((((comeKeys v js.js).flatMap Pt.cs).length = (comeKeys v js.js).length * 2 ∧ (([x.1]).flatMap Pt.cs).length = ([x.1]).length * 2 ∧ ((comeKeys v js.js).length + ([x.1]).length) * 16 ≤ 140737488355328 ∧ (comeKeys v js.js).length + ([x.1]).length ≤ 9223372036854775807) ∧ some (AV.own 23 0 ((comeKeys v js.js).length + ([x.1]).length) 2) = some (AV.own 23 0 ((comeKeys v js.js) ++ ([x.1])).length 2))) ∧ UU ∧ UU) ∧ ((some (ABlk.row 63 ((comeKeys v js.js).flatMap Pt.cs ++ ([x.1]).flatMap Pt.cs)) = some (ABlk.row 63 (((comeKeys v js.js) ++ ([x.1])).flatMap Pt.cs))) ∧ UU ∧ UU ∧ UU ∧ UU)) (by kernel_rfl) ⟨⟨TT, TT, TT, ⟨⟨flat_len Pt.cs_len _, flat_len Pt.cs_len _, by omega, by omega⟩, app_len _ _ _ _⟩, TT, TT⟩, ⟨(app_row Pt.cs _ _ _), TT, TT, TT, TT⟩⟩) ?_
        refine Done.mk (inB_n ?_)
        refine Or.inl ⟨rfl, js.snoc j hjm hnj, ?_, ?_⟩
        · show (leftOf es (seenOf es (js.js ++ [j]))).size < _
          rw [seenOf_push es js.js hj]; exact hlt
        · simp only [Come.snoc]
          rw [comeKeys_snoc v js.js hx, seenOf_push es js.js hj]
    rw [Option.bind_some, sort_pt_perm hl] at h
    refine Done.mk (thenQ_n ?_)
    refine awp_seq ?_
    refine bind_el h (fun v1 k6 h => ?_)
    refine awp_regionD Try_mixed (orcs := [(1, { r := some (.tup []), fp := [5001], post := [(5001, .row 63 (v1.flatMap Pt.cs))] })]) (gs := [.castT 4 (.own 5001 0 v1.length 2), .keep [3, 4] [5001, 6000]]) (s' := ⟨[(3, .map 6000), (4, .own 5001 0 v1.length 2)], [(5001, .row 63 (v1.flatMap Pt.cs)), (6000, .ptab 2 (encT keyPt (encL iC) v))]⟩) (by kernel_rfl) (holds_of ((UU ∧ (ASpec Try.prog 26 [.own 5001 0 keys.length 2, .fn 27 [] []] [(5001, .row 63 (keys.flatMap Pt.cs))] (.tup []) [(5001, .row 63 (v1.flatMap Pt.cs))]) ∧ UU) ∧ ((some (AV.own 5001 0 keys.length 2) = some (AV.own 5001 0 v1.length 2)) ∧ UU ∧ UU)) (by kernel_rfl) ⟨⟨TT, aspec_at (sort_pt_ok k6) 0 5001 (by kernel_rfl), TT⟩, ⟨(sort_pt_len k6 _ _), TT, TT⟩⟩) ?_
    refine Done.mk (thenQ_n ?_)
    refine awp_seq ?_
    refine awp_regionD Try_mixed (orcs := []) (gs := [.keep [3, 4, 6] [5001, 6000]]) (s' := ⟨[(3, .map 6000), (4, .own 5001 0 v1.length 2), (6, .nils)], [(5001, .row 63 (v1.flatMap Pt.cs)), (6000, .ptab 2 (encT keyPt (encL iC) v))]⟩) (by kernel_rfl) (holds_of ((UU ∧ UU) ∧ (UU ∧ UU)) (by kernel_rfl) ⟨⟨TT, TT⟩, ⟨TT, TT⟩⟩) ?_
    refine Done.mk (thenQ_n ?_)
    refine awp_seq ?_
    refine awp_seq ?_
    refine awp_regionD Try_mixed (orcs := []) (gs := [.keep [3, 6, 26, 27, 28] [5001, 6000]]) (s' := ⟨[(3, .map 6000), (6, .nils), (26, .own 5001 0 v1.length 2), (27, pI ((v1.length : Int))), (28, pI 0)], [(5001, .row 63 (v1.flatMap Pt.cs)), (6000, .ptab 2 (encT keyPt (encL iC) v))]⟩) (by kernel_rfl) (holds_of ((UU ∧ UU ∧ UU ∧ UU) ∧ (UU ∧ UU)) (by kernel_rfl) ⟨⟨TT, TT, TT, TT⟩, ⟨TT, TT⟩⟩) ?_
    refine Done.mk (thenQ_n ?_)
    refine awp_block ?_
    refine bind_el h (fun out_2 hm h => ?_)
    refine awp_gh [.keep [3, 6, 26, 27, 28] [5001, 6000], .opn 6 5004 53 1, .keep [3, 6, 26, 27, 28] [5001, 5004, 6000]] (s' := ⟨[(3, .map 6000), (6, .own 5004 0 (([] : List Poly)).length 1), (26, .own 5001 0 v1.length 2), (27, pI ((v1.length : Int))), (28, pI 0)], [(5001, .row 63 (v1.flatMap Pt.cs)), (5004, .row 53 ((([] : List Poly)).flatMap Poly.cs)), (6000, .ptab 2 (encT keyPt (encL iC) v))]⟩) (by kernel_rfl) (holds_of (UU ∧ UU ∧ UU ∧ UU) (by kernel_rfl) ⟨TT, TT, TT, TT⟩) ?_
    refine awp_tail (fun _ => (Exit.exit 2)) (fun o => match o with | out_2 => ⟨[(6, .own 5004 0 out_2.length 1)], [(5004, .row 53 (out_2.flatMap Poly.cs))]⟩) hm (fun o h => ?_) ?_
    · refine awp_loop' (fun s => match s with | (out_1, t28, m1) => ⟨[(3, .map 6000), (6, .own 5004 0 out_1.length 1), (26, .own 5001 0 v1.length 2), (27, pI ((v1.length : Int))), (28, pI t28)], [(5001, .row 63 (v1.flatMap Pt.cs)), (5004, .row 53 (out_1.flatMap Poly.cs)), (6000, .ptab 2 (encT keyPt (encL iC) m1))]⟩) h (by kernel_rfl) (fun s out h => ?_)
      obtain ⟨out_1, t28, m1⟩ := s
      refine awp_seq ?_
      refine awp_regionD Try_mixed (orcs := []) (gs := [.keep [3, 6, 26, 27, 28, 29] [5001, 5004, 6000]]) (s' := ⟨[(3, .map 6000), (6, .own 5004 0 out_1.length 1), (26, .own 5001 0 v1.length 2), (27, pI ((v1.length : Int))), (28, pI t28), (29, pB (decide (t28 < (v1.length : Int))))], [(5001, .row 63 (v1.flatMap Pt.cs)), (5004, .row 53 (out_1.flatMap Poly.cs)), (6000, .ptab 2 (encT keyPt (encL iC) m1))]⟩) (by kernel_rfl) (holds_of ((UU ∧ UU) ∧ (UU ∧ UU)) (by kernel_rfl) ⟨⟨TT, TT⟩, ⟨TT, TT⟩⟩) ?_
      refine Done.mk (thenQ_n ?_)
      refine awp_seq ?_
      refine ifB_el h (fun k7 h => ?_) (fun k7 h => ?_)
      · refine awp_cond_t (b := decide (t28 < (v1.length : Int))) (by kernel_rfl) k7 ?_
        refine doneSkip ?_
        refine Done.mk (thenQ_n ?_)
        refine awp_seq ?_
        refine bind_el h (fun o hm h => ?_)
        refine awp_tail (fun _ => Exit.normal) (fun o => match o with | (out_, m) => ⟨[(3, .map 6000), (6, .own 5005 0 out_.length 1), (26, .own 5001 0 v1.length 2), (27, pI ((v1.length : Int))), (28, pI t28)], [(5001, .row 63 (v1.flatMap Pt.cs)), (5005, .row 53 (out_.flatMap Poly.cs)), (6000, .ptab 2 (encT keyPt (encL iC) m))]⟩) hm (fun o h => ?_) ?_
        · refine awp_block ?_
          refine awp_seq ?_
          refine bind_el h (fun p_ k8 h => ?_)
          replace k8 := getI_el k8
          refine awp_regionD Try_mixed (orcs := [(1, tV (.agg [pI p_.x, pI p_.y]))]) (gs := [.keep [3, 6, 8, 26, 27, 28] [8, 5001, 5004, 6000]]) (s' := ⟨[(3, .map 6000), (6, .own 5004 0 out_1.length 1), (8, .ptr 8 0), (26, .own 5001 0 v1.length 2), (27, pI ((v1.length : Int))), (28, pI t28)], [(8, .lit 63 [pI p_.x, pI p_.y]), (5001, .row 63 (v1.flatMap Pt.cs)), (5004, .row 53 (out_1.flatMap Poly.cs)), (6000, .ptab 2 (encT keyPt (encL iC) m1))]⟩) (by kernel_rfl) (holds_of ((((0 ≤ t28 ∧ t28 < (v1.length : Int))) ∧ (rowHas (v1.flatMap Pt.cs) (0 + t28.toNat * 2) [pI p_.x, pI p_.y]) ∧ UU ∧ UU ∧ UU) ∧ (UU ∧ UU)) (by kernel_rfl) ⟨⟨k8.2, row_has Pt.cs_len k8.1 (o := 0) (m := 2) (by omega) (by decide), TT, TT, TT⟩, ⟨TT, TT⟩⟩) ?_
          refine Done.mk (thenQ_n ?_)
          refine awp_seq ?_
          refine awp_regionD Try_mixed (orcs := [(2, tV (.p (encL iC (getT ([] : (List Int)) p_ m1))))]) (gs := [.keep [3, 6, 8, 26, 27, 28, 36] [8, 5001, 5004, 6000]]) (s' := ⟨[(3, .map 6000), (6, .own 5004 0 out_1.length 1), (8, .ptr 8 0), (26, .own 5001 0 v1.length 2), (27, pI ((v1.length : Int))), (28, pI t28), (36, pB (decide ((((getT ([] : (List Int)) p_ m1).length : Int) : Int) > (0 : Int))))], [(8, .lit 63 [pI p_.x, pI p_.y]), (5001, .row 63 (v1.flatMap Pt.cs)), (5004, .row 53 (out_1.flatMap Poly.cs)), (6000, .ptab 2 (encT keyPt (encL iC) m1))]⟩) (by kernel_rfl) (holds_of ((UU ∧ UU ∧ ((UU ∧ some (AV.p ((tGet (keyPt p_) (encT keyPt (encL iC) m1)).getD ((encL iC) []))) = some (AV.p (encL iC (getT ([] : (List Int)) p_ m1))))) ∧ UU ∧ UU ∧ UU) ∧ (UU ∧ UU)) (by kernel_rfl) ⟨⟨TT, TT, ⟨TT, get_told keyPt_inj _ _ _ _⟩, TT, TT, TT⟩, ⟨TT, TT⟩⟩) ?_
          refine Done.mk (thenQ_n ?_)
          refine ifB_el h (fun k9 h => ?_) (fun k9 h => ?_)
          · refine awp_cond_t (b := decide ((((getT ([] : (List Int)) p_ m1).length : Int) : Int) > (0 : Int))) (by kernel_rfl) k9 ?_
            refine bind_el h (fun v2 k10 h => ?_)
            refine chk_el h (fun k11 h => ?_)
            refine awp_regionD Try_mixed (orcs := [(3, { r := some (.agg [.p (encL Pt.cs v2.1.pts)]), fp := [6000], post := [(6000, .ptab 2 (encT keyPt (encL iC) v2.2))] }), (5, tV (.own 42 0 (out_1 ++ ([Poly.mk v2.1.pts])).length 1))]) (gs := [.castB 42 (.row 53 ((out_1 ++ ([Poly.mk v2.1.pts])).flatMap Poly.cs)), .keep [3, 6, 26, 27, 28] [42, 5001, 6000]]) (s' := ⟨[(3, .map 6000), (6, .own 42 0 (out_1 ++ ([Poly.mk v2.1.pts])).length 1), (26, .own 5001 0 v1.length 2), (27, pI ((v1.length : Int))), (28, pI t28)], [(42, .row 53 ((out_1 ++ ([Poly.mk v2.1.pts])).flatMap Poly.cs)), (5001, .row 63 (v1.flatMap Pt.cs)), (6000, .ptab 2 (encT keyPt (encL iC) v2.2))]⟩) (by kernel_rfl) (holds_of ((UU ∧ UU ∧ UU ∧ (ASpec Try.prog 28 [.map 6000, .agg [pI p_.x, pI p_.y]] [(6000, .ptab 2 (encT keyPt (encL iC) m1))] (.agg [.p (encL Pt.cs v2.1.pts)]) [(6000, .ptab 2 (encT keyPt (encL iC) v2.2))]) ∧ UU ∧ ((((out_1.flatMap Poly.cs).length = out_1.length * 1 ∧ (([Poly.mk v2.1.pts]).flatMap Poly.cs).length = ([Poly.mk v2.1.pts]).length * 1 ∧ (out_1.length + ([Poly.mk v2.1.pts]).length) * 24 ≤ 140737488355328 ∧ out_1.length + ([Poly.mk v2.1.pts]).length ≤ 9223372036854775807) ∧ some (AV.own 42 0 (out_1.length + ([Poly.mk v2.1.pts]).length) 1) = some (AV.own 42 0 (out_1 ++ ([Poly.mk v2.1.pts])).length 1))) ∧ UU ∧ UU) ∧ ((some (ABlk.row 53 (out_1.flatMap Poly.cs ++ ([Poly.mk v2.1.pts]).flatMap Poly.cs)) = some (ABlk.row 53 ((out_1 ++ ([Poly.mk v2.1.pts])).flatMap Poly.cs))) ∧ UU ∧ UU)) (by kernel_rfl) ⟨⟨TT, TT, TT, aspec_at (boundary_cracks_walk_ok k10) 0 6000 (by kernel_rfl), TT, ⟨⟨flat_len Poly.cs_len _, flat_len Poly.cs_len _, by omega, by omega⟩, app_len _ _ _ _⟩, TT, TT⟩, ⟨(app_row Poly.cs _ _ _), TT, TT⟩⟩) ?_
            refine Done.gh [.keep [3, 6, 26, 27, 28] [42, 5001, 6000], .ren 42 5005, .keep [3, 6, 26, 27, 28] [5001, 5005, 6000]] (s' := ⟨[(3, .map 6000), (6, .own 5005 0 (out_1 ++ ([Poly.mk v2.1.pts])).length 1), (26, .own 5001 0 v1.length 2), (27, pI ((v1.length : Int))), (28, pI t28)], [(5001, .row 63 (v1.flatMap Pt.cs)), (5005, .row 53 ((out_1 ++ ([Poly.mk v2.1.pts])).flatMap Poly.cs)), (6000, .ptab 2 (encT keyPt (encL iC) v2.2))]⟩) (by kernel_rfl) (holds_of (UU ∧ UU ∧ UU ∧ UU) (by kernel_rfl) ⟨TT, TT, TT, TT⟩) ?_
            refine Done.mk (inB_n ?_)
            obtain rfl := Option.some.inj h
            exact ⟨rfl, by kernel_rfl⟩
          · refine awp_cond_f (b := decide ((((getT ([] : (List Int)) p_ m1).length : Int) : Int) > (0 : Int))) (by kernel_rfl) k9 ?_
            refine doneSkip ?_
            refine Done.gh [.keep [3, 6, 26, 27, 28] [5001, 5004, 6000], .ren 5004 5005, .keep [3, 6, 26, 27, 28] [5001, 5005, 6000]] (s' := ⟨[(3, .map 6000), (6, .own 5005 0 out_1.length 1), (26, .own 5001 0 v1.length 2), (27, pI ((v1.length : Int))), (28, pI t28)], [(5001, .row 63 (v1.flatMap Pt.cs)), (5005, .row 53 (out_1.flatMap Poly.cs)), (6000, .ptab 2 (encT keyPt (encL iC) m1))]⟩) (by kernel_rfl) (holds_of (UU ∧ UU ∧ UU ∧ UU) (by kernel_rfl) ⟨TT, TT, TT, TT⟩) ?_
            refine Done.mk (inB_n ?_)
            obtain rfl := Option.some.inj h
            exact ⟨rfl, by kernel_rfl⟩
        · obtain ⟨out_, m⟩ := o
          refine Done.as (e := Exit.normal) (s := ⟨[(3, .map 6000), (6, .own 5005 0 out_.length 1), (26, .own 5001 0 v1.length 2), (27, pI ((v1.length : Int))), (28, pI t28)], [(5001, .row 63 (v1.flatMap Pt.cs)), (5005, .row 53 (out_.flatMap Poly.cs)), (6000, .ptab 2 (encT keyPt (encL iC) m))]⟩) rfl (by kernel_rfl) ?_
          refine Done.mk (thenQ_n ?_)
          refine chk_el h (fun k12 h => ?_)
          refine awp_regionD Try_mixed (orcs := []) (gs := [.keep [3, 6, 26, 27, 28] [5001, 5005, 6000]]) (s' := ⟨[(3, .map 6000), (6, .own 5005 0 out_.length 1), (26, .own 5001 0 v1.length 2), (27, pI ((v1.length : Int))), (28, pI (t28 + 1))], [(5001, .row 63 (v1.flatMap Pt.cs)), (5005, .row 53 (out_.flatMap Poly.cs)), (6000, .ptab 2 (encT keyPt (encL iC) m))]⟩) (by kernel_rfl) (holds_of (((InR .i64 (t28 + 1 : Int)) ∧ UU ∧ UU) ∧ (UU ∧ UU)) (by kernel_rfl) ⟨⟨k12, TT, TT⟩, ⟨TT, TT⟩⟩) ?_
          refine Done.gh [.keep [3, 6, 26, 27, 28] [5001, 5005, 6000], .ren 5005 5004, .keep [3, 6, 26, 27, 28] [5001, 5004, 6000]] (s' := ⟨[(3, .map 6000), (6, .own 5004 0 out_.length 1), (26, .own 5001 0 v1.length 2), (27, pI ((v1.length : Int))), (28, pI (t28 + 1))], [(5001, .row 63 (v1.flatMap Pt.cs)), (5004, .row 53 (out_.flatMap Poly.cs)), (6000, .ptab 2 (encT keyPt (encL iC) m))]⟩) (by kernel_rfl) (holds_of (UU ∧ UU ∧ UU ∧ UU) (by kernel_rfl) ⟨TT, TT, TT, TT⟩) ?_
          refine Done.mk ?_
          obtain rfl := Option.some.inj h
          exact ⟨rfl, by kernel_rfl⟩
      · refine awp_cond_f (b := decide (t28 < (v1.length : Int))) (by kernel_rfl) k7 ?_
        refine doneExit ?_
        refine Done.gh [.keep [6] [5004], .keep [6] [5004]] (s' := ⟨[(6, .own 5004 0 out_1.length 1)], [(5004, .row 53 (out_1.flatMap Poly.cs))]⟩) (by kernel_rfl) (holds_of (UU ∧ UU ∧ UU) (by kernel_rfl) ⟨TT, TT, TT⟩) ?_
        refine Done.mk (thenQ_x ?_)
        obtain rfl := Option.some.inj h
        exact ⟨fun q => (by cases q), fun q => (by subst q; exact ⟨rfl, by kernel_rfl⟩)⟩
    · have _ := hm
      refine Done.as (e := (Exit.exit 2)) (s := ⟨[(6, .own 5004 0 out_2.length 1)], [(5004, .row 53 (out_2.flatMap Poly.cs))]⟩) rfl (by kernel_rfl) ?_
      refine Done.mk (inB_hit (thenQ_n ?_))
      refine awp_seq ?_
      refine awp_regionD Try_mixed (orcs := []) (gs := [.keep [2] [5004]]) (s' := ⟨[(2, .own 5004 0 out_2.length 1)], [(5004, .row 53 (out_2.flatMap Poly.cs))]⟩) (by kernel_rfl) (holds_of ((UU ∧ UU ∧ UU) ∧ (UU ∧ UU)) (by kernel_rfl) ⟨⟨TT, TT, TT⟩, ⟨TT, TT⟩⟩) ?_
      refine Done.mk (thenQ_n ?_)
      refine doneRet ?_
      refine Done.gh [.frz 5004, .keep [2] []] (s' := ⟨[(2, .p (encL Poly.cs out_2))], []⟩) (by kernel_rfl) (holds_of (UU ∧ UU ∧ UU) (by kernel_rfl) ⟨TT, TT, TT⟩) ?_
      refine Done.mk ?_
      obtain rfl := Option.some.inj h
      exact ⟨Or.inr rfl, by kernel_rfl, by kernel_rfl⟩
end
end Go.AM
end
section
namespace Go.AM
open Go Go.RowKit Go.Proofs
noncomputable section
set_option maxRecDepth 100000 in
set_option maxHeartbeats 4000000 in
theorem ringwalk_sign_ok {n : Int} {r : Int} (h : ringwalk_sign n = some r) : ASpec Try.prog 55 [pI n] [] (pI r) [] := by
  refine aspec_of Try.func55 (c := _) rfl (by kernel_rfl) (by rw [Try.ntmps55]; exact Nat.le_of_ble_eq_true rfl) ?_
  refine awp_seq ?_
  refine awp_regionD Try_mixed (orcs := []) (gs := [.keep [0] []]) (s' := ⟨[(0, pI n)], []⟩) (by kernel_rfl) (holds_of ((UU ∧ UU) ∧ (UU ∧ UU)) (by kernel_rfl) ⟨⟨TT, TT⟩, ⟨TT, TT⟩⟩) ?_
  refine Done.mk (thenQ_n ?_)
  refine awp_seq ?_
  refine awp_block ?_
  refine awp_seq ?_
  refine awp_regionD Try_mixed (orcs := []) (gs := [.keep [0, 3] []]) (s' := ⟨[(0, pI n), (3, pB (decide (n > (0 : Int))))], []⟩) (by kernel_rfl) (holds_of ((UU ∧ UU ∧ UU ∧ UU) ∧ (UU ∧ UU)) (by kernel_rfl) ⟨⟨TT, TT, TT, TT⟩, ⟨TT, TT⟩⟩) ?_
  refine Done.mk (thenQ_n ?_)
  refine ifB_el h (fun k1 h => ?_) (fun k1 h => ?_)
  · refine awp_cond_t (b := decide (n > (0 : Int))) (by kernel_rfl) k1 ?_
    refine awp_seq ?_
    refine awp_regionD Try_mixed (orcs := []) (gs := [.keep [2] []]) (s' := ⟨[(2, pI 1)], []⟩) (by kernel_rfl) (holds_of ((UU ∧ UU) ∧ (UU ∧ UU)) (by kernel_rfl) ⟨⟨TT, TT⟩, ⟨TT, TT⟩⟩) ?_
    refine Done.mk (thenQ_n ?_)
    refine doneRet ?_
    refine Done.mk (inB_r (thenQ_r ?_))
    obtain rfl := Option.some.inj h
    exact ⟨Or.inr rfl, by kernel_rfl, by kernel_rfl⟩
  · refine awp_cond_f (b := decide (n > (0 : Int))) (by kernel_rfl) k1 ?_
    refine awp_seq ?_
    refine awp_regionD Try_mixed (orcs := []) (gs := [.keep [6] []]) (s' := ⟨[(6, pB (decide (n < (0 : Int))))], []⟩) (by kernel_rfl) (holds_of ((UU ∧ UU ∧ UU ∧ UU) ∧ (UU ∧ UU)) (by kernel_rfl) ⟨⟨TT, TT, TT, TT⟩, ⟨TT, TT⟩⟩) ?_
    refine Done.mk (thenQ_n ?_)
    refine ifB_el h (fun k2 h => ?_) (fun k2 h => ?_)
    · refine awp_cond_t (b := decide (n < (0 : Int))) (by kernel_rfl) k2 ?_
      refine awp_seq ?_
      refine awp_regionD Try_mixed (orcs := []) (gs := [.keep [2] []]) (s' := ⟨[(2, pI (-1))], []⟩) (by kernel_rfl) (holds_of ((UU ∧ UU) ∧ (UU ∧ UU)) (by kernel_rfl) ⟨⟨TT, TT⟩, ⟨TT, TT⟩⟩) ?_
      refine Done.mk (thenQ_n ?_)
      refine doneRet ?_
      refine Done.mk (inB_r (thenQ_r ?_))
      obtain rfl := Option.some.inj h
      exact ⟨Or.inr rfl, by kernel_rfl, by kernel_rfl⟩
    · refine awp_cond_f (b := decide (n < (0 : Int))) (by kernel_rfl) k2 ?_
      refine doneSkip ?_
      refine Done.mk (inB_n (thenQ_n ?_))
      refine awp_seq ?_
      refine awp_regionD Try_mixed (orcs := []) (gs := [.keep [2] []]) (s' := ⟨[(2, pI 0)], []⟩) (by kernel_rfl) (holds_of ((UU ∧ UU) ∧ (UU ∧ UU)) (by kernel_rfl) ⟨⟨TT, TT⟩, ⟨TT, TT⟩⟩) ?_
      refine Done.mk (thenQ_n ?_)
      refine doneRet ?_
      refine Done.mk ?_
      obtain rfl := Option.some.inj h
      exact ⟨Or.inr rfl, by kernel_rfl, by kernel_rfl⟩
end
end Go.AM
end
section
namespace Go.AM
open Go Go.RowKit Go.Proofs
noncomputable section
set_option maxRecDepth 100000 in
set_option maxHeartbeats 4000000 in
theorem ringwalk_direction_ok {a : Pt} {b : Pt} {r : Pt} (h : ringwalk_direction a b = some r) : ASpec Try.prog 34 [.agg [pI a.x, pI a.y], .agg [pI b.x, pI b.y]] [] (.agg [pI r.x, pI r.y]) [] := by
  refine aspec_of Try.func34 (c := _) rfl (by kernel_rfl) (by rw [Try.ntmps34]; exact Nat.le_of_ble_eq_true rfl) ?_
  refine awp_seq ?_
  refine awp_regionD Try_mixed (orcs := []) (gs := [.keep [2, 3, 4] [2, 3, 4]]) (s' := ⟨[(2, .ptr 2 0), (3, .ptr 3 0), (4, .ptr 4 0)], [(2, .lit 63 [pI a.x, pI a.y]), (3, .lit 63 [pI b.x, pI b.y]), (4, .lit 63 [pI 0, pI 0])]⟩) (by kernel_rfl) (holds_of ((UU ∧ UU ∧ UU ∧ UU) ∧ (UU ∧ UU)) (by kernel_rfl) ⟨⟨TT, TT, TT, TT⟩, ⟨TT, TT⟩⟩) ?_
  refine Done.mk (thenQ_n ?_)
  refine awp_seq ?_
  refine chk_el h (fun k1 h => ?_)
  refine bind_el h (fun n k2 h => ?_)
  refine chk_el h (fun k3 h => ?_)
  refine bind_el h (fun n1 k4 h => ?_)
  refine awp_regionD Try_mixed (orcs := [(5, tV (pI n)), (11, tV (pI n1))]) (gs := [.keep [4] [4]]) (s' := ⟨[(4, .ptr 4 0)], [(4, .lit 63 [pI n, pI n1])]⟩) (by kernel_rfl) (holds_of ((UU ∧ UU ∧ UU ∧ UU ∧ (InR .i64 (b.x - a.x : Int)) ∧ (ASpec Try.prog 55 [pI (b.x - a.x)] [] (pI n) []) ∧ UU ∧ UU ∧ UU ∧ UU ∧ (InR .i64 (b.y - a.y : Int)) ∧ (ASpec Try.prog 55 [pI (b.y - a.y)] [] (pI n1) []) ∧ UU ∧ UU ∧ UU) ∧ (UU ∧ UU)) (by kernel_rfl) ⟨⟨TT, TT, TT, TT, k1, ringwalk_sign_ok k2, TT, TT, TT, TT, k3, ringwalk_sign_ok k4, TT, TT, TT⟩, ⟨TT, TT⟩⟩) ?_
  refine Done.mk (thenQ_n ?_)
  refine doneRet ?_
  refine Done.mk ?_
  obtain rfl := Option.some.inj h
  exact ⟨Or.inr rfl, by kernel_rfl, by kernel_rfl⟩
end
end Go.AM
end
section
namespace Go.AM
open Go Go.RowKit Go.Proofs
noncomputable section
set_option maxRecDepth 100000 in
set_option maxHeartbeats 4000000 in
theorem ringwalk_add_ok {l : (List Cell)} {c : Cell} {r : (List Cell)} (h : ringwalk_add l c = some r) : ASpec Try.prog 35 [.own 0 0 l.length 2, .agg [pI c.x, pI c.y]] [(0, .row 37 (l.flatMap Cell.cs))] (.own 6000 0 r.length 2) [(6000, .row 37 (r.flatMap Cell.cs))] := by
  refine aspec_of Try.func35 (c := _) rfl (by kernel_rfl) (by rw [Try.ntmps35]; exact Nat.le_of_ble_eq_true rfl) ?_
  refine awp_seq ?_
  refine awp_regionD Try_mixed (orcs := []) (gs := [.keep [0, 3] [0, 3]]) (s' := ⟨[(0, .own 0 0 l.length 2), (3, .ptr 3 0)], [(0, .row 37 (l.flatMap Cell.cs)), (3, .lit 37 [pI c.x, pI c.y])]⟩) (by kernel_rfl) (holds_of ((UU ∧ UU ∧ UU) ∧ (UU ∧ UU)) (by kernel_rfl) ⟨⟨TT, TT, TT⟩, ⟨TT, TT⟩⟩) ?_
  refine Done.mk (thenQ_n ?_)
  refine awp_seq ?_
  refine awp_seq ?_
  refine bind_el h (fun t17 hm h => ?_)
  refine awp_tail (fun _ => Exit.normal) (fun o => match o with | t17 => ⟨[(0, .own 0 0 l.length 2), (3, .ptr 3 0), (17, pB t17)], [(0, .row 37 (l.flatMap Cell.cs)), (3, .lit 37 [pI c.x, pI c.y])]⟩) hm (fun o h => ?_) ?_
  · refine ifB_el h (fun k1 h => ?_) (fun k1 h => ?_)
    · refine chk_el h (fun k2 h => ?_)
      refine bind_el h (fun c1 k3 h => ?_)
      replace k3 := getI_el k3
      refine awp_regionD Try_mixed (orcs := [(3, tB true), (9, tV (.agg [pI c1.x, pI c1.y]))]) (gs := [.keep [0, 3, 17] [0, 3]]) (s' := ⟨[(0, .own 0 0 l.length 2), (3, .ptr 3 0), (17, pB ((c1.x == c.x) && ((c1.y == c.y) && true)))], [(0, .row 37 (l.flatMap Cell.cs)), (3, .lit 37 [pI c.x, pI c.y])]⟩) (by kernel_rfl) (holds_of ((UU ∧ UU ∧ UU ∧ ((UU ∧ some (pB (decide ((l.length : Int) > (0 : Int)))) = some (pB true))) ∧ UU ∧ UU ∧ UU ∧ (InR .i64 (((l.length : Int)) - 1 : Int)) ∧ ((0 ≤ (((l.length : Int)) - 1 : Int) ∧ (((l.length : Int)) - 1 : Int) < (l.length : Int))) ∧ (rowHas (l.flatMap Cell.cs) (0 + (((l.length : Int)) - 1 : Int).toNat * 2) [pI c1.x, pI c1.y]) ∧ UU ∧ UU ∧ UU ∧ UU) ∧ (UU ∧ UU)) (by kernel_rfl) ⟨⟨TT, TT, TT, ⟨TT, by rw [k1]⟩, TT, TT, TT, k2, k3.2, row_has Cell.cs_len k3.1 (o := 0) (m := 2) (by omega) (by decide), TT, TT, TT, TT⟩, ⟨TT, TT⟩⟩) ?_
      refine Done.mk ?_
      obtain rfl := Option.some.inj h
      exact ⟨rfl, by kernel_rfl⟩
    · refine awp_regionD Try_mixed (orcs := [(3, tB false)]) (gs := [.keep [0, 3, 17] [0, 3]]) (s' := ⟨[(0, .own 0 0 l.length 2), (3, .ptr 3 0), (17, pB false)], [(0, .row 37 (l.flatMap Cell.cs)), (3, .lit 37 [pI c.x, pI c.y])]⟩) (by kernel_rfl) (holds_of ((UU ∧ UU ∧ UU ∧ ((UU ∧ some (pB (decide ((l.length : Int) > (0 : Int)))) = some (pB false))) ∧ UU ∧ UU) ∧ (UU ∧ UU)) (by kernel_rfl) ⟨⟨TT, TT, TT, ⟨TT, by rw [k1]⟩, TT, TT⟩, ⟨TT, TT⟩⟩) ?_
      refine Done.mk ?_
      obtain rfl := Option.some.inj h
      exact ⟨rfl, by kernel_rfl⟩
  · have _ := hm
    refine Done.as (e := Exit.normal) (s := ⟨[(0, .own 0 0 l.length 2), (3, .ptr 3 0), (17, pB t17)], [(0, .row 37 (l.flatMap Cell.cs)), (3, .lit 37 [pI c.x, pI c.y])]⟩) rfl (by kernel_rfl) ?_
    refine Done.mk (thenQ_n ?_)
    refine ifB_el h (fun k4 h => ?_) (fun k4 h => ?_)
    · refine awp_cond_t (b := t17) (by kernel_rfl) k4 ?_
      refine awp_seq ?_
      refine awp_regionD Try_mixed (orcs := []) (gs := [.keep [4] [0]]) (s' := ⟨[(4, .own 0 0 l.length 2)], [(0, .row 37 (l.flatMap Cell.cs))]⟩) (by kernel_rfl) (holds_of ((UU ∧ UU ∧ UU) ∧ (UU ∧ UU)) (by kernel_rfl) ⟨⟨TT, TT, TT⟩, ⟨TT, TT⟩⟩) ?_
      refine Done.mk (thenQ_n ?_)
      refine doneRet ?_
      refine Done.gh [.ren 0 6000, .keep [4] [6000]] (s' := ⟨[(4, .own 6000 0 l.length 2)], [(6000, .row 37 (l.flatMap Cell.cs))]⟩) (by kernel_rfl) (holds_of (UU ∧ UU ∧ UU) (by kernel_rfl) ⟨TT, TT, TT⟩) ?_
      refine Done.mk (thenQ_r ?_)
      obtain rfl := Option.some.inj h
      exact ⟨Or.inr rfl, by kernel_rfl, by kernel_rfl⟩
    · refine awp_cond_f (b := t17) (by kernel_rfl) k4 ?_
      refine doneSkip ?_
      refine Done.mk (thenQ_n ?_)
      refine awp_seq ?_
      refine chk_el h (fun k5 h => ?_)
      refine awp_regionD Try_mixed (orcs := [(3, tV (.own 22 0 (l ++ ([c])).length 2))]) (gs := [.castB 22 (.row 37 ((l ++ ([c])).flatMap Cell.cs)), .keep [4] [22]]) (s' := ⟨[(4, .own 22 0 (l ++ ([c])).length 2)], [(22, .row 37 ((l ++ ([c])).flatMap Cell.cs))]⟩) (by kernel_rfl) (holds_of ((UU ∧ UU ∧ UU ∧ ((((l.flatMap Cell.cs).length = l.length * 2 ∧ (([c]).flatMap Cell.cs).length = ([c]).length * 2 ∧ (l.length + ([c]).length) * 16 ≤ 140737488355328 ∧ l.length + ([c]).length ≤ 9223372036854775807) ∧ some (AV.own 22 0 (l.length + ([c]).length) 2) = some (AV.own 22 0 (l ++ ([c])).length 2))) ∧ UU ∧ UU) ∧ ((some (ABlk.row 37 (l.flatMap Cell.cs ++ ([c]).flatMap Cell.cs)) = some (ABlk.row 37 ((l ++ ([c])).flatMap Cell.cs))) ∧ UU ∧ UU)) (by kernel_rfl) ⟨⟨TT, TT, TT, ⟨⟨flat_len Cell.cs_len _, flat_len Cell.cs_len _, by omega, by omega⟩, app_len _ _ _ _⟩, TT, TT⟩, ⟨(app_row Cell.cs _ _ _), TT, TT⟩⟩) ?_
      refine Done.mk (thenQ_n ?_)
      refine doneRet ?_
      refine Done.gh [.ren 22 6000, .keep [4] [6000]] (s' := ⟨[(4, .own 6000 0 (l ++ ([c])).length 2)], [(6000, .row 37 ((l ++ ([c])).flatMap Cell.cs))]⟩) (by kernel_rfl) (holds_of (UU ∧ UU ∧ UU) (by kernel_rfl) ⟨TT, TT, TT⟩) ?_
      refine Done.mk ?_
      obtain rfl := Option.some.inj h
      exact ⟨Or.inr rfl, by kernel_rfl, by kernel_rfl⟩
end
end Go.AM
end
