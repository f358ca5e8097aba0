/- Models of functions, and that their calls do what the models say. Printed by gen.py. -/
import Derived.Test.YtijdlphadhpabaaProg
import Derived.Test.YtijdlphadhpabaaA3
import Derived.Test.YtijdlphadhpabaaA1
import Derived.Test.YtijdlphadhpabaaA9
import Derived.Test.YtijdlphadhpabaaA4
import Derived.Test.YtijdlphadhpabaaA2
import Derived.Test.YtijdlphadhpabaaA8
import Derived.Test.YtijdlphadhpabaaA6
import Derived.Test.YtijdlphadhpabaaA5
import Derived.Test.YtijdlphadhpabaaA7
import Derived.Test.YtijdlphadhpabaaF1
import Derived.Test.YtijdlphadhpabaaF2
import Derived.Test.YtijdlphadhpabaaF3
section
namespace Go.AM
open Go Go.RowKit Go.Proofs
noncomputable section
set_option maxRecDepth 100000 in
set_option maxHeartbeats 4000000 in
theorem boundary_collect_ok {t0 : Region} {r : (List (Pt × (List Int)))} (h : boundary_collect t0 = some r) : ASpec Try.prog 25 [.agg [.p (encL Row.cs t0.rows)]] [] (.map 6000) [(6000, .ptab 2 (encT keyPt (encL iC) r))] := by
  refine aspec_of Try.func25 (c := _) rfl (by kernel_rfl) (by rw [Try.ntmps25]; exact Nat.le_of_ble_eq_true rfl) ?_
  refine awp_seq ?_
  refine awp_regionD Try_mixed (orcs := []) (gs := [.keep [1] [1]]) (s' := ⟨[(1, .ptr 1 0)], [(1, .lit 24 [.p (encL Row.cs t0.rows)])]⟩) (by kernel_rfl) (holds_of ((UU ∧ UU ∧ UU) ∧ (UU ∧ UU)) (by kernel_rfl) ⟨⟨TT, TT, TT⟩, ⟨TT, TT⟩⟩) ?_
  refine Done.mk (thenQ_n ?_)
  refine awp_seq ?_
  refine awp_regionD Try_mixed (orcs := [(0, { own := true })]) (gs := [.keep [1, 3] [1, 16]]) (s' := ⟨[(1, .ptr 1 0), (3, .map 16)], [(1, .lit 24 [.p (encL Row.cs t0.rows)]), (16, .tab 2 89 (encM (([] : (List (Pt × (List Int)))))))]⟩) (by kernel_rfl) (holds_of ((UU ∧ UU ∧ UU) ∧ (UU ∧ UU)) (by kernel_rfl) ⟨⟨TT, TT, TT⟩, ⟨TT, TT⟩⟩) ?_
  refine Done.mk (thenQ_n ?_)
  refine awp_seq ?_
  refine awp_seq ?_
  refine awp_regionD Try_mixed (orcs := []) (gs := [.keep [1, 3, 18, 19, 20] [1, 16]]) (s' := ⟨[(1, .ptr 1 0), (3, .map 16), (18, .p (encL Row.cs t0.rows)), (19, pI ((t0.rows.length : Int))), (20, pI 0)], [(1, .lit 24 [.p (encL Row.cs t0.rows)]), (16, .tab 2 89 (encM (([] : (List (Pt × (List Int)))))))]⟩) (by kernel_rfl) (holds_of ((UU ∧ UU ∧ UU ∧ UU ∧ UU) ∧ (UU ∧ UU)) (by kernel_rfl) ⟨⟨TT, TT, TT, TT, TT⟩, ⟨TT, TT⟩⟩) ?_
  refine Done.mk (thenQ_n ?_)
  refine awp_block ?_
  refine bind_el h (fun m11 hm h => ?_)
  refine awp_gh [.keep [1, 3, 18, 19, 20] [1, 16], .keep [1, 3, 18, 19, 20] [1, 16]] (s' := ⟨[(1, .ptr 1 0), (3, .map 16), (18, .p (encL Row.cs t0.rows)), (19, pI ((t0.rows.length : Int))), (20, pI 0)], [(1, .lit 24 [.p (encL Row.cs t0.rows)]), (16, .tab 2 89 (encM (([] : (List (Pt × (List Int)))))))]⟩) (by kernel_rfl) (holds_of (UU ∧ UU ∧ UU) (by kernel_rfl) ⟨TT, TT, TT⟩) ?_
  refine awp_tail (fun _ => (Exit.exit 0)) (fun o => match o with | m11 => ⟨[(3, .map 16)], [(16, .tab 2 89 (encM m11))]⟩) hm (fun o h => ?_) ?_
  · refine awp_loop' (fun s => match s with | (t20, m10) => ⟨[(1, .ptr 1 0), (3, .map 16), (18, .p (encL Row.cs t0.rows)), (19, pI ((t0.rows.length : Int))), (20, pI t20)], [(1, .lit 24 [.p (encL Row.cs t0.rows)]), (16, .tab 2 89 (encM m10))]⟩) h (by kernel_rfl) (fun s out h => ?_)
    obtain ⟨t20, m10⟩ := s
    refine awp_seq ?_
    refine awp_regionD Try_mixed (orcs := []) (gs := [.keep [1, 3, 18, 19, 20, 21] [1, 16]]) (s' := ⟨[(1, .ptr 1 0), (3, .map 16), (18, .p (encL Row.cs t0.rows)), (19, pI ((t0.rows.length : Int))), (20, pI t20), (21, pB (decide (t20 < (t0.rows.length : Int))))], [(1, .lit 24 [.p (encL Row.cs t0.rows)]), (16, .tab 2 89 (encM m10))]⟩) (by kernel_rfl) (holds_of ((UU ∧ UU) ∧ (UU ∧ UU)) (by kernel_rfl) ⟨⟨TT, TT⟩, ⟨TT, TT⟩⟩) ?_
    refine Done.mk (thenQ_n ?_)
    refine awp_seq ?_
    refine ifB_el h (fun k1 h => ?_) (fun k1 h => ?_)
    · refine awp_cond_t (b := decide (t20 < (t0.rows.length : Int))) (by kernel_rfl) k1 ?_
      refine doneSkip ?_
      refine Done.mk (thenQ_n ?_)
      refine awp_seq ?_
      refine awp_block ?_
      refine awp_seq ?_
      refine bind_el h (fun r_ k2 h => ?_)
      replace k2 := getI_el k2
      refine awp_regionD Try_mixed (orcs := [(2, tV (.agg [pI r_.y, .p (encL Run.cs r_.runs)]))]) (gs := [.keep [1, 3, 4, 5, 18, 19, 20] [1, 5, 16]]) (s' := ⟨[(1, .ptr 1 0), (3, .map 16), (4, pI t20), (5, .ptr 5 0), (18, .p (encL Row.cs t0.rows)), (19, pI ((t0.rows.length : Int))), (20, pI t20)], [(1, .lit 24 [.p (encL Row.cs t0.rows)]), (5, .lit 48 [pI r_.y, .p (encL Run.cs r_.runs)]), (16, .tab 2 89 (encM m10))]⟩) (by kernel_rfl) (holds_of ((UU ∧ ((0 ≤ t20 ∧ t20 < (t0.rows.length : Int))) ∧ (rowHas (t0.rows.flatMap Row.cs) (t20.toNat * 2) [pI r_.y, .p (encL Run.cs r_.runs)]) ∧ UU ∧ UU ∧ UU ∧ UU) ∧ (UU ∧ UU)) (by kernel_rfl) ⟨⟨TT, k2.2, row_has Row.cs_len k2.1 (o := 0) (m := 2) (by omega) (by decide), TT, TT, TT, TT⟩, ⟨TT, TT⟩⟩) ?_
      refine Done.mk (thenQ_n ?_)
      refine awp_seq ?_
      refine bind_el h (fun v k3 h => ?_)
      refine awp_regionD Try_mixed (orcs := [(2, tV (.tup [.p (encL Run.cs v.1), .p (encL Run.cs v.2)]))]) (gs := [.keep [1, 3, 5, 6, 7, 18, 19, 20] [1, 5, 16]]) (s' := ⟨[(1, .ptr 1 0), (3, .map 16), (5, .ptr 5 0), (6, .p (encL Run.cs v.1)), (7, .p (encL Run.cs v.2)), (18, .p (encL Row.cs t0.rows)), (19, pI ((t0.rows.length : Int))), (20, pI t20)], [(1, .lit 24 [.p (encL Row.cs t0.rows)]), (5, .lit 48 [pI r_.y, .p (encL Run.cs r_.runs)]), (16, .tab 2 89 (encM m10))]⟩) (by kernel_rfl) (holds_of ((UU ∧ UU ∧ (ASpec Try.prog 44 [.agg [.p (encL Row.cs t0.rows)], pI t20] [] (.tup [.p (encL Run.cs v.1), .p (encL Run.cs v.2)]) []) ∧ UU ∧ UU ∧ UU ∧ UU ∧ UU ∧ UU) ∧ (UU ∧ UU)) (by kernel_rfl) ⟨⟨TT, TT, boundary_around_ok k3, TT, TT, TT, TT, TT, TT⟩, ⟨TT, TT⟩⟩) ?_
      refine Done.mk (thenQ_n ?_)
      refine awp_seq ?_
      refine awp_seq ?_
      refine bind_el h (fun v1 k4 h => ?_)
      refine awp_regionD Try_mixed (orcs := [(3, tV (.p (encL Run.cs v1)))]) (gs := [.keep [1, 3, 5, 7, 18, 19, 20, 34, 35, 36] [1, 5, 16]]) (s' := ⟨[(1, .ptr 1 0), (3, .map 16), (5, .ptr 5 0), (7, .p (encL Run.cs v.2)), (18, .p (encL Row.cs t0.rows)), (19, pI ((t0.rows.length : Int))), (20, pI t20), (34, .p (encL Run.cs v1)), (35, pI ((v1.length : Int))), (36, pI 0)], [(1, .lit 24 [.p (encL Row.cs t0.rows)]), (5, .lit 48 [pI r_.y, .p (encL Run.cs r_.runs)]), (16, .tab 2 89 (encM m10))]⟩) (by kernel_rfl) (holds_of ((UU ∧ UU ∧ UU ∧ (ASpec Try.prog 45 [.p (encL Run.cs r_.runs), .p (encL Run.cs v.1)] [] (.p (encL Run.cs v1)) []) ∧ UU ∧ UU ∧ UU) ∧ (UU ∧ UU)) (by kernel_rfl) ⟨⟨TT, TT, TT, runs_Subtract_ok k4, TT, TT, TT⟩, ⟨TT, TT⟩⟩) ?_
      refine Done.mk (thenQ_n ?_)
      refine awp_block ?_
      refine bind_el h (fun m3 hm h => ?_)
      refine awp_gh [.keep [1, 3, 5, 7, 18, 19, 20, 34, 35, 36] [1, 5, 16], .keep [1, 3, 5, 7, 18, 19, 20, 34, 35, 36] [1, 5, 16]] (s' := ⟨[(1, .ptr 1 0), (3, .map 16), (5, .ptr 5 0), (7, .p (encL Run.cs v.2)), (18, .p (encL Row.cs t0.rows)), (19, pI ((t0.rows.length : Int))), (20, pI t20), (34, .p (encL Run.cs v1)), (35, pI ((v1.length : Int))), (36, pI 0)], [(1, .lit 24 [.p (encL Row.cs t0.rows)]), (5, .lit 48 [pI r_.y, .p (encL Run.cs r_.runs)]), (16, .tab 2 89 (encM m10))]⟩) (by kernel_rfl) (holds_of (UU ∧ UU ∧ UU) (by kernel_rfl) ⟨TT, TT, TT⟩) ?_
      refine awp_tail (fun _ => (Exit.exit 2)) (fun o => match o with | m3 => ⟨[(1, .ptr 1 0), (3, .map 16), (5, .ptr 5 0), (7, .p (encL Run.cs v.2)), (18, .p (encL Row.cs t0.rows)), (19, pI ((t0.rows.length : Int))), (20, pI t20)], [(1, .lit 24 [.p (encL Row.cs t0.rows)]), (5, .lit 48 [pI r_.y, .p (encL Run.cs r_.runs)]), (16, .tab 2 89 (encM m3))]⟩) hm (fun o h => ?_) ?_
      · refine awp_loop' (fun s => match s with | (t36, m2) => ⟨[(1, .ptr 1 0), (3, .map 16), (5, .ptr 5 0), (7, .p (encL Run.cs v.2)), (18, .p (encL Row.cs t0.rows)), (19, pI ((t0.rows.length : Int))), (20, pI t20), (34, .p (encL Run.cs v1)), (35, pI ((v1.length : Int))), (36, pI t36)], [(1, .lit 24 [.p (encL Row.cs t0.rows)]), (5, .lit 48 [pI r_.y, .p (encL Run.cs r_.runs)]), (16, .tab 2 89 (encM m2))]⟩) h (by kernel_rfl) (fun s out h => ?_)
        obtain ⟨t36, m2⟩ := s
        refine awp_seq ?_
        refine awp_regionD Try_mixed (orcs := []) (gs := [.keep [1, 3, 5, 7, 18, 19, 20, 34, 35, 36, 37] [1, 5, 16]]) (s' := ⟨[(1, .ptr 1 0), (3, .map 16), (5, .ptr 5 0), (7, .p (encL Run.cs v.2)), (18, .p (encL Row.cs t0.rows)), (19, pI ((t0.rows.length : Int))), (20, pI t20), (34, .p (encL Run.cs v1)), (35, pI ((v1.length : Int))), (36, pI t36), (37, pB (decide (t36 < (v1.length : Int))))], [(1, .lit 24 [.p (encL Row.cs t0.rows)]), (5, .lit 48 [pI r_.y, .p (encL Run.cs r_.runs)]), (16, .tab 2 89 (encM m2))]⟩) (by kernel_rfl) (holds_of ((UU ∧ UU) ∧ (UU ∧ UU)) (by kernel_rfl) ⟨⟨TT, TT⟩, ⟨TT, TT⟩⟩) ?_
        refine Done.mk (thenQ_n ?_)
        refine awp_seq ?_
        refine ifB_el h (fun k5 h => ?_) (fun k5 h => ?_)
        · refine awp_cond_t (b := decide (t36 < (v1.length : Int))) (by kernel_rfl) k5 ?_
          refine doneSkip ?_
          refine Done.mk (thenQ_n ?_)
          refine awp_seq ?_
          refine awp_block ?_
          refine awp_seq ?_
          refine bind_el h (fun r_1 k6 h => ?_)
          replace k6 := getI_el k6
          refine awp_regionD Try_mixed (orcs := [(1, tV (.agg [pI r_1.frm, pI r_1.to]))]) (gs := [.keep [1, 3, 5, 7, 9, 18, 19, 20, 34, 35, 36] [1, 5, 9, 16]]) (s' := ⟨[(1, .ptr 1 0), (3, .map 16), (5, .ptr 5 0), (7, .p (encL Run.cs v.2)), (9, .ptr 9 0), (18, .p (encL Row.cs t0.rows)), (19, pI ((t0.rows.length : Int))), (20, pI t20), (34, .p (encL Run.cs v1)), (35, pI ((v1.length : Int))), (36, pI t36)], [(1, .lit 24 [.p (encL Row.cs t0.rows)]), (5, .lit 48 [pI r_.y, .p (encL Run.cs r_.runs)]), (9, .lit 57 [pI r_1.frm, pI r_1.to]), (16, .tab 2 89 (encM m2))]⟩) (by kernel_rfl) (holds_of ((((0 ≤ t36 ∧ t36 < (v1.length : Int))) ∧ (rowHas (v1.flatMap Run.cs) (t36.toNat * 2) [pI r_1.frm, pI r_1.to]) ∧ UU ∧ UU ∧ UU) ∧ (UU ∧ UU)) (by kernel_rfl) ⟨⟨k6.2, row_has Run.cs_len k6.1 (o := 0) (m := 2) (by omega) (by decide), TT, TT, TT⟩, ⟨TT, TT⟩⟩) ?_
          refine Done.mk (thenQ_n ?_)
          refine awp_seq ?_
          refine awp_regionD Try_mixed (orcs := []) (gs := [.keep [1, 3, 5, 7, 9, 10, 18, 19, 20, 34, 35, 36] [1, 5, 9, 16]]) (s' := ⟨[(1, .ptr 1 0), (3, .map 16), (5, .ptr 5 0), (7, .p (encL Run.cs v.2)), (9, .ptr 9 0), (10, pI r_1.frm), (18, .p (encL Row.cs t0.rows)), (19, pI ((t0.rows.length : Int))), (20, pI t20), (34, .p (encL Run.cs v1)), (35, pI ((v1.length : Int))), (36, pI t36)], [(1, .lit 24 [.p (encL Row.cs t0.rows)]), (5, .lit 48 [pI r_.y, .p (encL Run.cs r_.runs)]), (9, .lit 57 [pI r_1.frm, pI r_1.to]), (16, .tab 2 89 (encM m2))]⟩) (by kernel_rfl) (holds_of ((UU ∧ UU ∧ UU ∧ UU) ∧ (UU ∧ UU)) (by kernel_rfl) ⟨⟨TT, TT, TT, TT⟩, ⟨TT, TT⟩⟩) ?_
          refine Done.mk (thenQ_n ?_)
          refine awp_block ?_
          refine bind_el h (fun m1 hm h => ?_)
          refine awp_gh [.keep [1, 3, 5, 7, 9, 10, 18, 19, 20, 34, 35, 36] [1, 5, 9, 16], .keep [1, 3, 5, 7, 9, 10, 18, 19, 20, 34, 35, 36] [1, 5, 9, 16]] (s' := ⟨[(1, .ptr 1 0), (3, .map 16), (5, .ptr 5 0), (7, .p (encL Run.cs v.2)), (9, .ptr 9 0), (10, pI r_1.frm), (18, .p (encL Row.cs t0.rows)), (19, pI ((t0.rows.length : Int))), (20, pI t20), (34, .p (encL Run.cs v1)), (35, pI ((v1.length : Int))), (36, pI t36)], [(1, .lit 24 [.p (encL Row.cs t0.rows)]), (5, .lit 48 [pI r_.y, .p (encL Run.cs r_.runs)]), (9, .lit 57 [pI r_1.frm, pI r_1.to]), (16, .tab 2 89 (encM m2))]⟩) (by kernel_rfl) (holds_of (UU ∧ UU ∧ UU) (by kernel_rfl) ⟨TT, TT, TT⟩) ?_
          refine awp_tail (fun _ => (Exit.exit 4)) (fun o => match o with | m1 => ⟨[(1, .ptr 1 0), (3, .map 16), (5, .ptr 5 0), (7, .p (encL Run.cs v.2)), (18, .p (encL Row.cs t0.rows)), (19, pI ((t0.rows.length : Int))), (20, pI t20), (34, .p (encL Run.cs v1)), (35, pI ((v1.length : Int))), (36, pI t36)], [(1, .lit 24 [.p (encL Row.cs t0.rows)]), (5, .lit 48 [pI r_.y, .p (encL Run.cs r_.runs)]), (16, .tab 2 89 (encM m1))]⟩) hm (fun o h => ?_) ?_
          · refine awp_loop' (fun s => match s with | (t10, m) => ⟨[(1, .ptr 1 0), (3, .map 16), (5, .ptr 5 0), (7, .p (encL Run.cs v.2)), (9, .ptr 9 0), (10, pI t10), (18, .p (encL Row.cs t0.rows)), (19, pI ((t0.rows.length : Int))), (20, pI t20), (34, .p (encL Run.cs v1)), (35, pI ((v1.length : Int))), (36, pI t36)], [(1, .lit 24 [.p (encL Row.cs t0.rows)]), (5, .lit 48 [pI r_.y, .p (encL Run.cs r_.runs)]), (9, .lit 57 [pI r_1.frm, pI r_1.to]), (16, .tab 2 89 (encM m))]⟩) h (by kernel_rfl) (fun s out h => ?_)
            obtain ⟨t10, m⟩ := s
            refine awp_seq ?_
            refine awp_seq ?_
            refine awp_regionD Try_mixed (orcs := []) (gs := [.keep [1, 3, 5, 7, 9, 10, 18, 19, 20, 34, 35, 36, 45] [1, 5, 9, 16]]) (s' := ⟨[(1, .ptr 1 0), (3, .map 16), (5, .ptr 5 0), (7, .p (encL Run.cs v.2)), (9, .ptr 9 0), (10, pI t10), (18, .p (encL Row.cs t0.rows)), (19, pI ((t0.rows.length : Int))), (20, pI t20), (34, .p (encL Run.cs v1)), (35, pI ((v1.length : Int))), (36, pI t36), (45, pB (decide (t10 < r_1.to)))], [(1, .lit 24 [.p (encL Row.cs t0.rows)]), (5, .lit 48 [pI r_.y, .p (encL Run.cs r_.runs)]), (9, .lit 57 [pI r_1.frm, pI r_1.to]), (16, .tab 2 89 (encM m))]⟩) (by kernel_rfl) (holds_of ((UU ∧ UU ∧ UU ∧ UU ∧ UU) ∧ (UU ∧ UU)) (by kernel_rfl) ⟨⟨TT, TT, TT, TT, TT⟩, ⟨TT, TT⟩⟩) ?_
            refine Done.mk (thenQ_n ?_)
            refine ifB_el h (fun k7 h => ?_) (fun k7 h => ?_)
            · refine awp_cond_t (b := decide (t10 < r_1.to)) (by kernel_rfl) k7 ?_
              refine doneSkip ?_
              refine Done.mk (thenQ_n ?_)
              refine awp_seq ?_
              refine awp_block ?_
              refine bind_el h (fun v2 k8 h => ?_)
              refine awp_regionD Try_mixed (orcs := [(5, { r := some (.tup []), fp := [16], post := [(16, .tab 2 89 (encM v2))] })]) (gs := [.keep [1, 3, 5, 7, 9, 10, 18, 19, 20, 34, 35, 36] [1, 5, 9, 16]]) (s' := ⟨[(1, .ptr 1 0), (3, .map 16), (5, .ptr 5 0), (7, .p (encL Run.cs v.2)), (9, .ptr 9 0), (10, pI t10), (18, .p (encL Row.cs t0.rows)), (19, pI ((t0.rows.length : Int))), (20, pI t20), (34, .p (encL Run.cs v1)), (35, pI ((v1.length : Int))), (36, pI t36)], [(1, .lit 24 [.p (encL Row.cs t0.rows)]), (5, .lit 48 [pI r_.y, .p (encL Run.cs r_.runs)]), (9, .lit 57 [pI r_1.frm, pI r_1.to]), (16, .tab 2 89 (encM v2))]⟩) (by kernel_rfl) (holds_of ((UU ∧ UU ∧ UU ∧ UU ∧ UU ∧ (ASpec Try.prog 46 [.map 16, .agg [pI t10, pI r_.y], pI 0] [(16, .tab 2 89 (encM m))] (.tup []) [(16, .tab 2 89 (encM v2))]) ∧ UU) ∧ (UU ∧ UU)) (by kernel_rfl) ⟨⟨TT, TT, TT, TT, TT, aspec_at (cracks_add_ok' k8) 0 16 (by kernel_rfl), TT⟩, ⟨TT, TT⟩⟩) ?_
              refine Done.mk (inB_n (thenQ_n ?_))
              refine chk_el h (fun k9 h => ?_)
              refine awp_regionD Try_mixed (orcs := []) (gs := [.keep [1, 3, 5, 7, 9, 10, 18, 19, 20, 34, 35, 36] [1, 5, 9, 16]]) (s' := ⟨[(1, .ptr 1 0), (3, .map 16), (5, .ptr 5 0), (7, .p (encL Run.cs v.2)), (9, .ptr 9 0), (10, pI (t10 + 1)), (18, .p (encL Row.cs t0.rows)), (19, pI ((t0.rows.length : Int))), (20, pI t20), (34, .p (encL Run.cs v1)), (35, pI ((v1.length : Int))), (36, pI t36)], [(1, .lit 24 [.p (encL Row.cs t0.rows)]), (5, .lit 48 [pI r_.y, .p (encL Run.cs r_.runs)]), (9, .lit 57 [pI r_1.frm, pI r_1.to]), (16, .tab 2 89 (encM v2))]⟩) (by kernel_rfl) (holds_of ((UU ∧ (InR .i64 (t10 + 1 : Int)) ∧ UU ∧ UU) ∧ (UU ∧ UU)) (by kernel_rfl) ⟨⟨TT, k9, TT, TT⟩, ⟨TT, TT⟩⟩) ?_
              refine Done.mk ?_
              obtain rfl := Option.some.inj h
              exact ⟨rfl, by kernel_rfl⟩
            · refine awp_cond_f (b := decide (t10 < r_1.to)) (by kernel_rfl) k7 ?_
              refine doneExit ?_
              refine Done.gh [.keep [1, 3, 5, 7, 18, 19, 20, 34, 35, 36] [1, 5, 16], .keep [1, 3, 5, 7, 18, 19, 20, 34, 35, 36] [1, 5, 16]] (s' := ⟨[(1, .ptr 1 0), (3, .map 16), (5, .ptr 5 0), (7, .p (encL Run.cs v.2)), (18, .p (encL Row.cs t0.rows)), (19, pI ((t0.rows.length : Int))), (20, pI t20), (34, .p (encL Run.cs v1)), (35, pI ((v1.length : Int))), (36, pI t36)], [(1, .lit 24 [.p (encL Row.cs t0.rows)]), (5, .lit 48 [pI r_.y, .p (encL Run.cs r_.runs)]), (16, .tab 2 89 (encM m))]⟩) (by kernel_rfl) (holds_of (UU ∧ UU ∧ UU) (by kernel_rfl) ⟨TT, TT, TT⟩) ?_
              refine Done.mk (thenQ_x ?_)
              obtain rfl := Option.some.inj h
              exact ⟨fun q => (by cases q), fun q => (by subst q; exact ⟨rfl, by kernel_rfl⟩)⟩
          · have _ := hm
            refine Done.as (e := (Exit.exit 4)) (s := ⟨[(1, .ptr 1 0), (3, .map 16), (5, .ptr 5 0), (7, .p (encL Run.cs v.2)), (18, .p (encL Row.cs t0.rows)), (19, pI ((t0.rows.length : Int))), (20, pI t20), (34, .p (encL Run.cs v1)), (35, pI ((v1.length : Int))), (36, pI t36)], [(1, .lit 24 [.p (encL Row.cs t0.rows)]), (5, .lit 48 [pI r_.y, .p (encL Run.cs r_.runs)]), (16, .tab 2 89 (encM m1))]⟩) rfl (by kernel_rfl) ?_
            refine Done.mk (inB_hit (inB_n (thenQ_n ?_)))
            refine chk_el h (fun k10 h => ?_)
            refine awp_regionD Try_mixed (orcs := []) (gs := [.keep [1, 3, 5, 7, 18, 19, 20, 34, 35, 36] [1, 5, 16]]) (s' := ⟨[(1, .ptr 1 0), (3, .map 16), (5, .ptr 5 0), (7, .p (encL Run.cs v.2)), (18, .p (encL Row.cs t0.rows)), (19, pI ((t0.rows.length : Int))), (20, pI t20), (34, .p (encL Run.cs v1)), (35, pI ((v1.length : Int))), (36, pI (t36 + 1))], [(1, .lit 24 [.p (encL Row.cs t0.rows)]), (5, .lit 48 [pI r_.y, .p (encL Run.cs r_.runs)]), (16, .tab 2 89 (encM m1))]⟩) (by kernel_rfl) (holds_of (((InR .i64 (t36 + 1 : Int)) ∧ UU ∧ UU) ∧ (UU ∧ UU)) (by kernel_rfl) ⟨⟨k10, TT, TT⟩, ⟨TT, TT⟩⟩) ?_
            refine Done.mk ?_
            obtain rfl := Option.some.inj h
            exact ⟨rfl, by kernel_rfl⟩
        · refine awp_cond_f (b := decide (t36 < (v1.length : Int))) (by kernel_rfl) k5 ?_
          refine doneExit ?_
          refine Done.gh [.keep [1, 3, 5, 7, 18, 19, 20] [1, 5, 16], .keep [1, 3, 5, 7, 18, 19, 20] [1, 5, 16]] (s' := ⟨[(1, .ptr 1 0), (3, .map 16), (5, .ptr 5 0), (7, .p (encL Run.cs v.2)), (18, .p (encL Row.cs t0.rows)), (19, pI ((t0.rows.length : Int))), (20, pI t20)], [(1, .lit 24 [.p (encL Row.cs t0.rows)]), (5, .lit 48 [pI r_.y, .p (encL Run.cs r_.runs)]), (16, .tab 2 89 (encM m2))]⟩) (by kernel_rfl) (holds_of (UU ∧ UU ∧ UU) (by kernel_rfl) ⟨TT, TT, TT⟩) ?_
          refine Done.mk (thenQ_x ?_)
          obtain rfl := Option.some.inj h
          exact ⟨fun q => (by cases q), fun q => (by subst q; exact ⟨rfl, by kernel_rfl⟩)⟩
      · have _ := hm
        refine Done.as (e := (Exit.exit 2)) (s := ⟨[(1, .ptr 1 0), (3, .map 16), (5, .ptr 5 0), (7, .p (encL Run.cs v.2)), (18, .p (encL Row.cs t0.rows)), (19, pI ((t0.rows.length : Int))), (20, pI t20)], [(1, .lit 24 [.p (encL Row.cs t0.rows)]), (5, .lit 48 [pI r_.y, .p (encL Run.cs r_.runs)]), (16, .tab 2 89 (encM m3))]⟩) rfl (by kernel_rfl) ?_
        refine Done.mk (inB_hit (thenQ_n ?_))
        refine awp_seq ?_
        refine awp_seq ?_
        refine bind_el h (fun v3 k11 h => ?_)
        refine awp_regionD Try_mixed (orcs := [(3, tV (.p (encL Run.cs v3)))]) (gs := [.keep [1, 3, 5, 18, 19, 20, 58, 59, 60] [1, 5, 16]]) (s' := ⟨[(1, .ptr 1 0), (3, .map 16), (5, .ptr 5 0), (18, .p (encL Row.cs t0.rows)), (19, pI ((t0.rows.length : Int))), (20, pI t20), (58, .p (encL Run.cs v3)), (59, pI ((v3.length : Int))), (60, pI 0)], [(1, .lit 24 [.p (encL Row.cs t0.rows)]), (5, .lit 48 [pI r_.y, .p (encL Run.cs r_.runs)]), (16, .tab 2 89 (encM m3))]⟩) (by kernel_rfl) (holds_of ((UU ∧ UU ∧ UU ∧ (ASpec Try.prog 45 [.p (encL Run.cs r_.runs), .p (encL Run.cs v.2)] [] (.p (encL Run.cs v3)) []) ∧ UU ∧ UU ∧ UU) ∧ (UU ∧ UU)) (by kernel_rfl) ⟨⟨TT, TT, TT, runs_Subtract_ok k11, TT, TT, TT⟩, ⟨TT, TT⟩⟩) ?_
        refine Done.mk (thenQ_n ?_)
        refine awp_block ?_
        refine bind_el h (fun m7 hm h => ?_)
        refine awp_gh [.keep [1, 3, 5, 18, 19, 20, 58, 59, 60] [1, 5, 16], .keep [1, 3, 5, 18, 19, 20, 58, 59, 60] [1, 5, 16]] (s' := ⟨[(1, .ptr 1 0), (3, .map 16), (5, .ptr 5 0), (18, .p (encL Row.cs t0.rows)), (19, pI ((t0.rows.length : Int))), (20, pI t20), (58, .p (encL Run.cs v3)), (59, pI ((v3.length : Int))), (60, pI 0)], [(1, .lit 24 [.p (encL Row.cs t0.rows)]), (5, .lit 48 [pI r_.y, .p (encL Run.cs r_.runs)]), (16, .tab 2 89 (encM m3))]⟩) (by kernel_rfl) (holds_of (UU ∧ UU ∧ UU) (by kernel_rfl) ⟨TT, TT, TT⟩) ?_
        refine awp_tail (fun _ => (Exit.exit 6)) (fun o => match o with | m7 => ⟨[(1, .ptr 1 0), (3, .map 16), (5, .ptr 5 0), (18, .p (encL Row.cs t0.rows)), (19, pI ((t0.rows.length : Int))), (20, pI t20)], [(1, .lit 24 [.p (encL Row.cs t0.rows)]), (5, .lit 48 [pI r_.y, .p (encL Run.cs r_.runs)]), (16, .tab 2 89 (encM m7))]⟩) hm (fun o h => ?_) ?_
        · refine awp_loop' (fun s => match s with | (t60, m6) => ⟨[(1, .ptr 1 0), (3, .map 16), (5, .ptr 5 0), (18, .p (encL Row.cs t0.rows)), (19, pI ((t0.rows.length : Int))), (20, pI t20), (58, .p (encL Run.cs v3)), (59, pI ((v3.length : Int))), (60, pI t60)], [(1, .lit 24 [.p (encL Row.cs t0.rows)]), (5, .lit 48 [pI r_.y, .p (encL Run.cs r_.runs)]), (16, .tab 2 89 (encM m6))]⟩) h (by kernel_rfl) (fun s out h => ?_)
          obtain ⟨t60, m6⟩ := s
          refine awp_seq ?_
          refine awp_regionD Try_mixed (orcs := []) (gs := [.keep [1, 3, 5, 18, 19, 20, 58, 59, 60, 61] [1, 5, 16]]) (s' := ⟨[(1, .ptr 1 0), (3, .map 16), (5, .ptr 5 0), (18, .p (encL Row.cs t0.rows)), (19, pI ((t0.rows.length : Int))), (20, pI t20), (58, .p (encL Run.cs v3)), (59, pI ((v3.length : Int))), (60, pI t60), (61, pB (decide (t60 < (v3.length : Int))))], [(1, .lit 24 [.p (encL Row.cs t0.rows)]), (5, .lit 48 [pI r_.y, .p (encL Run.cs r_.runs)]), (16, .tab 2 89 (encM m6))]⟩) (by kernel_rfl) (holds_of ((UU ∧ UU) ∧ (UU ∧ UU)) (by kernel_rfl) ⟨⟨TT, TT⟩, ⟨TT, TT⟩⟩) ?_
          refine Done.mk (thenQ_n ?_)
          refine awp_seq ?_
          refine ifB_el h (fun k12 h => ?_) (fun k12 h => ?_)
          · refine awp_cond_t (b := decide (t60 < (v3.length : Int))) (by kernel_rfl) k12 ?_
            refine doneSkip ?_
            refine Done.mk (thenQ_n ?_)
            refine awp_seq ?_
            refine awp_block ?_
            refine awp_seq ?_
            refine bind_el h (fun r_2 k13 h => ?_)
            replace k13 := getI_el k13
            refine awp_regionD Try_mixed (orcs := [(1, tV (.agg [pI r_2.frm, pI r_2.to]))]) (gs := [.keep [1, 3, 5, 12, 18, 19, 20, 58, 59, 60] [1, 5, 12, 16]]) (s' := ⟨[(1, .ptr 1 0), (3, .map 16), (5, .ptr 5 0), (12, .ptr 12 0), (18, .p (encL Row.cs t0.rows)), (19, pI ((t0.rows.length : Int))), (20, pI t20), (58, .p (encL Run.cs v3)), (59, pI ((v3.length : Int))), (60, pI t60)], [(1, .lit 24 [.p (encL Row.cs t0.rows)]), (5, .lit 48 [pI r_.y, .p (encL Run.cs r_.runs)]), (12, .lit 57 [pI r_2.frm, pI r_2.to]), (16, .tab 2 89 (encM m6))]⟩) (by kernel_rfl) (holds_of ((((0 ≤ t60 ∧ t60 < (v3.length : Int))) ∧ (rowHas (v3.flatMap Run.cs) (t60.toNat * 2) [pI r_2.frm, pI r_2.to]) ∧ UU ∧ UU ∧ UU) ∧ (UU ∧ UU)) (by kernel_rfl) ⟨⟨k13.2, row_has Run.cs_len k13.1 (o := 0) (m := 2) (by omega) (by decide), TT, TT, TT⟩, ⟨TT, TT⟩⟩) ?_
            refine Done.mk (thenQ_n ?_)
            refine awp_seq ?_
            refine awp_regionD Try_mixed (orcs := []) (gs := [.keep [1, 3, 5, 12, 13, 18, 19, 20, 58, 59, 60] [1, 5, 12, 16]]) (s' := ⟨[(1, .ptr 1 0), (3, .map 16), (5, .ptr 5 0), (12, .ptr 12 0), (13, pI r_2.frm), (18, .p (encL Row.cs t0.rows)), (19, pI ((t0.rows.length : Int))), (20, pI t20), (58, .p (encL Run.cs v3)), (59, pI ((v3.length : Int))), (60, pI t60)], [(1, .lit 24 [.p (encL Row.cs t0.rows)]), (5, .lit 48 [pI r_.y, .p (encL Run.cs r_.runs)]), (12, .lit 57 [pI r_2.frm, pI r_2.to]), (16, .tab 2 89 (encM m6))]⟩) (by kernel_rfl) (holds_of ((UU ∧ UU ∧ UU ∧ UU) ∧ (UU ∧ UU)) (by kernel_rfl) ⟨⟨TT, TT, TT, TT⟩, ⟨TT, TT⟩⟩) ?_
            refine Done.mk (thenQ_n ?_)
            refine awp_block ?_
            refine bind_el h (fun m5 hm h => ?_)
            refine awp_gh [.keep [1, 3, 5, 12, 13, 18, 19, 20, 58, 59, 60] [1, 5, 12, 16], .keep [1, 3, 5, 12, 13, 18, 19, 20, 58, 59, 60] [1, 5, 12, 16]] (s' := ⟨[(1, .ptr 1 0), (3, .map 16), (5, .ptr 5 0), (12, .ptr 12 0), (13, pI r_2.frm), (18, .p (encL Row.cs t0.rows)), (19, pI ((t0.rows.length : Int))), (20, pI t20), (58, .p (encL Run.cs v3)), (59, pI ((v3.length : Int))), (60, pI t60)], [(1, .lit 24 [.p (encL Row.cs t0.rows)]), (5, .lit 48 [pI r_.y, .p (encL Run.cs r_.runs)]), (12, .lit 57 [pI r_2.frm, pI r_2.to]), (16, .tab 2 89 (encM m6))]⟩) (by kernel_rfl) (holds_of (UU ∧ UU ∧ UU) (by kernel_rfl) ⟨TT, TT, TT⟩) ?_
            refine awp_tail (fun _ => (Exit.exit 8)) (fun o => match o with | m5 => ⟨[(1, .ptr 1 0), (3, .map 16), (5, .ptr 5 0), (18, .p (encL Row.cs t0.rows)), (19, pI ((t0.rows.length : Int))), (20, pI t20), (58, .p (encL Run.cs v3)), (59, pI ((v3.length : Int))), (60, pI t60)], [(1, .lit 24 [.p (encL Row.cs t0.rows)]), (5, .lit 48 [pI r_.y, .p (encL Run.cs r_.runs)]), (16, .tab 2 89 (encM m5))]⟩) hm (fun o h => ?_) ?_
            · refine awp_loop' (fun s => match s with | (t13, m4) => ⟨[(1, .ptr 1 0), (3, .map 16), (5, .ptr 5 0), (12, .ptr 12 0), (13, pI t13), (18, .p (encL Row.cs t0.rows)), (19, pI ((t0.rows.length : Int))), (20, pI t20), (58, .p (encL Run.cs v3)), (59, pI ((v3.length : Int))), (60, pI t60)], [(1, .lit 24 [.p (encL Row.cs t0.rows)]), (5, .lit 48 [pI r_.y, .p (encL Run.cs r_.runs)]), (12, .lit 57 [pI r_2.frm, pI r_2.to]), (16, .tab 2 89 (encM m4))]⟩) h (by kernel_rfl) (fun s out h => ?_)
              obtain ⟨t13, m4⟩ := s
              refine awp_seq ?_
              refine awp_seq ?_
              refine awp_regionD Try_mixed (orcs := []) (gs := [.keep [1, 3, 5, 12, 13, 18, 19, 20, 58, 59, 60, 69] [1, 5, 12, 16]]) (s' := ⟨[(1, .ptr 1 0), (3, .map 16), (5, .ptr 5 0), (12, .ptr 12 0), (13, pI t13), (18, .p (encL Row.cs t0.rows)), (19, pI ((t0.rows.length : Int))), (20, pI t20), (58, .p (encL Run.cs v3)), (59, pI ((v3.length : Int))), (60, pI t60), (69, pB (decide (t13 < r_2.to)))], [(1, .lit 24 [.p (encL Row.cs t0.rows)]), (5, .lit 48 [pI r_.y, .p (encL Run.cs r_.runs)]), (12, .lit 57 [pI r_2.frm, pI r_2.to]), (16, .tab 2 89 (encM m4))]⟩) (by kernel_rfl) (holds_of ((UU ∧ UU ∧ UU ∧ UU ∧ UU) ∧ (UU ∧ UU)) (by kernel_rfl) ⟨⟨TT, TT, TT, TT, TT⟩, ⟨TT, TT⟩⟩) ?_
              refine Done.mk (thenQ_n ?_)
              refine ifB_el h (fun k14 h => ?_) (fun k14 h => ?_)
              · refine awp_cond_t (b := decide (t13 < r_2.to)) (by kernel_rfl) k14 ?_
                refine doneSkip ?_
                refine Done.mk (thenQ_n ?_)
                refine awp_seq ?_
                refine awp_block ?_
                refine chk_el h (fun k15 h => ?_)
                refine chk_el h (fun k16 h => ?_)
                refine bind_el h (fun v4 k17 h => ?_)
                refine awp_regionD Try_mixed (orcs := [(7, { r := some (.tup []), fp := [16], post := [(16, .tab 2 89 (encM v4))] })]) (gs := [.keep [1, 3, 5, 12, 13, 18, 19, 20, 58, 59, 60] [1, 5, 12, 16]]) (s' := ⟨[(1, .ptr 1 0), (3, .map 16), (5, .ptr 5 0), (12, .ptr 12 0), (13, pI t13), (18, .p (encL Row.cs t0.rows)), (19, pI ((t0.rows.length : Int))), (20, pI t20), (58, .p (encL Run.cs v3)), (59, pI ((v3.length : Int))), (60, pI t60)], [(1, .lit 24 [.p (encL Row.cs t0.rows)]), (5, .lit 48 [pI r_.y, .p (encL Run.cs r_.runs)]), (12, .lit 57 [pI r_2.frm, pI r_2.to]), (16, .tab 2 89 (encM v4))]⟩) (by kernel_rfl) (holds_of ((UU ∧ UU ∧ (InR .i64 (t13 + 1 : Int)) ∧ UU ∧ UU ∧ (InR .i64 (r_.y + 1 : Int)) ∧ UU ∧ (ASpec Try.prog 46 [.map 16, .agg [pI (t13 + 1), pI (r_.y + 1)], pI 2] [(16, .tab 2 89 (encM m4))] (.tup []) [(16, .tab 2 89 (encM v4))]) ∧ UU) ∧ (UU ∧ UU)) (by kernel_rfl) ⟨⟨TT, TT, k15, TT, TT, k16, TT, aspec_at (cracks_add_ok' k17) 0 16 (by kernel_rfl), TT⟩, ⟨TT, TT⟩⟩) ?_
                refine Done.mk (inB_n (thenQ_n ?_))
                refine awp_regionD Try_mixed (orcs := []) (gs := [.keep [1, 3, 5, 12, 13, 18, 19, 20, 58, 59, 60] [1, 5, 12, 16]]) (s' := ⟨[(1, .ptr 1 0), (3, .map 16), (5, .ptr 5 0), (12, .ptr 12 0), (13, pI (t13 + 1)), (18, .p (encL Row.cs t0.rows)), (19, pI ((t0.rows.length : Int))), (20, pI t20), (58, .p (encL Run.cs v3)), (59, pI ((v3.length : Int))), (60, pI t60)], [(1, .lit 24 [.p (encL Row.cs t0.rows)]), (5, .lit 48 [pI r_.y, .p (encL Run.cs r_.runs)]), (12, .lit 57 [pI r_2.frm, pI r_2.to]), (16, .tab 2 89 (encM v4))]⟩) (by kernel_rfl) (holds_of ((UU ∧ (InR .i64 (t13 + 1 : Int)) ∧ UU ∧ UU) ∧ (UU ∧ UU)) (by kernel_rfl) ⟨⟨TT, k15, TT, TT⟩, ⟨TT, TT⟩⟩) ?_
                refine Done.mk ?_
                obtain rfl := Option.some.inj h
                exact ⟨rfl, by kernel_rfl⟩
              · refine awp_cond_f (b := decide (t13 < r_2.to)) (by kernel_rfl) k14 ?_
                refine doneExit ?_
                refine Done.gh [.keep [1, 3, 5, 18, 19, 20, 58, 59, 60] [1, 5, 16], .keep [1, 3, 5, 18, 19, 20, 58, 59, 60] [1, 5, 16]] (s' := ⟨[(1, .ptr 1 0), (3, .map 16), (5, .ptr 5 0), (18, .p (encL Row.cs t0.rows)), (19, pI ((t0.rows.length : Int))), (20, pI t20), (58, .p (encL Run.cs v3)), (59, pI ((v3.length : Int))), (60, pI t60)], [(1, .lit 24 [.p (encL Row.cs t0.rows)]), (5, .lit 48 [pI r_.y, .p (encL Run.cs r_.runs)]), (16, .tab 2 89 (encM m4))]⟩) (by kernel_rfl) (holds_of (UU ∧ UU ∧ UU) (by kernel_rfl) ⟨TT, TT, TT⟩) ?_
                refine Done.mk (thenQ_x ?_)
                obtain rfl := Option.some.inj h
                exact ⟨fun q => (by cases q), fun q => (by subst q; exact ⟨rfl, by kernel_rfl⟩)⟩
            · have _ := hm
              refine Done.as (e := (Exit.exit 8)) (s := ⟨[(1, .ptr 1 0), (3, .map 16), (5, .ptr 5 0), (18, .p (encL Row.cs t0.rows)), (19, pI ((t0.rows.length : Int))), (20, pI t20), (58, .p (encL Run.cs v3)), (59, pI ((v3.length : Int))), (60, pI t60)], [(1, .lit 24 [.p (encL Row.cs t0.rows)]), (5, .lit 48 [pI r_.y, .p (encL Run.cs r_.runs)]), (16, .tab 2 89 (encM m5))]⟩) rfl (by kernel_rfl) ?_
              refine Done.mk (inB_hit (inB_n (thenQ_n ?_)))
              refine chk_el h (fun k18 h => ?_)
              refine awp_regionD Try_mixed (orcs := []) (gs := [.keep [1, 3, 5, 18, 19, 20, 58, 59, 60] [1, 5, 16]]) (s' := ⟨[(1, .ptr 1 0), (3, .map 16), (5, .ptr 5 0), (18, .p (encL Row.cs t0.rows)), (19, pI ((t0.rows.length : Int))), (20, pI t20), (58, .p (encL Run.cs v3)), (59, pI ((v3.length : Int))), (60, pI (t60 + 1))], [(1, .lit 24 [.p (encL Row.cs t0.rows)]), (5, .lit 48 [pI r_.y, .p (encL Run.cs r_.runs)]), (16, .tab 2 89 (encM m5))]⟩) (by kernel_rfl) (holds_of (((InR .i64 (t60 + 1 : Int)) ∧ UU ∧ UU) ∧ (UU ∧ UU)) (by kernel_rfl) ⟨⟨k18, TT, TT⟩, ⟨TT, TT⟩⟩) ?_
              refine Done.mk ?_
              obtain rfl := Option.some.inj h
              exact ⟨rfl, by kernel_rfl⟩
          · refine awp_cond_f (b := decide (t60 < (v3.length : Int))) (by kernel_rfl) k12 ?_
            refine doneExit ?_
            refine Done.gh [.keep [1, 3, 5, 18, 19, 20] [1, 5, 16], .keep [1, 3, 5, 18, 19, 20] [1, 5, 16]] (s' := ⟨[(1, .ptr 1 0), (3, .map 16), (5, .ptr 5 0), (18, .p (encL Row.cs t0.rows)), (19, pI ((t0.rows.length : Int))), (20, pI t20)], [(1, .lit 24 [.p (encL Row.cs t0.rows)]), (5, .lit 48 [pI r_.y, .p (encL Run.cs r_.runs)]), (16, .tab 2 89 (encM m6))]⟩) (by kernel_rfl) (holds_of (UU ∧ UU ∧ UU) (by kernel_rfl) ⟨TT, TT, TT⟩) ?_
            refine Done.mk (thenQ_x ?_)
            obtain rfl := Option.some.inj h
            exact ⟨fun q => (by cases q), fun q => (by subst q; exact ⟨rfl, by kernel_rfl⟩)⟩
        · have _ := hm
          refine Done.as (e := (Exit.exit 6)) (s := ⟨[(1, .ptr 1 0), (3, .map 16), (5, .ptr 5 0), (18, .p (encL Row.cs t0.rows)), (19, pI ((t0.rows.length : Int))), (20, pI t20)], [(1, .lit 24 [.p (encL Row.cs t0.rows)]), (5, .lit 48 [pI r_.y, .p (encL Run.cs r_.runs)]), (16, .tab 2 89 (encM m7))]⟩) rfl (by kernel_rfl) ?_
          refine Done.mk (inB_hit (thenQ_n ?_))
          refine awp_seq ?_
          refine awp_regionD Try_mixed (orcs := []) (gs := [.keep [1, 3, 5, 18, 19, 20, 82, 83, 84] [1, 5, 16]]) (s' := ⟨[(1, .ptr 1 0), (3, .map 16), (5, .ptr 5 0), (18, .p (encL Row.cs t0.rows)), (19, pI ((t0.rows.length : Int))), (20, pI t20), (82, .p (encL Run.cs r_.runs)), (83, pI ((r_.runs.length : Int))), (84, pI 0)], [(1, .lit 24 [.p (encL Row.cs t0.rows)]), (5, .lit 48 [pI r_.y, .p (encL Run.cs r_.runs)]), (16, .tab 2 89 (encM m7))]⟩) (by kernel_rfl) (holds_of ((UU ∧ UU ∧ UU ∧ UU ∧ UU) ∧ (UU ∧ UU)) (by kernel_rfl) ⟨⟨TT, TT, TT, TT, TT⟩, ⟨TT, TT⟩⟩) ?_
          refine Done.mk (thenQ_n ?_)
          refine awp_block ?_
          refine bind_el h (fun m9 hm h => ?_)
          refine awp_gh [.keep [1, 3, 5, 18, 19, 20, 82, 83, 84] [1, 5, 16], .keep [1, 3, 5, 18, 19, 20, 82, 83, 84] [1, 5, 16]] (s' := ⟨[(1, .ptr 1 0), (3, .map 16), (5, .ptr 5 0), (18, .p (encL Row.cs t0.rows)), (19, pI ((t0.rows.length : Int))), (20, pI t20), (82, .p (encL Run.cs r_.runs)), (83, pI ((r_.runs.length : Int))), (84, pI 0)], [(1, .lit 24 [.p (encL Row.cs t0.rows)]), (5, .lit 48 [pI r_.y, .p (encL Run.cs r_.runs)]), (16, .tab 2 89 (encM m7))]⟩) (by kernel_rfl) (holds_of (UU ∧ UU ∧ UU) (by kernel_rfl) ⟨TT, TT, TT⟩) ?_
          refine awp_tail (fun _ => (Exit.exit 10)) (fun o => match o with | m9 => ⟨[(1, .ptr 1 0), (3, .map 16), (18, .p (encL Row.cs t0.rows)), (19, pI ((t0.rows.length : Int))), (20, pI t20)], [(1, .lit 24 [.p (encL Row.cs t0.rows)]), (16, .tab 2 89 (encM m9))]⟩) hm (fun o h => ?_) ?_
          · refine awp_loop' (fun s => match s with | (t84, m8) => ⟨[(1, .ptr 1 0), (3, .map 16), (5, .ptr 5 0), (18, .p (encL Row.cs t0.rows)), (19, pI ((t0.rows.length : Int))), (20, pI t20), (82, .p (encL Run.cs r_.runs)), (83, pI ((r_.runs.length : Int))), (84, pI t84)], [(1, .lit 24 [.p (encL Row.cs t0.rows)]), (5, .lit 48 [pI r_.y, .p (encL Run.cs r_.runs)]), (16, .tab 2 89 (encM m8))]⟩) h (by kernel_rfl) (fun s out h => ?_)
            obtain ⟨t84, m8⟩ := s
            refine awp_seq ?_
            refine awp_regionD Try_mixed (orcs := []) (gs := [.keep [1, 3, 5, 18, 19, 20, 82, 83, 84, 85] [1, 5, 16]]) (s' := ⟨[(1, .ptr 1 0), (3, .map 16), (5, .ptr 5 0), (18, .p (encL Row.cs t0.rows)), (19, pI ((t0.rows.length : Int))), (20, pI t20), (82, .p (encL Run.cs r_.runs)), (83, pI ((r_.runs.length : Int))), (84, pI t84), (85, pB (decide (t84 < (r_.runs.length : Int))))], [(1, .lit 24 [.p (encL Row.cs t0.rows)]), (5, .lit 48 [pI r_.y, .p (encL Run.cs r_.runs)]), (16, .tab 2 89 (encM m8))]⟩) (by kernel_rfl) (holds_of ((UU ∧ UU) ∧ (UU ∧ UU)) (by kernel_rfl) ⟨⟨TT, TT⟩, ⟨TT, TT⟩⟩) ?_
            refine Done.mk (thenQ_n ?_)
            refine awp_seq ?_
            refine ifB_el h (fun k19 h => ?_) (fun k19 h => ?_)
            · refine awp_cond_t (b := decide (t84 < (r_.runs.length : Int))) (by kernel_rfl) k19 ?_
              refine doneSkip ?_
              refine Done.mk (thenQ_n ?_)
              refine awp_seq ?_
              refine awp_block ?_
              refine awp_seq ?_
              refine bind_el h (fun r_3 k20 h => ?_)
              replace k20 := getI_el k20
              refine awp_regionD Try_mixed (orcs := [(1, tV (.agg [pI r_3.frm, pI r_3.to]))]) (gs := [.keep [1, 3, 5, 15, 18, 19, 20, 82, 83, 84] [1, 5, 15, 16]]) (s' := ⟨[(1, .ptr 1 0), (3, .map 16), (5, .ptr 5 0), (15, .ptr 15 0), (18, .p (encL Row.cs t0.rows)), (19, pI ((t0.rows.length : Int))), (20, pI t20), (82, .p (encL Run.cs r_.runs)), (83, pI ((r_.runs.length : Int))), (84, pI t84)], [(1, .lit 24 [.p (encL Row.cs t0.rows)]), (5, .lit 48 [pI r_.y, .p (encL Run.cs r_.runs)]), (15, .lit 57 [pI r_3.frm, pI r_3.to]), (16, .tab 2 89 (encM m8))]⟩) (by kernel_rfl) (holds_of ((((0 ≤ t84 ∧ t84 < (r_.runs.length : Int))) ∧ (rowHas (r_.runs.flatMap Run.cs) (t84.toNat * 2) [pI r_3.frm, pI r_3.to]) ∧ UU ∧ UU ∧ UU) ∧ (UU ∧ UU)) (by kernel_rfl) ⟨⟨k20.2, row_has Run.cs_len k20.1 (o := 0) (m := 2) (by omega) (by decide), TT, TT, TT⟩, ⟨TT, TT⟩⟩) ?_
              refine Done.mk (thenQ_n ?_)
              refine awp_seq ?_
              refine bind_el h (fun v5 k21 h => ?_)
              refine awp_regionD Try_mixed (orcs := [(6, { r := some (.tup []), fp := [16], post := [(16, .tab 2 89 (encM v5))] })]) (gs := [.keep [1, 3, 5, 15, 18, 19, 20, 82, 83, 84] [1, 5, 15, 16]]) (s' := ⟨[(1, .ptr 1 0), (3, .map 16), (5, .ptr 5 0), (15, .ptr 15 0), (18, .p (encL Row.cs t0.rows)), (19, pI ((t0.rows.length : Int))), (20, pI t20), (82, .p (encL Run.cs r_.runs)), (83, pI ((r_.runs.length : Int))), (84, pI t84)], [(1, .lit 24 [.p (encL Row.cs t0.rows)]), (5, .lit 48 [pI r_.y, .p (encL Run.cs r_.runs)]), (15, .lit 57 [pI r_3.frm, pI r_3.to]), (16, .tab 2 89 (encM v5))]⟩) (by kernel_rfl) (holds_of ((UU ∧ UU ∧ UU ∧ UU ∧ UU ∧ UU ∧ (ASpec Try.prog 46 [.map 16, .agg [pI r_3.to, pI r_.y], pI 1] [(16, .tab 2 89 (encM m8))] (.tup []) [(16, .tab 2 89 (encM v5))]) ∧ UU) ∧ (UU ∧ UU)) (by kernel_rfl) ⟨⟨TT, TT, TT, TT, TT, TT, aspec_at (cracks_add_ok' k21) 0 16 (by kernel_rfl), TT⟩, ⟨TT, TT⟩⟩) ?_
              refine Done.mk (thenQ_n ?_)
              refine chk_el h (fun k22 h => ?_)
              refine bind_el h (fun v6 k23 h => ?_)
              refine awp_regionD Try_mixed (orcs := [(7, { r := some (.tup []), fp := [16], post := [(16, .tab 2 89 (encM v6))] })]) (gs := [.keep [1, 3, 5, 18, 19, 20, 82, 83, 84] [1, 5, 16]]) (s' := ⟨[(1, .ptr 1 0), (3, .map 16), (5, .ptr 5 0), (18, .p (encL Row.cs t0.rows)), (19, pI ((t0.rows.length : Int))), (20, pI t20), (82, .p (encL Run.cs r_.runs)), (83, pI ((r_.runs.length : Int))), (84, pI t84)], [(1, .lit 24 [.p (encL Row.cs t0.rows)]), (5, .lit 48 [pI r_.y, .p (encL Run.cs r_.runs)]), (16, .tab 2 89 (encM v6))]⟩) (by kernel_rfl) (holds_of ((UU ∧ UU ∧ UU ∧ UU ∧ UU ∧ (InR .i64 (r_.y + 1 : Int)) ∧ UU ∧ (ASpec Try.prog 46 [.map 16, .agg [pI r_3.frm, pI (r_.y + 1)], pI 3] [(16, .tab 2 89 (encM v5))] (.tup []) [(16, .tab 2 89 (encM v6))]) ∧ UU) ∧ (UU ∧ UU)) (by kernel_rfl) ⟨⟨TT, TT, TT, TT, TT, k22, TT, aspec_at (cracks_add_ok' k23) 0 16 (by kernel_rfl), TT⟩, ⟨TT, TT⟩⟩) ?_
              refine Done.mk (inB_n (thenQ_n ?_))
              refine chk_el h (fun k24 h => ?_)
              refine awp_regionD Try_mixed (orcs := []) (gs := [.keep [1, 3, 5, 18, 19, 20, 82, 83, 84] [1, 5, 16]]) (s' := ⟨[(1, .ptr 1 0), (3, .map 16), (5, .ptr 5 0), (18, .p (encL Row.cs t0.rows)), (19, pI ((t0.rows.length : Int))), (20, pI t20), (82, .p (encL Run.cs r_.runs)), (83, pI ((r_.runs.length : Int))), (84, pI (t84 + 1))], [(1, .lit 24 [.p (encL Row.cs t0.rows)]), (5, .lit 48 [pI r_.y, .p (encL Run.cs r_.runs)]), (16, .tab 2 89 (encM v6))]⟩) (by kernel_rfl) (holds_of (((InR .i64 (t84 + 1 : Int)) ∧ UU ∧ UU) ∧ (UU ∧ UU)) (by kernel_rfl) ⟨⟨k24, TT, TT⟩, ⟨TT, TT⟩⟩) ?_
              refine Done.mk ?_
              obtain rfl := Option.some.inj h
              exact ⟨rfl, by kernel_rfl⟩
            · refine awp_cond_f (b := decide (t84 < (r_.runs.length : Int))) (by kernel_rfl) k19 ?_
              refine doneExit ?_
              refine Done.gh [.keep [1, 3, 18, 19, 20] [1, 16], .keep [1, 3, 18, 19, 20] [1, 16]] (s' := ⟨[(1, .ptr 1 0), (3, .map 16), (18, .p (encL Row.cs t0.rows)), (19, pI ((t0.rows.length : Int))), (20, pI t20)], [(1, .lit 24 [.p (encL Row.cs t0.rows)]), (16, .tab 2 89 (encM m8))]⟩) (by kernel_rfl) (holds_of (UU ∧ UU ∧ UU) (by kernel_rfl) ⟨TT, TT, TT⟩) ?_
              refine Done.mk (thenQ_x ?_)
              obtain rfl := Option.some.inj h
              exact ⟨fun q => (by cases q), fun q => (by subst q; exact ⟨rfl, by kernel_rfl⟩)⟩
          · have _ := hm
            refine Done.as (e := (Exit.exit 10)) (s := ⟨[(1, .ptr 1 0), (3, .map 16), (18, .p (encL Row.cs t0.rows)), (19, pI ((t0.rows.length : Int))), (20, pI t20)], [(1, .lit 24 [.p (encL Row.cs t0.rows)]), (16, .tab 2 89 (encM m9))]⟩) rfl (by kernel_rfl) ?_
            refine Done.mk (inB_hit (inB_n (thenQ_n ?_)))
            refine chk_el h (fun k25 h => ?_)
            refine awp_regionD Try_mixed (orcs := []) (gs := [.keep [1, 3, 18, 19, 20] [1, 16]]) (s' := ⟨[(1, .ptr 1 0), (3, .map 16), (18, .p (encL Row.cs t0.rows)), (19, pI ((t0.rows.length : Int))), (20, pI (t20 + 1))], [(1, .lit 24 [.p (encL Row.cs t0.rows)]), (16, .tab 2 89 (encM m9))]⟩) (by kernel_rfl) (holds_of (((InR .i64 (t20 + 1 : Int)) ∧ UU ∧ UU) ∧ (UU ∧ UU)) (by kernel_rfl) ⟨⟨k25, TT, TT⟩, ⟨TT, TT⟩⟩) ?_
            refine Done.mk ?_
            obtain rfl := Option.some.inj h
            exact ⟨rfl, by kernel_rfl⟩
    · refine awp_cond_f (b := decide (t20 < (t0.rows.length : Int))) (by kernel_rfl) k1 ?_
      refine doneExit ?_
      refine Done.gh [.keep [3] [16], .keep [3] [16]] (s' := ⟨[(3, .map 16)], [(16, .tab 2 89 (encM m10))]⟩) (by kernel_rfl) (holds_of (UU ∧ UU ∧ UU) (by kernel_rfl) ⟨TT, TT, TT⟩) ?_
      refine Done.mk (thenQ_x ?_)
      obtain rfl := Option.some.inj h
      exact ⟨fun q => (by cases q), fun q => (by subst q; exact ⟨rfl, by kernel_rfl⟩)⟩
  · have _ := hm
    refine Done.as (e := (Exit.exit 0)) (s := ⟨[(3, .map 16)], [(16, .tab 2 89 (encM m11))]⟩) rfl (by kernel_rfl) ?_
    refine Done.mk (inB_hit (thenQ_n ?_))
    refine awp_seq ?_
    refine awp_regionD Try_mixed (orcs := []) (gs := [.keep [2] [16]]) (s' := ⟨[(2, .map 16)], [(16, .tab 2 89 (encM m11))]⟩) (by kernel_rfl) (holds_of ((UU ∧ UU ∧ UU) ∧ (UU ∧ UU)) (by kernel_rfl) ⟨⟨TT, TT, TT⟩, ⟨TT, TT⟩⟩) ?_
    refine Done.mk (thenQ_n ?_)
    refine doneRet ?_
    refine Done.gh [.frzTab 16, .castB 16 (.ptab 2 (encT keyPt (encL iC) m11)), .ren 16 6000, .keep [2] [6000]] (s' := ⟨[(2, .map 6000)], [(6000, .ptab 2 (encT keyPt (encL iC) m11))]⟩) (by kernel_rfl) (holds_of (UU ∧ (some (ABlk.ptab 2 (pureTab (encM m11))) = some (ABlk.ptab 2 (encT keyPt (encL iC) m11))) ∧ UU ∧ UU ∧ UU) (by kernel_rfl) ⟨TT, (frz_told _ _), TT, TT, TT⟩) ?_
    refine Done.mk ?_
    obtain rfl := Option.some.inj h
    exact ⟨Or.inr rfl, by kernel_rfl, by kernel_rfl⟩
end
end Go.AM
end
section
namespace Go.AM
open Go Go.RowKit Go.Proofs
noncomputable section
set_option maxRecDepth 100000 in
set_option maxHeartbeats 4000000 in
theorem slices_Index_ok {s_ : (List Int)} {v : Int} {r : Int} (h : slices_Index s_ v = some r) : ASpec Try.prog 73 [.p (encL iC s_), pI v] [] (pI r) [] := by
  refine aspec_of Try.func73 (c := _) rfl (by kernel_rfl) (by rw [Try.ntmps73]; exact Nat.le_of_ble_eq_true rfl) ?_
  refine awp_seq ?_
  refine awp_regionD Try_mixed (orcs := []) (gs := [.keep [0, 1] []]) (s' := ⟨[(0, .p (encL iC s_)), (1, pI v)], []⟩) (by kernel_rfl) (holds_of ((UU ∧ UU) ∧ (UU ∧ UU)) (by kernel_rfl) ⟨⟨TT, TT⟩, ⟨TT, TT⟩⟩) ?_
  refine Done.mk (thenQ_n ?_)
  refine awp_seq ?_
  refine awp_seq ?_
  refine awp_regionD Try_mixed (orcs := []) (gs := [.keep [0, 1, 7, 8] []]) (s' := ⟨[(0, .p (encL iC s_)), (1, pI v), (7, pI ((s_.length : Int))), (8, pI 0)], []⟩) (by kernel_rfl) (holds_of ((UU ∧ UU ∧ UU ∧ UU) ∧ (UU ∧ UU)) (by kernel_rfl) ⟨⟨TT, TT, TT, TT⟩, ⟨TT, TT⟩⟩) ?_
  refine Done.mk (thenQ_n ?_)
  refine awp_block ?_
  refine bind_el h (fun o hm h => ?_)
  refine awp_gh [.keep [0, 1, 7, 8] [], .keep [0, 1, 7, 8] []] (s' := ⟨[(0, .p (encL iC s_)), (1, pI v), (7, pI ((s_.length : Int))), (8, pI 0)], []⟩) (by kernel_rfl) (holds_of (UU ∧ UU ∧ UU) (by kernel_rfl) ⟨TT, TT, TT⟩) ?_
  refine awp_tail (fun o => match o with | .inl _ => (Exit.exit 0) | .inr _ => Exit.ret) (fun o => match o with | .inl _ => ⟨[], []⟩ | .inr t4 => ⟨[(4, pI t4)], []⟩) hm (fun o h => ?_) ?_
  · refine awp_loop' (fun s => match s with | t8 => ⟨[(0, .p (encL iC s_)), (1, pI v), (7, pI ((s_.length : Int))), (8, pI t8)], []⟩) h (by kernel_rfl) (fun t8 out h => ?_)
    refine awp_seq ?_
    refine awp_regionD Try_mixed (orcs := []) (gs := [.keep [0, 1, 7, 8, 9] []]) (s' := ⟨[(0, .p (encL iC s_)), (1, pI v), (7, pI ((s_.length : Int))), (8, pI t8), (9, pB (decide (t8 < (s_.length : Int))))], []⟩) (by kernel_rfl) (holds_of ((UU ∧ UU) ∧ (UU ∧ UU)) (by kernel_rfl) ⟨⟨TT, TT⟩, ⟨TT, TT⟩⟩) ?_
    refine Done.mk (thenQ_n ?_)
    refine awp_seq ?_
    refine ifB_el h (fun k1 h => ?_) (fun k1 h => ?_)
    · refine awp_cond_t (b := decide (t8 < (s_.length : Int))) (by kernel_rfl) k1 ?_
      refine doneSkip ?_
      refine Done.mk (thenQ_n ?_)
      refine awp_seq ?_
      refine awp_block ?_
      refine awp_seq ?_
      refine awp_regionD Try_mixed (orcs := []) (gs := [.keep [0, 1, 5, 7, 8] []]) (s' := ⟨[(0, .p (encL iC s_)), (1, pI v), (5, pI t8), (7, pI ((s_.length : Int))), (8, pI t8)], []⟩) (by kernel_rfl) (holds_of ((UU ∧ UU ∧ UU) ∧ (UU ∧ UU)) (by kernel_rfl) ⟨⟨TT, TT, TT⟩, ⟨TT, TT⟩⟩) ?_
      refine Done.mk (thenQ_n ?_)
      refine awp_seq ?_
      refine bind_el h (fun h_ k2 h => ?_)
      replace k2 := getI_el k2
      refine awp_regionD Try_mixed (orcs := [(4, tV (pI h_))]) (gs := [.keep [0, 1, 5, 7, 8, 16] []]) (s' := ⟨[(0, .p (encL iC s_)), (1, pI v), (5, pI t8), (7, pI ((s_.length : Int))), (8, pI t8), (16, pB (v == h_))], []⟩) (by kernel_rfl) (holds_of ((UU ∧ UU ∧ UU ∧ ((0 ≤ t8 ∧ t8 < (s_.length : Int))) ∧ ((s_.flatMap iC)[t8.toNat * 1]? = some (vI h_)) ∧ UU ∧ UU) ∧ (UU ∧ UU)) (by kernel_rfl) ⟨⟨TT, TT, TT, k2.2, row_at iC_len k2.1 (j := 0) (by omega) (by decide), TT, TT⟩, ⟨TT, TT⟩⟩) ?_
      refine Done.mk (thenQ_n ?_)
      refine ifB_el h (fun k3 h => ?_) (fun k3 h => ?_)
      · refine awp_cond_t (b := v == h_) (by kernel_rfl) k3 ?_
        refine awp_seq ?_
        refine awp_regionD Try_mixed (orcs := []) (gs := [.keep [4] []]) (s' := ⟨[(4, pI t8)], []⟩) (by kernel_rfl) (holds_of ((UU ∧ UU ∧ UU) ∧ (UU ∧ UU)) (by kernel_rfl) ⟨⟨TT, TT, TT⟩, ⟨TT, TT⟩⟩) ?_
        refine Done.mk (thenQ_n ?_)
        refine doneRet ?_
        refine Done.mk (inB_r (thenQ_r ?_))
        obtain rfl := Option.some.inj h
        exact ⟨fun q => (by cases q), fun q => (by subst q; exact ⟨rfl, by kernel_rfl⟩)⟩
      · refine awp_cond_f (b := v == h_) (by kernel_rfl) k3 ?_
        refine doneSkip ?_
        refine Done.mk (inB_n (thenQ_n ?_))
        refine chk_el h (fun k4 h => ?_)
        refine awp_regionD Try_mixed (orcs := []) (gs := [.keep [0, 1, 7, 8] []]) (s' := ⟨[(0, .p (encL iC s_)), (1, pI v), (7, pI ((s_.length : Int))), (8, pI (t8 + 1))], []⟩) (by kernel_rfl) (holds_of (((InR .i64 (t8 + 1 : Int)) ∧ UU ∧ UU) ∧ (UU ∧ UU)) (by kernel_rfl) ⟨⟨k4, TT, TT⟩, ⟨TT, TT⟩⟩) ?_
        refine Done.mk ?_
        obtain rfl := Option.some.inj h
        exact ⟨rfl, by kernel_rfl⟩
    · refine awp_cond_f (b := decide (t8 < (s_.length : Int))) (by kernel_rfl) k1 ?_
      refine doneExit ?_
      refine Done.gh [.keep [] [], .keep [] []] (s' := ⟨[], []⟩) (by kernel_rfl) (holds_of (UU ∧ UU ∧ UU) (by kernel_rfl) ⟨TT, TT, TT⟩) ?_
      refine Done.mk (thenQ_x ?_)
      obtain rfl := Option.some.inj h
      exact ⟨fun q => (by cases q), fun q => (by subst q; exact ⟨rfl, by kernel_rfl⟩)⟩
  · rcases o with _u | t4
    · refine Done.as (e := (Exit.exit 0)) (s := ⟨[], []⟩) rfl (by kernel_rfl) ?_
      refine Done.mk (inB_hit (thenQ_n ?_))
      refine awp_seq ?_
      refine awp_regionD Try_mixed (orcs := []) (gs := [.keep [4] []]) (s' := ⟨[(4, pI (-1))], []⟩) (by kernel_rfl) (holds_of ((UU ∧ UU) ∧ (UU ∧ UU)) (by kernel_rfl) ⟨⟨TT, TT⟩, ⟨TT, TT⟩⟩) ?_
      refine Done.mk (thenQ_n ?_)
      refine doneRet ?_
      refine Done.mk ?_
      obtain rfl := Option.some.inj h
      exact ⟨Or.inr rfl, by kernel_rfl, by kernel_rfl⟩
    · refine Done.as (e := Exit.ret) (s := ⟨[(4, pI t4)], []⟩) rfl (by kernel_rfl) ?_
      refine Done.mk (inB_r (thenQ_r ?_))
      obtain rfl := Option.some.inj h
      exact ⟨Or.inr rfl, by kernel_rfl, by kernel_rfl⟩
end
end Go.AM
end
section
namespace Go.AM
open Go Go.RowKit Go.Proofs
noncomputable section
set_option maxRecDepth 100000 in
set_option maxHeartbeats 4000000 in
theorem slices_Clone_ok {s_ : (List Int)} {r : (List Int)} (h : slices_Clone s_ = some r) : ASpec Try.prog 75 [.p (encL iC s_)] [] (.own 6000 0 r.length 1) [(6000, .row 89 (r.flatMap iC))] := by
  refine aspec_of Try.func75 (c := _) rfl (by kernel_rfl) (by rw [Try.ntmps75]; exact Nat.le_of_ble_eq_true rfl) ?_
  refine awp_seq ?_
  refine awp_regionD Try_mixed (orcs := []) (gs := [.keep [0] []]) (s' := ⟨[(0, .p (encL iC s_))], []⟩) (by kernel_rfl) (holds_of ((UU ∧ UU) ∧ (UU ∧ UU)) (by kernel_rfl) ⟨⟨TT, TT⟩, ⟨TT, TT⟩⟩) ?_
  refine Done.mk (thenQ_n ?_)
  refine awp_seq ?_
  refine awp_seq ?_
  refine chk_el h (fun k1 h => ?_)
  refine awp_regionD Try_mixed (orcs := []) (gs := [.keep [0, 4] []]) (s' := ⟨[(0, .p (encL iC s_)), (4, pB false)], []⟩) (by kernel_rfl) (holds_of ((UU ∧ (s_.flatMap iC ≠ []) ∧ UU) ∧ (UU ∧ UU)) (by kernel_rfl) ⟨⟨TT, flat_ne iC_len (by decide) k1, TT⟩, ⟨TT, TT⟩⟩) ?_
  refine Done.mk (thenQ_n ?_)
  refine awp_false (by kernel_rfl) ?_
  refine doneSkip ?_
  refine Done.mk (thenQ_n ?_)
  refine awp_seq ?_
  refine chk_el h (fun k2 h => ?_)
  refine awp_regionD Try_mixed (orcs := [(0, { own := true }), (2, tV (.own 7 0 ((([] : List Int)) ++ s_).length 1))]) (gs := [.castB 7 (.row 89 (((([] : List Int)) ++ s_).flatMap iC)), .keep [2] [7]]) (s' := ⟨[(2, .own 7 0 ((([] : List Int)) ++ s_).length 1)], [(7, .row 89 (((([] : List Int)) ++ s_).flatMap iC))]⟩) (by kernel_rfl) (holds_of ((UU ∧ UU ∧ (((((([] : List Int)).flatMap iC).length = (([] : List Int)).length * 1 ∧ (s_.flatMap iC).length = s_.length * 1 ∧ ((([] : List Int)).length + s_.length) * 8 ≤ 140737488355328 ∧ (([] : List Int)).length + s_.length ≤ 9223372036854775807) ∧ some (AV.own 7 0 ((([] : List Int)).length + s_.length) 1) = some (AV.own 7 0 ((([] : List Int)) ++ s_).length 1))) ∧ UU ∧ UU) ∧ ((some (ABlk.row 89 ((([] : List Int)).flatMap iC ++ s_.flatMap iC)) = some (ABlk.row 89 (((([] : List Int)) ++ s_).flatMap iC))) ∧ UU ∧ UU)) (by kernel_rfl) ⟨⟨TT, TT, ⟨⟨flat_len iC_len _, flat_len iC_len _, by omega, by omega⟩, app_len _ _ _ _⟩, TT, TT⟩, ⟨(app_row iC _ _ _), TT, TT⟩⟩) ?_
  refine Done.mk (thenQ_n ?_)
  refine doneRet ?_
  refine Done.gh [.ren 7 6000, .keep [2] [6000]] (s' := ⟨[(2, .own 6000 0 ((([] : List Int)) ++ s_).length 1)], [(6000, .row 89 (((([] : List Int)) ++ s_).flatMap iC))]⟩) (by kernel_rfl) (holds_of (UU ∧ UU ∧ UU) (by kernel_rfl) ⟨TT, TT, TT⟩) ?_
  refine Done.mk ?_
  obtain rfl := Option.some.inj h
  exact ⟨Or.inr rfl, by kernel_rfl, by kernel_rfl⟩
end
end Go.AM
end
section
namespace Go.AM
open Go Go.RowKit Go.Proofs
noncomputable section
set_option maxRecDepth 100000 in
set_option maxHeartbeats 4000000 in
theorem boundary_cracks_take_ok {c : (List (Pt × (List Int)))} {p_ : Pt} {h_ : Int} {r : (Bool × (List (Pt × (List Int))))} (h : boundary_cracks_take c p_ h_ = some r) : ASpec Try.prog 49 [.map 0, .agg [pI p_.x, pI p_.y], pI h_] [(0, .ptab 2 (encT keyPt (encL iC) c))] (pB r.1) [(0, .ptab 2 (encT keyPt (encL iC) r.2))] := by
  refine aspec_of Try.func49 (c := _) rfl (by kernel_rfl) (by rw [Try.ntmps49]; exact Nat.le_of_ble_eq_true rfl) ?_
  refine awp_seq ?_
  refine awp_regionD Try_mixed (orcs := []) (gs := [.keep [0, 2, 4] [0, 4]]) (s' := ⟨[(0, .map 0), (2, pI h_), (4, .ptr 4 0)], [(0, .ptab 2 (encT keyPt (encL iC) c)), (4, .lit 63 [pI p_.x, pI p_.y])]⟩) (by kernel_rfl) (holds_of ((UU ∧ UU ∧ UU) ∧ (UU ∧ UU)) (by kernel_rfl) ⟨⟨TT, TT, TT⟩, ⟨TT, TT⟩⟩) ?_
  refine Done.mk (thenQ_n ?_)
  refine awp_seq ?_
  refine bind_el h (fun n k1 h => ?_)
  refine awp_regionD Try_mixed (orcs := [(2, tV (.p (encL iC (getT ([] : (List Int)) p_ c)))), (4, tV (pI n))]) (gs := [.keep [0, 4, 7] [0, 4]]) (s' := ⟨[(0, .map 0), (4, .ptr 4 0), (7, pI n)], [(0, .ptab 2 (encT keyPt (encL iC) c)), (4, .lit 63 [pI p_.x, pI p_.y])]⟩) (by kernel_rfl) (holds_of ((UU ∧ UU ∧ ((UU ∧ some (AV.p ((tGet (keyPt p_) (encT keyPt (encL iC) c)).getD ((encL iC) []))) = some (AV.p (encL iC (getT ([] : (List Int)) p_ c))))) ∧ UU ∧ (ASpec Try.prog 73 [.p (encL iC (getT ([] : (List Int)) p_ c)), pI h_] [] (pI n) []) ∧ UU ∧ UU) ∧ (UU ∧ UU)) (by kernel_rfl) ⟨⟨TT, TT, ⟨TT, get_told keyPt_inj _ _ _ _⟩, TT, slices_Index_ok k1, TT, TT⟩, ⟨TT, TT⟩⟩) ?_
  refine Done.mk (thenQ_n ?_)
  refine awp_seq ?_
  refine awp_seq ?_
  refine awp_regionD Try_mixed (orcs := []) (gs := [.keep [0, 4, 7, 14] [0, 4]]) (s' := ⟨[(0, .map 0), (4, .ptr 4 0), (7, pI n), (14, pB (decide (n < (0 : Int))))], [(0, .ptab 2 (encT keyPt (encL iC) c)), (4, .lit 63 [pI p_.x, pI p_.y])]⟩) (by kernel_rfl) (holds_of ((UU ∧ UU ∧ UU) ∧ (UU ∧ UU)) (by kernel_rfl) ⟨⟨TT, TT, TT⟩, ⟨TT, TT⟩⟩) ?_
  refine Done.mk (thenQ_n ?_)
  refine ifB_el h (fun k2 h => ?_) (fun k2 h => ?_)
  · refine awp_cond_t (b := decide (n < (0 : Int))) (by kernel_rfl) k2 ?_
    refine awp_seq ?_
    refine awp_regionD Try_mixed (orcs := []) (gs := [.keep [6] [0]]) (s' := ⟨[(6, pB false)], [(0, .ptab 2 (encT keyPt (encL iC) c))]⟩) (by kernel_rfl) (holds_of ((UU ∧ UU) ∧ (UU ∧ UU)) (by kernel_rfl) ⟨⟨TT, TT⟩, ⟨TT, TT⟩⟩) ?_
    refine Done.mk (thenQ_n ?_)
    refine doneRet ?_
    refine Done.mk (thenQ_r ?_)
    obtain rfl := Option.some.inj h
    exact ⟨Or.inr rfl, by kernel_rfl, by kernel_rfl⟩
  · refine awp_cond_f (b := decide (n < (0 : Int))) (by kernel_rfl) k2 ?_
    refine doneSkip ?_
    refine Done.mk (thenQ_n ?_)
    refine awp_seq ?_
    refine bind_el h (fun c1 hm h => ?_)
    refine awp_tail (fun _ => Exit.normal) (fun o => match o with | c1 => ⟨[], [(0, .ptab 2 (encT keyPt (encL iC) c1))]⟩) hm (fun o h => ?_) ?_
    · refine awp_seq ?_
      refine awp_regionD Try_mixed (orcs := [(2, tV (.p (encL iC (getT ([] : (List Int)) p_ c))))]) (gs := [.keep [0, 4, 7, 19] [0, 4]]) (s' := ⟨[(0, .map 0), (4, .ptr 4 0), (7, pI n), (19, pB ((((getT ([] : (List Int)) p_ c).length : Int) : Int) == (1 : Int)))], [(0, .ptab 2 (encT keyPt (encL iC) c)), (4, .lit 63 [pI p_.x, pI p_.y])]⟩) (by kernel_rfl) (holds_of ((UU ∧ UU ∧ ((UU ∧ some (AV.p ((tGet (keyPt p_) (encT keyPt (encL iC) c)).getD ((encL iC) []))) = some (AV.p (encL iC (getT ([] : (List Int)) p_ c))))) ∧ UU ∧ UU ∧ UU) ∧ (UU ∧ UU)) (by kernel_rfl) ⟨⟨TT, TT, ⟨TT, get_told keyPt_inj _ _ _ _⟩, TT, TT, TT⟩, ⟨TT, TT⟩⟩) ?_
      refine Done.mk (thenQ_n ?_)
      refine ifB_el h (fun k3 h => ?_) (fun k3 h => ?_)
      · refine awp_cond_t (b := (((getT ([] : (List Int)) p_ c).length : Int) : Int) == (1 : Int)) (by kernel_rfl) k3 ?_
        refine awp_regionD Try_mixed (orcs := []) (gs := [.castB 0 (.ptab 2 (encT keyPt (encL iC) (delT p_ c))), .keep [] [0]]) (s' := ⟨[], [(0, .ptab 2 (encT keyPt (encL iC) (delT p_ c)))]⟩) (by kernel_rfl) (holds_of ((UU ∧ UU ∧ UU ∧ UU) ∧ ((some (ABlk.ptab 2 (tDel (keyPt p_) (encT keyPt (encL iC) c))) = some (ABlk.ptab 2 (encT keyPt (encL iC) (delT p_ c)))) ∧ UU ∧ UU)) (by kernel_rfl) ⟨⟨TT, TT, TT, TT⟩, ⟨(del_told keyPt_inj _ _ _ _), TT, TT⟩⟩) ?_
        refine Done.mk ?_
        obtain rfl := Option.some.inj h
        exact ⟨rfl, by kernel_rfl⟩
      · refine awp_cond_f (b := (((getT ([] : (List Int)) p_ c).length : Int) : Int) == (1 : Int)) (by kernel_rfl) k3 ?_
        refine bind_el h (fun v k4 h => ?_)
        refine chk_el h (fun k5 h => ?_)
        refine bind_el h (fun v1 k6 h => ?_)
        refine awp_regionD Try_mixed (orcs := [(4, tV (.p (encL iC (getT ([] : (List Int)) p_ c)))), (5, { r := some (.own 6000 0 v.length 1), fp := [], post := [(6000, .row 89 (v.flatMap iC))] }), (9, { r := some (.p (encL iC v1)), fp := [6000], post := [] })]) (gs := [.castB 0 (.ptab 2 (encT keyPt (encL iC) (setT p_ v1 c))), .keep [] [0]]) (s' := ⟨[], [(0, .ptab 2 (encT keyPt (encL iC) (setT p_ v1 c)))]⟩) (by kernel_rfl) (holds_of ((UU ∧ UU ∧ UU ∧ UU ∧ ((UU ∧ some (AV.p ((tGet (keyPt p_) (encT keyPt (encL iC) c)).getD ((encL iC) []))) = some (AV.p (encL iC (getT ([] : (List Int)) p_ c))))) ∧ (ASpec Try.prog 75 [.p (encL iC (getT ([] : (List Int)) p_ c))] [] (.own 6000 0 v.length 1) [(6000, .row 89 (v.flatMap iC))]) ∧ UU ∧ UU ∧ (InR .i64 (n + 1 : Int)) ∧ (ASpec Try.prog 74 [.own 6000 0 v.length 1, pI n, pI (n + 1)] [(6000, .row 89 (v.flatMap iC))] (.p (encL iC v1)) []) ∧ UU ∧ UU) ∧ ((some (ABlk.ptab 2 (tSet (keyPt p_) ((encL iC) v1) (encT keyPt (encL iC) c))) = some (ABlk.ptab 2 (encT keyPt (encL iC) (setT p_ v1 c)))) ∧ UU ∧ UU)) (by kernel_rfl) ⟨⟨TT, TT, TT, TT, ⟨TT, get_told keyPt_inj _ _ _ _⟩, slices_Clone_ok k4, TT, TT, k5, aspec_at (hd_delete_ok k6) 0 6000 (by kernel_rfl), TT, TT⟩, ⟨(set_told keyPt_inj _ _ _ _ _), TT, TT⟩⟩) ?_
        refine Done.mk ?_
        obtain rfl := Option.some.inj h
        exact ⟨rfl, by kernel_rfl⟩
    · have _ := hm
      refine Done.as (e := Exit.normal) (s := ⟨[], [(0, .ptab 2 (encT keyPt (encL iC) c1))]⟩) rfl (by kernel_rfl) ?_
      refine Done.mk (thenQ_n ?_)
      refine awp_seq ?_
      refine awp_regionD Try_mixed (orcs := []) (gs := [.keep [6] [0]]) (s' := ⟨[(6, pB true)], [(0, .ptab 2 (encT keyPt (encL iC) c1))]⟩) (by kernel_rfl) (holds_of ((UU ∧ UU) ∧ (UU ∧ UU)) (by kernel_rfl) ⟨⟨TT, TT⟩, ⟨TT, TT⟩⟩) ?_
      refine Done.mk (thenQ_n ?_)
      refine doneRet ?_
      refine Done.mk ?_
      obtain rfl := Option.some.inj h
      exact ⟨Or.inr rfl, by kernel_rfl, by kernel_rfl⟩
end
end Go.AM
end
section
namespace Go.AM
open Go Go.RowKit Go.Proofs
noncomputable section
set_option maxRecDepth 100000 in
set_option maxHeartbeats 4000000 in
theorem boundary_heading_from_ok {h_ : Int} {p_ : Pt} {r : Pt} (h : boundary_heading_from h_ p_ = some r) : ASpec Try.prog 50 [pI h_, .agg [pI p_.x, pI p_.y]] [] (.agg [pI r.x, pI r.y]) [] := by
  refine aspec_of Try.func50 (c := _) rfl (by kernel_rfl) (by rw [Try.ntmps50]; exact Nat.le_of_ble_eq_true rfl) ?_
  refine awp_seq ?_
  refine awp_regionD Try_mixed (orcs := []) (gs := [.keep [0, 3, 4] [3, 4]]) (s' := ⟨[(0, pI h_), (3, .ptr 3 0), (4, .ptr 4 0)], [(3, .lit 63 [pI p_.x, pI p_.y]), (4, .lit 63 [pI 0, pI 0])]⟩) (by kernel_rfl) (holds_of ((UU ∧ UU ∧ UU) ∧ (UU ∧ UU)) (by kernel_rfl) ⟨⟨TT, TT, TT⟩, ⟨TT, TT⟩⟩) ?_
  refine Done.mk (thenQ_n ?_)
  refine awp_seq ?_
  refine bind_el h (fun o hm h => ?_)
  refine awp_tail (fun _ => Exit.normal) (fun o => match o with | (pX, pY) => ⟨[(3, .ptr 3 0), (4, .ptr 4 0)], [(3, .lit 63 [pI pX, pI pY]), (4, .lit 63 [pI 0, pI 0])]⟩) hm (fun o h => ?_) ?_
  · refine awp_seq ?_
    refine awp_regionD Try_mixed (orcs := []) (gs := [.keep [3, 4, 5] [3, 4]]) (s' := ⟨[(3, .ptr 3 0), (4, .ptr 4 0), (5, pI h_)], [(3, .lit 63 [pI p_.x, pI p_.y]), (4, .lit 63 [pI 0, pI 0])]⟩) (by kernel_rfl) (holds_of ((UU ∧ UU) ∧ (UU ∧ UU)) (by kernel_rfl) ⟨⟨TT, TT⟩, ⟨TT, TT⟩⟩) ?_
    refine Done.mk (thenQ_n ?_)
    refine awp_block ?_
    refine awp_seq ?_
    refine awp_regionD Try_mixed (orcs := []) (gs := [.keep [3, 4, 5, 10] [3, 4]]) (s' := ⟨[(3, .ptr 3 0), (4, .ptr 4 0), (5, pI h_), (10, pB (h_ == (0 : Int)))], [(3, .lit 63 [pI p_.x, pI p_.y]), (4, .lit 63 [pI 0, pI 0])]⟩) (by kernel_rfl) (holds_of ((UU ∧ UU ∧ UU) ∧ (UU ∧ UU)) (by kernel_rfl) ⟨⟨TT, TT, TT⟩, ⟨TT, TT⟩⟩) ?_
    refine Done.mk (thenQ_n ?_)
    refine ifB_el h (fun k1 h => ?_) (fun k1 h => ?_)
    · refine awp_cond_t (b := h_ == (0 : Int)) (by kernel_rfl) k1 ?_
      refine chk_el h (fun k2 h => ?_)
      refine awp_regionD Try_mixed (orcs := []) (gs := [.keep [3, 4] [3, 4]]) (s' := ⟨[(3, .ptr 3 0), (4, .ptr 4 0)], [(3, .lit 63 [pI (p_.x + 1), pI p_.y]), (4, .lit 63 [pI 0, pI 0])]⟩) (by kernel_rfl) (holds_of ((UU ∧ UU ∧ (InR .i64 (p_.x + 1 : Int)) ∧ UU ∧ UU ∧ UU) ∧ (UU ∧ UU)) (by kernel_rfl) ⟨⟨TT, TT, k2, TT, TT, TT⟩, ⟨TT, TT⟩⟩) ?_
      refine Done.mk (inB_n ?_)
      obtain rfl := Option.some.inj h
      exact ⟨rfl, by kernel_rfl⟩
    · refine awp_cond_f (b := h_ == (0 : Int)) (by kernel_rfl) k1 ?_
      refine awp_seq ?_
      refine awp_regionD Try_mixed (orcs := []) (gs := [.keep [3, 4, 5, 16] [3, 4]]) (s' := ⟨[(3, .ptr 3 0), (4, .ptr 4 0), (5, pI h_), (16, pB (h_ == (1 : Int)))], [(3, .lit 63 [pI p_.x, pI p_.y]), (4, .lit 63 [pI 0, pI 0])]⟩) (by kernel_rfl) (holds_of ((UU ∧ UU ∧ UU) ∧ (UU ∧ UU)) (by kernel_rfl) ⟨⟨TT, TT, TT⟩, ⟨TT, TT⟩⟩) ?_
      refine Done.mk (thenQ_n ?_)
      refine ifB_el h (fun k3 h => ?_) (fun k3 h => ?_)
      · refine awp_cond_t (b := h_ == (1 : Int)) (by kernel_rfl) k3 ?_
        refine chk_el h (fun k4 h => ?_)
        refine awp_regionD Try_mixed (orcs := []) (gs := [.keep [3, 4] [3, 4]]) (s' := ⟨[(3, .ptr 3 0), (4, .ptr 4 0)], [(3, .lit 63 [pI p_.x, pI (p_.y + 1)]), (4, .lit 63 [pI 0, pI 0])]⟩) (by kernel_rfl) (holds_of ((UU ∧ UU ∧ (InR .i64 (p_.y + 1 : Int)) ∧ UU ∧ UU ∧ UU) ∧ (UU ∧ UU)) (by kernel_rfl) ⟨⟨TT, TT, k4, TT, TT, TT⟩, ⟨TT, TT⟩⟩) ?_
        refine Done.mk (inB_n ?_)
        obtain rfl := Option.some.inj h
        exact ⟨rfl, by kernel_rfl⟩
      · refine awp_cond_f (b := h_ == (1 : Int)) (by kernel_rfl) k3 ?_
        refine awp_seq ?_
        refine awp_regionD Try_mixed (orcs := []) (gs := [.keep [3, 4, 22] [3, 4]]) (s' := ⟨[(3, .ptr 3 0), (4, .ptr 4 0), (22, pB (h_ == (2 : Int)))], [(3, .lit 63 [pI p_.x, pI p_.y]), (4, .lit 63 [pI 0, pI 0])]⟩) (by kernel_rfl) (holds_of ((UU ∧ UU ∧ UU) ∧ (UU ∧ UU)) (by kernel_rfl) ⟨⟨TT, TT, TT⟩, ⟨TT, TT⟩⟩) ?_
        refine Done.mk (thenQ_n ?_)
        refine ifB_el h (fun k5 h => ?_) (fun k5 h => ?_)
        · refine awp_cond_t (b := h_ == (2 : Int)) (by kernel_rfl) k5 ?_
          refine chk_el h (fun k6 h => ?_)
          refine awp_regionD Try_mixed (orcs := []) (gs := [.keep [3, 4] [3, 4]]) (s' := ⟨[(3, .ptr 3 0), (4, .ptr 4 0)], [(3, .lit 63 [pI (p_.x - 1), pI p_.y]), (4, .lit 63 [pI 0, pI 0])]⟩) (by kernel_rfl) (holds_of ((UU ∧ UU ∧ (InR .i64 (p_.x - 1 : Int)) ∧ UU ∧ UU ∧ UU) ∧ (UU ∧ UU)) (by kernel_rfl) ⟨⟨TT, TT, k6, TT, TT, TT⟩, ⟨TT, TT⟩⟩) ?_
          refine Done.mk (inB_n ?_)
          obtain rfl := Option.some.inj h
          exact ⟨rfl, by kernel_rfl⟩
        · refine awp_cond_f (b := h_ == (2 : Int)) (by kernel_rfl) k5 ?_
          refine chk_el h (fun k7 h => ?_)
          refine awp_regionD Try_mixed (orcs := []) (gs := [.keep [3, 4] [3, 4]]) (s' := ⟨[(3, .ptr 3 0), (4, .ptr 4 0)], [(3, .lit 63 [pI p_.x, pI (p_.y - 1)]), (4, .lit 63 [pI 0, pI 0])]⟩) (by kernel_rfl) (holds_of ((UU ∧ UU ∧ (InR .i64 (p_.y - 1 : Int)) ∧ UU ∧ UU ∧ UU) ∧ (UU ∧ UU)) (by kernel_rfl) ⟨⟨TT, TT, k7, TT, TT, TT⟩, ⟨TT, TT⟩⟩) ?_
          refine Done.mk (inB_n ?_)
          obtain rfl := Option.some.inj h
          exact ⟨rfl, by kernel_rfl⟩
  · obtain ⟨pX, pY⟩ := o
    refine Done.as (e := Exit.normal) (s := ⟨[(3, .ptr 3 0), (4, .ptr 4 0)], [(3, .lit 63 [pI pX, pI pY]), (4, .lit 63 [pI 0, pI 0])]⟩) rfl (by kernel_rfl) ?_
    refine Done.mk (thenQ_n ?_)
    refine awp_seq ?_
    refine awp_regionD Try_mixed (orcs := []) (gs := [.keep [4] [4]]) (s' := ⟨[(4, .ptr 4 0)], [(4, .lit 63 [pI pX, pI pY])]⟩) (by kernel_rfl) (holds_of ((UU ∧ UU ∧ UU) ∧ (UU ∧ UU)) (by kernel_rfl) ⟨⟨TT, TT, TT⟩, ⟨TT, TT⟩⟩) ?_
    refine Done.mk (thenQ_n ?_)
    refine doneRet ?_
    refine Done.mk ?_
    obtain rfl := Option.some.inj h
    exact ⟨Or.inr rfl, by kernel_rfl, by kernel_rfl⟩
end
end Go.AM
end
section
namespace Go.AM
open Go Go.RowKit Go.Proofs
noncomputable section
set_option maxRecDepth 100000 in
set_option maxHeartbeats 4000000 in
theorem boundary_heading_left_ok {h_ : Int} {r : Int} (h : boundary_heading_left h_ = some r) : ASpec Try.prog 51 [pI h_] [] (pI r) [] := by
  refine aspec_of Try.func51 (c := _) rfl (by kernel_rfl) (by rw [Try.ntmps51]; exact Nat.le_of_ble_eq_true rfl) ?_
  refine awp_seq ?_
  refine awp_regionD Try_mixed (orcs := []) (gs := [.keep [0] []]) (s' := ⟨[(0, pI h_)], []⟩) (by kernel_rfl) (holds_of ((UU ∧ UU) ∧ (UU ∧ UU)) (by kernel_rfl) ⟨⟨TT, TT⟩, ⟨TT, TT⟩⟩) ?_
  refine Done.mk (thenQ_n ?_)
  refine awp_seq ?_
  refine chk_el h (fun k1 h => ?_)
  refine awp_regionD Try_mixed (orcs := []) (gs := [.keep [2] []]) (s' := ⟨[(2, pI ((h_ + 1 : Int).tmod (4 : Int)))], []⟩) (by kernel_rfl) (holds_of ((UU ∧ (InR .i64 (h_ + 1 : Int)) ∧ ((4 : Int) ≠ 0) ∧ UU ∧ UU) ∧ (UU ∧ UU)) (by kernel_rfl) ⟨⟨TT, k1, by decide, TT, TT⟩, ⟨TT, TT⟩⟩) ?_
  refine Done.mk (thenQ_n ?_)
  refine doneRet ?_
  refine Done.mk ?_
  obtain rfl := Option.some.inj h
  exact ⟨Or.inr rfl, by kernel_rfl, by kernel_rfl⟩
end
end Go.AM
end
