/- Models of functions, and that their calls do what the models say. Printed by gen.py. -/
import Derived.Test.YtijdlphadhpabaaProg
import Derived.Test.YtijdlphadhpabaaA1
import Derived.Test.YtijdlphadhpabaaA7
import Derived.Test.YtijdlphadhpabaaA4
import Derived.Test.YtijdlphadhpabaaA9
import Derived.Test.YtijdlphadhpabaaA3
import Derived.Test.YtijdlphadhpabaaA6
import Derived.Test.YtijdlphadhpabaaA8
import Derived.Test.YtijdlphadhpabaaA2
import Derived.Test.YtijdlphadhpabaaA5
import Derived.Test.YtijdlphadhpabaaF2
import Derived.Test.YtijdlphadhpabaaF6
import Derived.Test.YtijdlphadhpabaaRows
section
namespace Go.AM
open Go Go.RowKit Go.Proofs
noncomputable section
set_option maxRecDepth 100000 in
set_option maxHeartbeats 4000000 in
theorem L24_awake_ok  {r : Bool} (h : L24_awake = some r) : ASpec Try.prog 8 [] [] (pB r) [] := by
  refine aspec_of Try.func8 (c := _) rfl (by kernel_rfl) (by rw [Try.ntmps8]; exact Nat.le_of_ble_eq_true rfl) ?_
  refine awp_seq ?_
  refine awp_regionD Try_mixed (orcs := []) (gs := [.keep [] []]) (s' := ⟨[], []⟩) (by kernel_rfl) (holds_of ((UU ∧ UU) ∧ (UU ∧ UU)) (by kernel_rfl) ⟨⟨TT, TT⟩, ⟨TT, TT⟩⟩) ?_
  refine Done.mk (thenQ_n ?_)
  refine awp_seq ?_
  refine bind_el h (fun v k1 h => ?_)
  refine bind_el h (fun v1 k2 h => ?_)
  refine awp_regionD Try_mixed (orcs := [(0, tV (.agg [.p (encL Row.cs v.rows)])), (1, tV (.p (encL Track.cs v1)))]) (gs := [.keep [1] []]) (s' := ⟨[(1, .p (encL Track.cs v1))], []⟩) (by kernel_rfl) (holds_of (((ASpec Try.prog 12 [pI 0, pI 0, pI 2, pI 2] [] (.agg [.p (encL Row.cs v.rows)]) []) ∧ (ASpec Try.prog 10 [.agg [.p (encL Row.cs v.rows)]] [] (.p (encL Track.cs v1)) []) ∧ UU ∧ UU) ∧ (UU ∧ UU)) (by kernel_rfl) ⟨⟨L24_box_ok k1, ringwalk_Walk_ok k2, TT, TT⟩, ⟨TT, TT⟩⟩) ?_
  refine Done.mk (thenQ_n ?_)
  refine awp_seq ?_
  refine awp_seq ?_
  refine bind_el h (fun t15 hm h => ?_)
  refine awp_tail (fun _ => Exit.normal) (fun o => match o with | t15 => ⟨[(1, .p (encL Track.cs v1)), (15, pB t15)], []⟩) hm (fun o h => ?_) ?_
  · refine ifB_el h (fun k3 h => ?_) (fun k3 h => ?_)
    · refine awp_regionD Try_mixed (orcs := [(3, tB true)]) (gs := [.keep [1, 15] []]) (s' := ⟨[(1, .p (encL Track.cs v1)), (15, pB true)], []⟩) (by kernel_rfl) (holds_of ((UU ∧ UU ∧ UU ∧ ((UU ∧ some (pB ((v1.length : Int) != (1 : Int))) = some (pB true))) ∧ UU ∧ UU) ∧ (UU ∧ UU)) (by kernel_rfl) ⟨⟨TT, TT, TT, ⟨TT, by rw [k3]⟩, TT, TT⟩, ⟨TT, TT⟩⟩) ?_
      refine Done.mk ?_
      obtain rfl := Option.some.inj h
      exact ⟨rfl, by kernel_rfl⟩
    · refine bind_el h (fun t k4 h => ?_)
      replace k4 := getI_el k4
      refine awp_regionD Try_mixed (orcs := [(3, tB false), (7, tV (.p (encL Cell.cs t.cells)))]) (gs := [.keep [1, 15] []]) (s' := ⟨[(1, .p (encL Track.cs v1)), (15, pB ((t.cells.length : Int) != (4 : Int)))], []⟩) (by kernel_rfl) (holds_of ((UU ∧ UU ∧ UU ∧ ((UU ∧ some (pB ((v1.length : Int) != (1 : Int))) = some (pB false))) ∧ UU ∧ ((0 ≤ (0 : Int) ∧ (0 : Int) < (v1.length : Int))) ∧ UU ∧ ((v1.flatMap Track.cs)[(0 : Int).toNat * 3 + 2]? = some (encL Cell.cs t.cells)) ∧ UU ∧ UU ∧ UU ∧ UU) ∧ (UU ∧ UU)) (by kernel_rfl) ⟨⟨TT, TT, TT, ⟨TT, by rw [k3]⟩, TT, k4.2, TT, row_at Track.cs_len k4.1 (j := 2) (by omega) (by decide), TT, TT, TT, TT⟩, ⟨TT, TT⟩⟩) ?_
      refine Done.mk ?_
      obtain rfl := Option.some.inj h
      exact ⟨rfl, by kernel_rfl⟩
  · have _ := hm
    refine Done.as (e := Exit.normal) (s := ⟨[(1, .p (encL Track.cs v1)), (15, pB t15)], []⟩) rfl (by kernel_rfl) ?_
    refine Done.mk (thenQ_n ?_)
    refine ifB_el h (fun k5 h => ?_) (fun k5 h => ?_)
    · refine awp_cond_t (b := t15) (by kernel_rfl) k5 ?_
      refine awp_seq ?_
      refine awp_regionD Try_mixed (orcs := []) (gs := [.keep [0] []]) (s' := ⟨[(0, pB false)], []⟩) (by kernel_rfl) (holds_of ((UU ∧ UU) ∧ (UU ∧ UU)) (by kernel_rfl) ⟨⟨TT, TT⟩, ⟨TT, TT⟩⟩) ?_
      refine Done.mk (thenQ_n ?_)
      refine doneRet ?_
      refine Done.mk (thenQ_r ?_)
      obtain rfl := Option.some.inj h
      exact ⟨Or.inr rfl, by kernel_rfl, by kernel_rfl⟩
    · refine awp_cond_f (b := t15) (by kernel_rfl) k5 ?_
      refine doneSkip ?_
      refine Done.mk (thenQ_n ?_)
      refine awp_seq ?_
      refine bind_el h (fun t1 k6 h => ?_)
      replace k6 := getI_el k6
      refine awp_regionD Try_mixed (orcs := [(3, tV (.p (encL Cell.cs t1.cells)))]) (gs := [.keep [1, 2] []]) (s' := ⟨[(1, .p (encL Track.cs v1)), (2, .p (encL Cell.cs t1.cells))], []⟩) (by kernel_rfl) (holds_of ((UU ∧ ((0 ≤ (0 : Int) ∧ (0 : Int) < (v1.length : Int))) ∧ UU ∧ ((v1.flatMap Track.cs)[(0 : Int).toNat * 3 + 2]? = some (encL Cell.cs t1.cells)) ∧ UU ∧ UU) ∧ (UU ∧ UU)) (by kernel_rfl) ⟨⟨TT, k6.2, TT, row_at Track.cs_len k6.1 (j := 2) (by omega) (by decide), TT, TT⟩, ⟨TT, TT⟩⟩) ?_
      refine Done.mk (thenQ_n ?_)
      refine awp_seq ?_
      refine bind_el h (fun t0 hm h => ?_)
      refine awp_tail (fun _ => Exit.normal) (fun o => match o with | t0 => ⟨[(0, pB t0)], []⟩) hm (fun o h => ?_) ?_
      · refine ifB_el h (fun k7 h => ?_) (fun k7 h => ?_)
        · refine ifB_el h (fun k8 h => ?_) (fun k8 h => ?_)
          · refine bind_el h (fun c k9 h => ?_)
            replace k9 := getI_el k9
            refine ifB_el h (fun k10 h => ?_) (fun k10 h => ?_)
            · refine bind_el h (fun c1 k11 h => ?_)
              replace k11 := getI_el k11
              refine ifB_el h (fun k12 h => ?_) (fun k12 h => ?_)
              · refine bind_el h (fun c2 k13 h => ?_)
                replace k13 := getI_el k13
                refine ifB_el h (fun k14 h => ?_) (fun k14 h => ?_)
                · refine bind_el h (fun c3 k15 h => ?_)
                  replace k15 := getI_el k15
                  refine awp_regionD Try_mixed (orcs := [(3, tV (pB t1.closed)), (4, tB true), (8, tV (pI t1.role)), (11, tB true), (14, tV (.agg [pI c.x, pI c.y])), (18, tB true), (21, tV (.agg [pI c1.x, pI c1.y])), (25, tB true), (28, tV (.agg [pI c2.x, pI c2.y])), (32, tB true), (35, tV (.agg [pI c3.x, pI c3.y]))]) (gs := [.keep [0] []]) (s' := ⟨[(0, pB ((c3.x == (0 : Int)) && ((c3.y == (1 : Int)) && true)))], []⟩) (by kernel_rfl) (holds_of ((UU ∧ ((0 ≤ (0 : Int) ∧ (0 : Int) < (v1.length : Int))) ∧ UU ∧ ((v1.flatMap Track.cs)[(0 : Int).toNat * 3 + 1]? = some (.bool t1.closed)) ∧ ((UU ∧ some (pB t1.closed) = some (pB true))) ∧ UU ∧ ((0 ≤ (0 : Int) ∧ (0 : Int) < (v1.length : Int))) ∧ UU ∧ ((v1.flatMap Track.cs)[(0 : Int).toNat * 3]? = some (vI t1.role)) ∧ UU ∧ UU ∧ ((UU ∧ some (pB (t1.role == (1 : Int))) = some (pB true))) ∧ UU ∧ ((0 ≤ (0 : Int) ∧ (0 : Int) < (t1.cells.length : Int))) ∧ (rowHas (t1.cells.flatMap Cell.cs) ((0 : Int).toNat * 2) [pI c.x, pI c.y]) ∧ UU ∧ UU ∧ UU ∧ ((UU ∧ some (pB ((c.x == (0 : Int)) && ((c.y == (0 : Int)) && true))) = some (pB true))) ∧ UU ∧ ((0 ≤ (1 : Int) ∧ (1 : Int) < (t1.cells.length : Int))) ∧ (rowHas (t1.cells.flatMap Cell.cs) ((1 : Int).toNat * 2) [pI c1.x, pI c1.y]) ∧ UU ∧ UU ∧ UU ∧ ((UU ∧ some (pB ((c1.x == (1 : Int)) && ((c1.y == (0 : Int)) && true))) = some (pB true))) ∧ UU ∧ ((0 ≤ (2 : Int) ∧ (2 : Int) < (t1.cells.length : Int))) ∧ (rowHas (t1.cells.flatMap Cell.cs) ((2 : Int).toNat * 2) [pI c2.x, pI c2.y]) ∧ UU ∧ UU ∧ UU ∧ ((UU ∧ some (pB ((c2.x == (1 : Int)) && ((c2.y == (1 : Int)) && true))) = some (pB true))) ∧ UU ∧ ((0 ≤ (3 : Int) ∧ (3 : Int) < (t1.cells.length : Int))) ∧ (rowHas (t1.cells.flatMap Cell.cs) ((3 : Int).toNat * 2) [pI c3.x, pI c3.y]) ∧ UU ∧ UU ∧ UU ∧ UU ∧ UU) ∧ (UU ∧ UU)) (by kernel_rfl) ⟨⟨TT, k6.2, TT, row_at Track.cs_len k6.1 (j := 1) (by omega) (by decide), ⟨TT, by rw [k7]⟩, TT, k6.2, TT, row_at Track.cs_len k6.1 (j := 0) (by omega) (by decide), TT, TT, ⟨TT, by rw [k8]⟩, TT, k9.2, row_has Cell.cs_len k9.1 (o := 0) (m := 2) (by omega) (by decide), TT, TT, TT, ⟨TT, by rw [k10]⟩, TT, k11.2, row_has Cell.cs_len k11.1 (o := 0) (m := 2) (by omega) (by decide), TT, TT, TT, ⟨TT, by rw [k12]⟩, TT, k13.2, row_has Cell.cs_len k13.1 (o := 0) (m := 2) (by omega) (by decide), TT, TT, TT, ⟨TT, by rw [k14]⟩, TT, k15.2, row_has Cell.cs_len k15.1 (o := 0) (m := 2) (by omega) (by decide), TT, TT, TT, TT, TT⟩, ⟨TT, TT⟩⟩) ?_
                  refine Done.mk ?_
                  obtain rfl := Option.some.inj h
                  exact ⟨rfl, by kernel_rfl⟩
                · refine awp_regionD Try_mixed (orcs := [(3, tV (pB t1.closed)), (4, tB true), (8, tV (pI t1.role)), (11, tB true), (14, tV (.agg [pI c.x, pI c.y])), (18, tB true), (21, tV (.agg [pI c1.x, pI c1.y])), (25, tB true), (28, tV (.agg [pI c2.x, pI c2.y])), (32, tB false)]) (gs := [.keep [0] []]) (s' := ⟨[(0, pB false)], []⟩) (by kernel_rfl) (holds_of ((UU ∧ ((0 ≤ (0 : Int) ∧ (0 : Int) < (v1.length : Int))) ∧ UU ∧ ((v1.flatMap Track.cs)[(0 : Int).toNat * 3 + 1]? = some (.bool t1.closed)) ∧ ((UU ∧ some (pB t1.closed) = some (pB true))) ∧ UU ∧ ((0 ≤ (0 : Int) ∧ (0 : Int) < (v1.length : Int))) ∧ UU ∧ ((v1.flatMap Track.cs)[(0 : Int).toNat * 3]? = some (vI t1.role)) ∧ UU ∧ UU ∧ ((UU ∧ some (pB (t1.role == (1 : Int))) = some (pB true))) ∧ UU ∧ ((0 ≤ (0 : Int) ∧ (0 : Int) < (t1.cells.length : Int))) ∧ (rowHas (t1.cells.flatMap Cell.cs) ((0 : Int).toNat * 2) [pI c.x, pI c.y]) ∧ UU ∧ UU ∧ UU ∧ ((UU ∧ some (pB ((c.x == (0 : Int)) && ((c.y == (0 : Int)) && true))) = some (pB true))) ∧ UU ∧ ((0 ≤ (1 : Int) ∧ (1 : Int) < (t1.cells.length : Int))) ∧ (rowHas (t1.cells.flatMap Cell.cs) ((1 : Int).toNat * 2) [pI c1.x, pI c1.y]) ∧ UU ∧ UU ∧ UU ∧ ((UU ∧ some (pB ((c1.x == (1 : Int)) && ((c1.y == (0 : Int)) && true))) = some (pB true))) ∧ UU ∧ ((0 ≤ (2 : Int) ∧ (2 : Int) < (t1.cells.length : Int))) ∧ (rowHas (t1.cells.flatMap Cell.cs) ((2 : Int).toNat * 2) [pI c2.x, pI c2.y]) ∧ UU ∧ UU ∧ UU ∧ ((UU ∧ some (pB ((c2.x == (1 : Int)) && ((c2.y == (1 : Int)) && true))) = some (pB false))) ∧ UU ∧ UU ∧ UU) ∧ (UU ∧ UU)) (by kernel_rfl) ⟨⟨TT, k6.2, TT, row_at Track.cs_len k6.1 (j := 1) (by omega) (by decide), ⟨TT, by rw [k7]⟩, TT, k6.2, TT, row_at Track.cs_len k6.1 (j := 0) (by omega) (by decide), TT, TT, ⟨TT, by rw [k8]⟩, TT, k9.2, row_has Cell.cs_len k9.1 (o := 0) (m := 2) (by omega) (by decide), TT, TT, TT, ⟨TT, by rw [k10]⟩, TT, k11.2, row_has Cell.cs_len k11.1 (o := 0) (m := 2) (by omega) (by decide), TT, TT, TT, ⟨TT, by rw [k12]⟩, TT, k13.2, row_has Cell.cs_len k13.1 (o := 0) (m := 2) (by omega) (by decide), TT, TT, TT, ⟨TT, by rw [k14]⟩, TT, TT, TT⟩, ⟨TT, TT⟩⟩) ?_
                  refine Done.mk ?_
                  obtain rfl := Option.some.inj h
                  exact ⟨rfl, by kernel_rfl⟩
              · refine awp_regionD Try_mixed (orcs := [(3, tV (pB t1.closed)), (4, tB true), (8, tV (pI t1.role)), (11, tB true), (14, tV (.agg [pI c.x, pI c.y])), (18, tB true), (21, tV (.agg [pI c1.x, pI c1.y])), (25, tB false)]) (gs := [.keep [0] []]) (s' := ⟨[(0, pB false)], []⟩) (by kernel_rfl) (holds_of ((UU ∧ ((0 ≤ (0 : Int) ∧ (0 : Int) < (v1.length : Int))) ∧ UU ∧ ((v1.flatMap Track.cs)[(0 : Int).toNat * 3 + 1]? = some (.bool t1.closed)) ∧ ((UU ∧ some (pB t1.closed) = some (pB true))) ∧ UU ∧ ((0 ≤ (0 : Int) ∧ (0 : Int) < (v1.length : Int))) ∧ UU ∧ ((v1.flatMap Track.cs)[(0 : Int).toNat * 3]? = some (vI t1.role)) ∧ UU ∧ UU ∧ ((UU ∧ some (pB (t1.role == (1 : Int))) = some (pB true))) ∧ UU ∧ ((0 ≤ (0 : Int) ∧ (0 : Int) < (t1.cells.length : Int))) ∧ (rowHas (t1.cells.flatMap Cell.cs) ((0 : Int).toNat * 2) [pI c.x, pI c.y]) ∧ UU ∧ UU ∧ UU ∧ ((UU ∧ some (pB ((c.x == (0 : Int)) && ((c.y == (0 : Int)) && true))) = some (pB true))) ∧ UU ∧ ((0 ≤ (1 : Int) ∧ (1 : Int) < (t1.cells.length : Int))) ∧ (rowHas (t1.cells.flatMap Cell.cs) ((1 : Int).toNat * 2) [pI c1.x, pI c1.y]) ∧ UU ∧ UU ∧ UU ∧ ((UU ∧ some (pB ((c1.x == (1 : Int)) && ((c1.y == (0 : Int)) && true))) = some (pB false))) ∧ UU ∧ UU ∧ UU ∧ UU ∧ UU) ∧ (UU ∧ UU)) (by kernel_rfl) ⟨⟨TT, k6.2, TT, row_at Track.cs_len k6.1 (j := 1) (by omega) (by decide), ⟨TT, by rw [k7]⟩, TT, k6.2, TT, row_at Track.cs_len k6.1 (j := 0) (by omega) (by decide), TT, TT, ⟨TT, by rw [k8]⟩, TT, k9.2, row_has Cell.cs_len k9.1 (o := 0) (m := 2) (by omega) (by decide), TT, TT, TT, ⟨TT, by rw [k10]⟩, TT, k11.2, row_has Cell.cs_len k11.1 (o := 0) (m := 2) (by omega) (by decide), TT, TT, TT, ⟨TT, by rw [k12]⟩, TT, TT, TT, TT, TT⟩, ⟨TT, TT⟩⟩) ?_
                refine Done.mk ?_
                obtain rfl := Option.some.inj h
                exact ⟨rfl, by kernel_rfl⟩
            · refine awp_regionD Try_mixed (orcs := [(3, tV (pB t1.closed)), (4, tB true), (8, tV (pI t1.role)), (11, tB true), (14, tV (.agg [pI c.x, pI c.y])), (18, tB false)]) (gs := [.keep [0] []]) (s' := ⟨[(0, pB false)], []⟩) (by kernel_rfl) (holds_of ((UU ∧ ((0 ≤ (0 : Int) ∧ (0 : Int) < (v1.length : Int))) ∧ UU ∧ ((v1.flatMap Track.cs)[(0 : Int).toNat * 3 + 1]? = some (.bool t1.closed)) ∧ ((UU ∧ some (pB t1.closed) = some (pB true))) ∧ UU ∧ ((0 ≤ (0 : Int) ∧ (0 : Int) < (v1.length : Int))) ∧ UU ∧ ((v1.flatMap Track.cs)[(0 : Int).toNat * 3]? = some (vI t1.role)) ∧ UU ∧ UU ∧ ((UU ∧ some (pB (t1.role == (1 : Int))) = some (pB true))) ∧ UU ∧ ((0 ≤ (0 : Int) ∧ (0 : Int) < (t1.cells.length : Int))) ∧ (rowHas (t1.cells.flatMap Cell.cs) ((0 : Int).toNat * 2) [pI c.x, pI c.y]) ∧ UU ∧ UU ∧ UU ∧ ((UU ∧ some (pB ((c.x == (0 : Int)) && ((c.y == (0 : Int)) && true))) = some (pB false))) ∧ UU ∧ UU ∧ UU ∧ UU ∧ UU ∧ UU ∧ UU) ∧ (UU ∧ UU)) (by kernel_rfl) ⟨⟨TT, k6.2, TT, row_at Track.cs_len k6.1 (j := 1) (by omega) (by decide), ⟨TT, by rw [k7]⟩, TT, k6.2, TT, row_at Track.cs_len k6.1 (j := 0) (by omega) (by decide), TT, TT, ⟨TT, by rw [k8]⟩, TT, k9.2, row_has Cell.cs_len k9.1 (o := 0) (m := 2) (by omega) (by decide), TT, TT, TT, ⟨TT, by rw [k10]⟩, TT, TT, TT, TT, TT, TT, TT⟩, ⟨TT, TT⟩⟩) ?_
              refine Done.mk ?_
              obtain rfl := Option.some.inj h
              exact ⟨rfl, by kernel_rfl⟩
          · refine awp_regionD Try_mixed (orcs := [(3, tV (pB t1.closed)), (4, tB true), (8, tV (pI t1.role)), (11, tB false)]) (gs := [.keep [0] []]) (s' := ⟨[(0, pB false)], []⟩) (by kernel_rfl) (holds_of ((UU ∧ ((0 ≤ (0 : Int) ∧ (0 : Int) < (v1.length : Int))) ∧ UU ∧ ((v1.flatMap Track.cs)[(0 : Int).toNat * 3 + 1]? = some (.bool t1.closed)) ∧ ((UU ∧ some (pB t1.closed) = some (pB true))) ∧ UU ∧ ((0 ≤ (0 : Int) ∧ (0 : Int) < (v1.length : Int))) ∧ UU ∧ ((v1.flatMap Track.cs)[(0 : Int).toNat * 3]? = some (vI t1.role)) ∧ UU ∧ UU ∧ ((UU ∧ some (pB (t1.role == (1 : Int))) = some (pB false))) ∧ UU ∧ UU ∧ UU ∧ UU ∧ UU ∧ UU ∧ UU ∧ UU ∧ UU) ∧ (UU ∧ UU)) (by kernel_rfl) ⟨⟨TT, k6.2, TT, row_at Track.cs_len k6.1 (j := 1) (by omega) (by decide), ⟨TT, by rw [k7]⟩, TT, k6.2, TT, row_at Track.cs_len k6.1 (j := 0) (by omega) (by decide), TT, TT, ⟨TT, by rw [k8]⟩, TT, TT, TT, TT, TT, TT, TT, TT, TT⟩, ⟨TT, TT⟩⟩) ?_
            refine Done.mk ?_
            obtain rfl := Option.some.inj h
            exact ⟨rfl, by kernel_rfl⟩
        · refine awp_regionD Try_mixed (orcs := [(3, tV (pB t1.closed)), (4, tB false)]) (gs := [.keep [0] []]) (s' := ⟨[(0, pB false)], []⟩) (by kernel_rfl) (holds_of ((UU ∧ ((0 ≤ (0 : Int) ∧ (0 : Int) < (v1.length : Int))) ∧ UU ∧ ((v1.flatMap Track.cs)[(0 : Int).toNat * 3 + 1]? = some (.bool t1.closed)) ∧ ((UU ∧ some (pB t1.closed) = some (pB false))) ∧ UU ∧ UU ∧ UU ∧ UU ∧ UU ∧ UU ∧ UU ∧ UU ∧ UU ∧ UU ∧ UU) ∧ (UU ∧ UU)) (by kernel_rfl) ⟨⟨TT, k6.2, TT, row_at Track.cs_len k6.1 (j := 1) (by omega) (by decide), ⟨TT, by rw [k7]⟩, TT, TT, TT, TT, TT, TT, TT, TT, TT, TT, TT⟩, ⟨TT, TT⟩⟩) ?_
          refine Done.mk ?_
          obtain rfl := Option.some.inj h
          exact ⟨rfl, by kernel_rfl⟩
      · have _ := hm
        refine Done.as (e := Exit.normal) (s := ⟨[(0, pB t0)], []⟩) rfl (by kernel_rfl) ?_
        refine Done.mk (thenQ_n ?_)
        refine doneRet ?_
        refine Done.mk ?_
        obtain rfl := Option.some.inj h
        exact ⟨Or.inr rfl, by kernel_rfl, by kernel_rfl⟩
end
end Go.AM
end
section
namespace Go.AM
open Go Go.RowKit Go.Proofs Go.Proofs.Ytijdlphadhpabaa
theorem rdRun : Rds Try.prog 57 Run.cs := (rds_struct2 Try.underlying57 (rds_int Try.underlying3) (rds_int Try.underlying3) (k0 := 1) (k1 := 1) (fun _ => rfl) (fun _ => rfl) rfl rfl (by kernel_rfl) (by kernel_rfl) (by kernel_rfl)).map (fun x => Run.mk x.1 x.2) (fun _ => rfl)
theorem rdRuns : Rds Try.prog 46 (fun l : List Run => [encL Run.cs l]) := rds_slice Try.underlying46 rdRun Run.cs_len (by kernel_rfl) (by decide)
theorem rdRow : Rds Try.prog 48 Row.cs := (rds_struct2 Try.underlying48 (rds_int Try.underlying3) rdRuns (k0 := 1) (k1 := 1) (fun _ => rfl) (fun _ => rfl) rfl rfl (by kernel_rfl) (by kernel_rfl) (by kernel_rfl)).map (fun x => Row.mk x.1 x.2) (fun _ => rfl)
theorem rdRows : Rds Try.prog 22 (fun l : List Row => [encL Row.cs l]) := rds_slice Try.underlying22 rdRow Row.cs_len (by kernel_rfl) (by decide)
theorem rdRegion : Rds Try.prog 24 Region.cs := (rds_struct1 Try.underlying24 rdRows (k0 := 1) (fun _ => rfl) rfl (by kernel_rfl) (by kernel_rfl)).map (fun x => Region.mk x) (fun _ => rfl)
theorem rdInt : Rds Try.prog 3 (fun n : Int => [vI n]) := rds_int Try.underlying3
theorem Try_own : ownKnob Try.prog.godebug = none := by kernel_rfl
theorem Try_laid : laidOutB Try.prog = true := by kernel_rfl
end Go.AM
end
