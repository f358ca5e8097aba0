/- Proved: at every region the law RingwalkWalks of the package additivelaw24 returns true, without a panic, and leaves its argument as it was. Conditions: those of the given statement alone. -/
import Derived.Test.YtijdlphadhpabaaProg
import Derived.Test.YtijdlphadhpabaaF13
import Derived.Test.YtijdlphadhpabaaF1
import Derived.Test.YtijdlphadhpabaaP4
import Derived.Test.YtijdlphadhpabaaF5
section
namespace Go.AM
open Go Go.RowKit Go.Proofs
noncomputable section
def L24_awake_j1 (v1 : (List Track)) : Option (Bool) :=
    ifB ((v1.length : Int) != (1 : Int))
    (some true)
    ((getI v1 (0 : Int)).bind fun t =>
      some ((t.cells.length : Int) != (4 : Int)))
def L24_awake_j2 (t1 : Track) : Option (Bool) :=
    ifB (t1.closed)
    (ifB (t1.role == (1 : Int))
      ((getI t1.cells (0 : Int)).bind fun c =>
        ifB ((c.x == (0 : Int)) && ((c.y == (0 : Int)) && true))
        ((getI t1.cells (1 : Int)).bind fun c1 =>
          ifB ((c1.x == (1 : Int)) && ((c1.y == (0 : Int)) && true))
          ((getI t1.cells (2 : Int)).bind fun c2 =>
            ifB ((c2.x == (1 : Int)) && ((c2.y == (1 : Int)) && true))
            ((getI t1.cells (3 : Int)).bind fun c3 =>
              some ((c3.x == (0 : Int)) && ((c3.y == (1 : Int)) && true)))
            (some false))
          (some false))
        (some false))
      (some false))
    (some false)
noncomputable def L24_awake  : Option Bool :=
  (L24_box 0 0 2 2).bind fun v =>
  (ringwalk_Walk v).bind fun v1 =>
  (L24_awake_j1 v1).bind fun t15 =>
  ifB (t15)
  (some false)
  ((getI v1 (0 : Int)).bind fun t1 =>
    (L24_awake_j2 t1).bind fun t0 =>
    some t0)
set_option maxRecDepth 100000 in
set_option maxHeartbeats 4000000 in
theorem L24_awake_ok  {r : Bool} (h : L24_awake = some r) : ASpec Try.prog 8 [] [] (pB r) [] := by
  refine aspec_of Try.func8 (c := _) rfl (by kernel_rfl) (by rw [Try.ntmps8]; exact Nat.le_of_ble_eq_true rfl) ?_
  refine awp_seq ?_
  refine awp_regionD Try_mixed (orcs := []) (gs := [.keep [] []]) (s' := ⟨[], []⟩) (by kernel_rfl) (holds_of ((UU ∧ UU) ∧ (UU ∧ UU)) (by kernel_rfl) ⟨⟨TT, TT⟩, ⟨TT, TT⟩⟩) ?_
  refine Done.mk (thenQ_n ?_)
  refine awp_seq ?_
  refine bind_el h (fun v k1 h => ?_)
  refine bind_el h (fun v1 k2 h => ?_)
  refine awp_regionD Try_mixed (orcs := [(0, tV (.agg [.p (encL Row.cs v.rows)])), (1, tV (.p (encL Track.cs v1)))]) (gs := [.keep [1] []]) (s' := ⟨[(1, .p (encL Track.cs v1))], []⟩) (by kernel_rfl) (holds_of (((ASpec Try.prog 12 [pI 0, pI 0, pI 2, pI 2] [] (.agg [.p (encL Row.cs v.rows)]) []) ∧ (ASpec Try.prog 10 [.agg [.p (encL Row.cs v.rows)]] [] (.p (encL Track.cs v1)) []) ∧ UU ∧ UU) ∧ (UU ∧ UU)) (by kernel_rfl) ⟨⟨L24_box_ok k1, ringwalk_Walk_ok k2, TT, TT⟩, ⟨TT, TT⟩⟩) ?_
  refine Done.mk (thenQ_n ?_)
  refine awp_seq ?_
  refine awp_seq ?_
  refine bind_el h (fun t15 hm h => ?_)
  refine awp_tail (fun _ => Exit.normal) (fun o => match o with | t15 => ⟨[(1, .p (encL Track.cs v1)), (15, pB t15)], []⟩) hm (fun o h => ?_) ?_
  · refine ifB_el h (fun k3 h => ?_) (fun k3 h => ?_)
    · refine awp_regionD Try_mixed (orcs := [(3, tB true)]) (gs := [.keep [1, 15] []]) (s' := ⟨[(1, .p (encL Track.cs v1)), (15, pB true)], []⟩) (by kernel_rfl) (holds_of ((UU ∧ UU ∧ UU ∧ ((UU ∧ some (pB ((v1.length : Int) != (1 : Int))) = some (pB true))) ∧ UU ∧ UU) ∧ (UU ∧ UU)) (by kernel_rfl) ⟨⟨TT, TT, TT, ⟨TT, by rw [k3]⟩, TT, TT⟩, ⟨TT, TT⟩⟩) ?_
      refine Done.mk ?_
      obtain rfl := Option.some.inj h
      exact ⟨rfl, by kernel_rfl⟩
    · refine bind_el h (fun t k4 h => ?_)
      replace k4 := getI_el k4
      refine awp_regionD Try_mixed (orcs := [(3, tB false), (7, tV (.p (encL Cell.cs t.cells)))]) (gs := [.keep [1, 15] []]) (s' := ⟨[(1, .p (encL Track.cs v1)), (15, pB ((t.cells.length : Int) != (4 : Int)))], []⟩) (by kernel_rfl) (holds_of ((UU ∧ UU ∧ UU ∧ ((UU ∧ some (pB ((v1.length : Int) != (1 : Int))) = some (pB false))) ∧ UU ∧ ((0 ≤ (0 : Int) ∧ (0 : Int) < (v1.length : Int))) ∧ UU ∧ ((v1.flatMap Track.cs)[(0 : Int).toNat * 3 + 2]? = some (encL Cell.cs t.cells)) ∧ UU ∧ UU ∧ UU ∧ UU) ∧ (UU ∧ UU)) (by kernel_rfl) ⟨⟨TT, TT, TT, ⟨TT, by rw [k3]⟩, TT, k4.2, TT, row_at Track.cs_len k4.1 (j := 2) (by omega) (by decide), TT, TT, TT, TT⟩, ⟨TT, TT⟩⟩) ?_
      refine Done.mk ?_
      obtain rfl := Option.some.inj h
      exact ⟨rfl, by kernel_rfl⟩
  · have _ := hm
    refine Done.as (e := Exit.normal) (s := ⟨[(1, .p (encL Track.cs v1)), (15, pB t15)], []⟩) rfl (by kernel_rfl) ?_
    refine Done.mk (thenQ_n ?_)
    refine ifB_el h (fun k5 h => ?_) (fun k5 h => ?_)
    · refine awp_cond_t (b := t15) (by kernel_rfl) k5 ?_
      refine awp_seq ?_
      refine awp_regionD Try_mixed (orcs := []) (gs := [.keep [0] []]) (s' := ⟨[(0, pB false)], []⟩) (by kernel_rfl) (holds_of ((UU ∧ UU) ∧ (UU ∧ UU)) (by kernel_rfl) ⟨⟨TT, TT⟩, ⟨TT, TT⟩⟩) ?_
      refine Done.mk (thenQ_n ?_)
      refine doneRet ?_
      refine Done.mk (thenQ_r ?_)
      obtain rfl := Option.some.inj h
      exact ⟨Or.inr rfl, by kernel_rfl, by kernel_rfl⟩
    · refine awp_cond_f (b := t15) (by kernel_rfl) k5 ?_
      refine doneSkip ?_
      refine Done.mk (thenQ_n ?_)
      refine awp_seq ?_
      refine bind_el h (fun t1 k6 h => ?_)
      replace k6 := getI_el k6
      refine awp_regionD Try_mixed (orcs := [(3, tV (.p (encL Cell.cs t1.cells)))]) (gs := [.keep [1, 2] []]) (s' := ⟨[(1, .p (encL Track.cs v1)), (2, .p (encL Cell.cs t1.cells))], []⟩) (by kernel_rfl) (holds_of ((UU ∧ ((0 ≤ (0 : Int) ∧ (0 : Int) < (v1.length : Int))) ∧ UU ∧ ((v1.flatMap Track.cs)[(0 : Int).toNat * 3 + 2]? = some (encL Cell.cs t1.cells)) ∧ UU ∧ UU) ∧ (UU ∧ UU)) (by kernel_rfl) ⟨⟨TT, k6.2, TT, row_at Track.cs_len k6.1 (j := 2) (by omega) (by decide), TT, TT⟩, ⟨TT, TT⟩⟩) ?_
      refine Done.mk (thenQ_n ?_)
      refine awp_seq ?_
      refine bind_el h (fun t0 hm h => ?_)
      refine awp_tail (fun _ => Exit.normal) (fun o => match o with | t0 => ⟨[(0, pB t0)], []⟩) hm (fun o h => ?_) ?_
      · refine ifB_el h (fun k7 h => ?_) (fun k7 h => ?_)
        · refine ifB_el h (fun k8 h => ?_) (fun k8 h => ?_)
          · refine bind_el h (fun c k9 h => ?_)
            replace k9 := getI_el k9
            refine ifB_el h (fun k10 h => ?_) (fun k10 h => ?_)
            · refine bind_el h (fun c1 k11 h => ?_)
              replace k11 := getI_el k11
              refine ifB_el h (fun k12 h => ?_) (fun k12 h => ?_)
              · refine bind_el h (fun c2 k13 h => ?_)
                replace k13 := getI_el k13
                refine ifB_el h (fun k14 h => ?_) (fun k14 h => ?_)
                · refine bind_el h (fun c3 k15 h => ?_)
                  replace k15 := getI_el k15
                  refine awp_regionD Try_mixed (orcs := [(3, tV (pB t1.closed)), (4, tB true), (8, tV (pI t1.role)), (11, tB true), (14, tV (.agg [pI c.x, pI c.y])), (18, tB true), (21, tV (.agg [pI c1.x, pI c1.y])), (25, tB true), (28, tV (.agg [pI c2.x, pI c2.y])), (32, tB true), (35, tV (.agg [pI c3.x, pI c3.y]))]) (gs := [.keep [0] []]) (s' := ⟨[(0, pB ((c3.x == (0 : Int)) && ((c3.y == (1 : Int)) && true)))], []⟩) (by kernel_rfl) (holds_of ((UU ∧ ((0 ≤ (0 : Int) ∧ (0 : Int) < (v1.length : Int))) ∧ UU ∧ ((v1.flatMap Track.cs)[(0 : Int).toNat * 3 + 1]? = some (.bool t1.closed)) ∧ ((UU ∧ some (pB t1.closed) = some (pB true))) ∧ UU ∧ ((0 ≤ (0 : Int) ∧ (0 : Int) < (v1.length : Int))) ∧ UU ∧ ((v1.flatMap Track.cs)[(0 : Int).toNat * 3]? = some (vI t1.role)) ∧ UU ∧ UU ∧ ((UU ∧ some (pB (t1.role == (1 : Int))) = some (pB true))) ∧ UU ∧ ((0 ≤ (0 : Int) ∧ (0 : Int) < (t1.cells.length : Int))) ∧ (rowHas (t1.cells.flatMap Cell.cs) ((0 : Int).toNat * 2) [pI c.x, pI c.y]) ∧ UU ∧ UU ∧ UU ∧ ((UU ∧ some (pB ((c.x == (0 : Int)) && ((c.y == (0 : Int)) && true))) = some (pB true))) ∧ UU ∧ ((0 ≤ (1 : Int) ∧ (1 : Int) < (t1.cells.length : Int))) ∧ (rowHas (t1.cells.flatMap Cell.cs) ((1 : Int).toNat * 2) [pI c1.x, pI c1.y]) ∧ UU ∧ UU ∧ UU ∧ ((UU ∧ some (pB ((c1.x == (1 : Int)) && ((c1.y == (0 : Int)) && true))) = some (pB true))) ∧ UU ∧ ((0 ≤ (2 : Int) ∧ (2 : Int) < (t1.cells.length : Int))) ∧ (rowHas (t1.cells.flatMap Cell.cs) ((2 : Int).toNat * 2) [pI c2.x, pI c2.y]) ∧ UU ∧ UU ∧ UU ∧ ((UU ∧ some (pB ((c2.x == (1 : Int)) && ((c2.y == (1 : Int)) && true))) = some (pB true))) ∧ UU ∧ ((0 ≤ (3 : Int) ∧ (3 : Int) < (t1.cells.length : Int))) ∧ (rowHas (t1.cells.flatMap Cell.cs) ((3 : Int).toNat * 2) [pI c3.x, pI c3.y]) ∧ UU ∧ UU ∧ UU ∧ UU ∧ UU) ∧ (UU ∧ UU)) (by kernel_rfl) ⟨⟨TT, k6.2, TT, row_at Track.cs_len k6.1 (j := 1) (by omega) (by decide), ⟨TT, by rw [k7]⟩, TT, k6.2, TT, row_at Track.cs_len k6.1 (j := 0) (by omega) (by decide), TT, TT, ⟨TT, by rw [k8]⟩, TT, k9.2, row_has Cell.cs_len k9.1 (o := 0) (m := 2) (by omega) (by decide), TT, TT, TT, ⟨TT, by rw [k10]⟩, TT, k11.2, row_has Cell.cs_len k11.1 (o := 0) (m := 2) (by omega) (by decide), TT, TT, TT, ⟨TT, by rw [k12]⟩, TT, k13.2, row_has Cell.cs_len k13.1 (o := 0) (m := 2) (by omega) (by decide), TT, TT, TT, ⟨TT, by rw [k14]⟩, TT, k15.2, row_has Cell.cs_len k15.1 (o := 0) (m := 2) (by omega) (by decide), TT, TT, TT, TT, TT⟩, ⟨TT, TT⟩⟩) ?_
                  refine Done.mk ?_
                  obtain rfl := Option.some.inj h
                  exact ⟨rfl, by kernel_rfl⟩
                · refine awp_regionD Try_mixed (orcs := [(3, tV (pB t1.closed)), (4, tB true), (8, tV (pI t1.role)), (11, tB true), (14, tV (.agg [pI c.x, pI c.y])), (18, tB true), (21, tV (.agg [pI c1.x, pI c1.y])), (25, tB true), (28, tV (.agg [pI c2.x, pI c2.y])), (32, tB false)]) (gs := [.keep [0] []]) (s' := ⟨[(0, pB false)], []⟩) (by kernel_rfl) (holds_of ((UU ∧ ((0 ≤ (0 : Int) ∧ (0 : Int) < (v1.length : Int))) ∧ UU ∧ ((v1.flatMap Track.cs)[(0 : Int).toNat * 3 + 1]? = some (.bool t1.closed)) ∧ ((UU ∧ some (pB t1.closed) = some (pB true))) ∧ UU ∧ ((0 ≤ (0 : Int) ∧ (0 : Int) < (v1.length : Int))) ∧ UU ∧ ((v1.flatMap Track.cs)[(0 : Int).toNat * 3]? = some (vI t1.role)) ∧ UU ∧ UU ∧ ((UU ∧ some (pB (t1.role == (1 : Int))) = some (pB true))) ∧ UU ∧ ((0 ≤ (0 : Int) ∧ (0 : Int) < (t1.cells.length : Int))) ∧ (rowHas (t1.cells.flatMap Cell.cs) ((0 : Int).toNat * 2) [pI c.x, pI c.y]) ∧ UU ∧ UU ∧ UU ∧ ((UU ∧ some (pB ((c.x == (0 : Int)) && ((c.y == (0 : Int)) && true))) = some (pB true))) ∧ UU ∧ ((0 ≤ (1 : Int) ∧ (1 : Int) < (t1.cells.length : Int))) ∧ (rowHas (t1.cells.flatMap Cell.cs) ((1 : Int).toNat * 2) [pI c1.x, pI c1.y]) ∧ UU ∧ UU ∧ UU ∧ ((UU ∧ some (pB ((c1.x == (1 : Int)) && ((c1.y == (0 : Int)) && true))) = some (pB true))) ∧ UU ∧ ((0 ≤ (2 : Int) ∧ (2 : Int) < (t1.cells.length : Int))) ∧ (rowHas (t1.cells.flatMap Cell.cs) ((2 : Int).toNat * 2) [pI c2.x, pI c2.y]) ∧ UU ∧ UU ∧ UU ∧ ((UU ∧ some (pB ((c2.x == (1 : Int)) && ((c2.y == (1 : Int)) && true))) = some (pB false))) ∧ UU ∧ UU ∧ UU) ∧ (UU ∧ UU)) (by kernel_rfl) ⟨⟨TT, k6.2, TT, row_at Track.cs_len k6.1 (j := 1) (by omega) (by decide), ⟨TT, by rw [k7]⟩, TT, k6.2, TT, row_at Track.cs_len k6.1 (j := 0) (by omega) (by decide), TT, TT, ⟨TT, by rw [k8]⟩, TT, k9.2, row_has Cell.cs_len k9.1 (o := 0) (m := 2) (by omega) (by decide), TT, TT, TT, ⟨TT, by rw [k10]⟩, TT, k11.2, row_has Cell.cs_len k11.1 (o := 0) (m := 2) (by omega) (by decide), TT, TT, TT, ⟨TT, by rw [k12]⟩, TT, k13.2, row_has Cell.cs_len k13.1 (o := 0) (m := 2) (by omega) (by decide), TT, TT, TT, ⟨TT, by rw [k14]⟩, TT, TT, TT⟩, ⟨TT, TT⟩⟩) ?_
                  refine Done.mk ?_
                  obtain rfl := Option.some.inj h
                  exact ⟨rfl, by kernel_rfl⟩
              · refine awp_regionD Try_mixed (orcs := [(3, tV (pB t1.closed)), (4, tB true), (8, tV (pI t1.role)), (11, tB true), (14, tV (.agg [pI c.x, pI c.y])), (18, tB true), (21, tV (.agg [pI c1.x, pI c1.y])), (25, tB false)]) (gs := [.keep [0] []]) (s' := ⟨[(0, pB false)], []⟩) (by kernel_rfl) (holds_of ((UU ∧ ((0 ≤ (0 : Int) ∧ (0 : Int) < (v1.length : Int))) ∧ UU ∧ ((v1.flatMap Track.cs)[(0 : Int).toNat * 3 + 1]? = some (.bool t1.closed)) ∧ ((UU ∧ some (pB t1.closed) = some (pB true))) ∧ UU ∧ ((0 ≤ (0 : Int) ∧ (0 : Int) < (v1.length : Int))) ∧ UU ∧ ((v1.flatMap Track.cs)[(0 : Int).toNat * 3]? = some (vI t1.role)) ∧ UU ∧ UU ∧ ((UU ∧ some (pB (t1.role == (1 : Int))) = some (pB true))) ∧ UU ∧ ((0 ≤ (0 : Int) ∧ (0 : Int) < (t1.cells.length : Int))) ∧ (rowHas (t1.cells.flatMap Cell.cs) ((0 : Int).toNat * 2) [pI c.x, pI c.y]) ∧ UU ∧ UU ∧ UU ∧ ((UU ∧ some (pB ((c.x == (0 : Int)) && ((c.y == (0 : Int)) && true))) = some (pB true))) ∧ UU ∧ ((0 ≤ (1 : Int) ∧ (1 : Int) < (t1.cells.length : Int))) ∧ (rowHas (t1.cells.flatMap Cell.cs) ((1 : Int).toNat * 2) [pI c1.x, pI c1.y]) ∧ UU ∧ UU ∧ UU ∧ ((UU ∧ some (pB ((c1.x == (1 : Int)) && ((c1.y == (0 : Int)) && true))) = some (pB false))) ∧ UU ∧ UU ∧ UU ∧ UU ∧ UU) ∧ (UU ∧ UU)) (by kernel_rfl) ⟨⟨TT, k6.2, TT, row_at Track.cs_len k6.1 (j := 1) (by omega) (by decide), ⟨TT, by rw [k7]⟩, TT, k6.2, TT, row_at Track.cs_len k6.1 (j := 0) (by omega) (by decide), TT, TT, ⟨TT, by rw [k8]⟩, TT, k9.2, row_has Cell.cs_len k9.1 (o := 0) (m := 2) (by omega) (by decide), TT, TT, TT, ⟨TT, by rw [k10]⟩, TT, k11.2, row_has Cell.cs_len k11.1 (o := 0) (m := 2) (by omega) (by decide), TT, TT, TT, ⟨TT, by rw [k12]⟩, TT, TT, TT, TT, TT⟩, ⟨TT, TT⟩⟩) ?_
                refine Done.mk ?_
                obtain rfl := Option.some.inj h
                exact ⟨rfl, by kernel_rfl⟩
            · refine awp_regionD Try_mixed (orcs := [(3, tV (pB t1.closed)), (4, tB true), (8, tV (pI t1.role)), (11, tB true), (14, tV (.agg [pI c.x, pI c.y])), (18, tB false)]) (gs := [.keep [0] []]) (s' := ⟨[(0, pB false)], []⟩) (by kernel_rfl) (holds_of ((UU ∧ ((0 ≤ (0 : Int) ∧ (0 : Int) < (v1.length : Int))) ∧ UU ∧ ((v1.flatMap Track.cs)[(0 : Int).toNat * 3 + 1]? = some (.bool t1.closed)) ∧ ((UU ∧ some (pB t1.closed) = some (pB true))) ∧ UU ∧ ((0 ≤ (0 : Int) ∧ (0 : Int) < (v1.length : Int))) ∧ UU ∧ ((v1.flatMap Track.cs)[(0 : Int).toNat * 3]? = some (vI t1.role)) ∧ UU ∧ UU ∧ ((UU ∧ some (pB (t1.role == (1 : Int))) = some (pB true))) ∧ UU ∧ ((0 ≤ (0 : Int) ∧ (0 : Int) < (t1.cells.length : Int))) ∧ (rowHas (t1.cells.flatMap Cell.cs) ((0 : Int).toNat * 2) [pI c.x, pI c.y]) ∧ UU ∧ UU ∧ UU ∧ ((UU ∧ some (pB ((c.x == (0 : Int)) && ((c.y == (0 : Int)) && true))) = some (pB false))) ∧ UU ∧ UU ∧ UU ∧ UU ∧ UU ∧ UU ∧ UU) ∧ (UU ∧ UU)) (by kernel_rfl) ⟨⟨TT, k6.2, TT, row_at Track.cs_len k6.1 (j := 1) (by omega) (by decide), ⟨TT, by rw [k7]⟩, TT, k6.2, TT, row_at Track.cs_len k6.1 (j := 0) (by omega) (by decide), TT, TT, ⟨TT, by rw [k8]⟩, TT, k9.2, row_has Cell.cs_len k9.1 (o := 0) (m := 2) (by omega) (by decide), TT, TT, TT, ⟨TT, by rw [k10]⟩, TT, TT, TT, TT, TT, TT, TT⟩, ⟨TT, TT⟩⟩) ?_
              refine Done.mk ?_
              obtain rfl := Option.some.inj h
              exact ⟨rfl, by kernel_rfl⟩
          · refine awp_regionD Try_mixed (orcs := [(3, tV (pB t1.closed)), (4, tB true), (8, tV (pI t1.role)), (11, tB false)]) (gs := [.keep [0] []]) (s' := ⟨[(0, pB false)], []⟩) (by kernel_rfl) (holds_of ((UU ∧ ((0 ≤ (0 : Int) ∧ (0 : Int) < (v1.length : Int))) ∧ UU ∧ ((v1.flatMap Track.cs)[(0 : Int).toNat * 3 + 1]? = some (.bool t1.closed)) ∧ ((UU ∧ some (pB t1.closed) = some (pB true))) ∧ UU ∧ ((0 ≤ (0 : Int) ∧ (0 : Int) < (v1.length : Int))) ∧ UU ∧ ((v1.flatMap Track.cs)[(0 : Int).toNat * 3]? = some (vI t1.role)) ∧ UU ∧ UU ∧ ((UU ∧ some (pB (t1.role == (1 : Int))) = some (pB false))) ∧ UU ∧ UU ∧ UU ∧ UU ∧ UU ∧ UU ∧ UU ∧ UU ∧ UU) ∧ (UU ∧ UU)) (by kernel_rfl) ⟨⟨TT, k6.2, TT, row_at Track.cs_len k6.1 (j := 1) (by omega) (by decide), ⟨TT, by rw [k7]⟩, TT, k6.2, TT, row_at Track.cs_len k6.1 (j := 0) (by omega) (by decide), TT, TT, ⟨TT, by rw [k8]⟩, TT, TT, TT, TT, TT, TT, TT, TT, TT⟩, ⟨TT, TT⟩⟩) ?_
            refine Done.mk ?_
            obtain rfl := Option.some.inj h
            exact ⟨rfl, by kernel_rfl⟩
        · refine awp_regionD Try_mixed (orcs := [(3, tV (pB t1.closed)), (4, tB false)]) (gs := [.keep [0] []]) (s' := ⟨[(0, pB false)], []⟩) (by kernel_rfl) (holds_of ((UU ∧ ((0 ≤ (0 : Int) ∧ (0 : Int) < (v1.length : Int))) ∧ UU ∧ ((v1.flatMap Track.cs)[(0 : Int).toNat * 3 + 1]? = some (.bool t1.closed)) ∧ ((UU ∧ some (pB t1.closed) = some (pB false))) ∧ UU ∧ UU ∧ UU ∧ UU ∧ UU ∧ UU ∧ UU ∧ UU ∧ UU ∧ UU ∧ UU) ∧ (UU ∧ UU)) (by kernel_rfl) ⟨⟨TT, k6.2, TT, row_at Track.cs_len k6.1 (j := 1) (by omega) (by decide), ⟨TT, by rw [k7]⟩, TT, TT, TT, TT, TT, TT, TT, TT, TT, TT, TT⟩, ⟨TT, TT⟩⟩) ?_
          refine Done.mk ?_
          obtain rfl := Option.some.inj h
          exact ⟨rfl, by kernel_rfl⟩
      · have _ := hm
        refine Done.as (e := Exit.normal) (s := ⟨[(0, pB t0)], []⟩) rfl (by kernel_rfl) ?_
        refine Done.mk (thenQ_n ?_)
        refine doneRet ?_
        refine Done.mk ?_
        obtain rfl := Option.some.inj h
        exact ⟨Or.inr rfl, by kernel_rfl, by kernel_rfl⟩
end
end Go.AM
end
section
namespace Go.AM
open Go Go.RowKit Go.Proofs
noncomputable section
def L24_RingwalkWalks_j1 (r_ : Region) : Option (Bool) :=
    (ringwalk_Walk r_).bind fun v =>
    (R24_Walk r_).bind fun v1 =>
    (R23_SameAll v v1).bind fun b2 =>
    ifB (b2)
    ((L24_awake).bind fun b3 =>
      some b3)
    (some false)
noncomputable def L24_RingwalkWalks (r_ : Region) : Option Bool :=
  (L18_Small r_).bind fun b =>
  ifB (!b)
  ((L24_awake).bind fun b1 =>
    some b1)
  ((L24_RingwalkWalks_j1 r_).bind fun t2 =>
    some t2)
set_option maxRecDepth 100000 in
set_option maxHeartbeats 4000000 in
theorem L24_RingwalkWalks_ok {r_ : Region} {r : Bool} (h : L24_RingwalkWalks r_ = some r) : ASpec Try.prog 3 [.agg [.p (encL Row.cs r_.rows)]] [] (pB r) [] := by
  refine aspec_of Try.func3 (c := _) rfl (by kernel_rfl) (by rw [Try.ntmps3]; exact Nat.le_of_ble_eq_true rfl) ?_
  refine awp_seq ?_
  refine awp_regionD Try_mixed (orcs := []) (gs := [.keep [1] [1]]) (s' := ⟨[(1, .ptr 1 0)], [(1, .lit 24 [.p (encL Row.cs r_.rows)])]⟩) (by kernel_rfl) (holds_of ((UU ∧ UU ∧ UU) ∧ (UU ∧ UU)) (by kernel_rfl) ⟨⟨TT, TT, TT⟩, ⟨TT, TT⟩⟩) ?_
  refine Done.mk (thenQ_n ?_)
  refine awp_seq ?_
  refine awp_seq ?_
  refine bind_el h (fun b k1 h => ?_)
  refine awp_regionD Try_mixed (orcs := [(1, tV (pB b))]) (gs := [.keep [1, 5] [1]]) (s' := ⟨[(1, .ptr 1 0), (5, pB (!b))], [(1, .lit 24 [.p (encL Row.cs r_.rows)])]⟩) (by kernel_rfl) (holds_of ((UU ∧ (ASpec Try.prog 7 [.agg [.p (encL Row.cs r_.rows)]] [] (pB b) []) ∧ UU ∧ UU) ∧ (UU ∧ UU)) (by kernel_rfl) ⟨⟨TT, L18_Small_ok k1, TT, TT⟩, ⟨TT, TT⟩⟩) ?_
  refine Done.mk (thenQ_n ?_)
  refine ifB_el h (fun k2 h => ?_) (fun k2 h => ?_)
  · refine awp_cond_t (b := !b) (by kernel_rfl) k2 ?_
    refine awp_seq ?_
    refine bind_el h (fun b1 k3 h => ?_)
    refine awp_regionD Try_mixed (orcs := [(0, tV (pB b1))]) (gs := [.keep [2] []]) (s' := ⟨[(2, pB b1)], []⟩) (by kernel_rfl) (holds_of (((ASpec Try.prog 8 [] [] (pB b1) []) ∧ UU ∧ UU) ∧ (UU ∧ UU)) (by kernel_rfl) ⟨⟨L24_awake_ok k3, TT, TT⟩, ⟨TT, TT⟩⟩) ?_
    refine Done.mk (thenQ_n ?_)
    refine doneRet ?_
    refine Done.mk (thenQ_r ?_)
    obtain rfl := Option.some.inj h
    exact ⟨Or.inr rfl, by kernel_rfl, by kernel_rfl⟩
  · refine awp_cond_f (b := !b) (by kernel_rfl) k2 ?_
    refine doneSkip ?_
    refine Done.mk (thenQ_n ?_)
    refine awp_seq ?_
    refine bind_el h (fun t2 hm h => ?_)
    refine awp_tail (fun _ => Exit.normal) (fun o => match o with | t2 => ⟨[(2, pB t2)], []⟩) hm (fun o h => ?_) ?_
    · refine bind_el h (fun v k4 h => ?_)
      refine bind_el h (fun v1 k5 h => ?_)
      refine bind_el h (fun b2 k6 h => ?_)
      refine ifB_el h (fun k7 h => ?_) (fun k7 h => ?_)
      · refine bind_el h (fun b3 k8 h => ?_)
        refine awp_regionD Try_mixed (orcs := [(1, tV (.p (encL Track.cs v))), (3, tV (.p (encL Track.cs v1))), (4, tV (pB b2)), (5, tB true), (6, tV (pB b3))]) (gs := [.keep [2] []]) (s' := ⟨[(2, pB b3)], []⟩) (by kernel_rfl) (holds_of ((UU ∧ (ASpec Try.prog 10 [.agg [.p (encL Row.cs r_.rows)]] [] (.p (encL Track.cs v)) []) ∧ UU ∧ (ASpec Try.prog 11 [.agg [.p (encL Row.cs r_.rows)]] [] (.p (encL Track.cs v1)) []) ∧ (ASpec Try.prog 9 [.p (encL Track.cs v), .p (encL Track.cs v1)] [] (pB b2) []) ∧ ((UU ∧ some (pB b2) = some (pB true))) ∧ (ASpec Try.prog 8 [] [] (pB b3) []) ∧ UU ∧ UU ∧ UU) ∧ (UU ∧ UU)) (by kernel_rfl) ⟨⟨TT, ringwalk_Walk_ok k4, TT, R24_Walk_ok k5, R23_SameAll_ok k6, ⟨TT, by rw [k7]⟩, L24_awake_ok k8, TT, TT, TT⟩, ⟨TT, TT⟩⟩) ?_
        refine Done.mk ?_
        obtain rfl := Option.some.inj h
        exact ⟨rfl, by kernel_rfl⟩
      · refine awp_regionD Try_mixed (orcs := [(1, tV (.p (encL Track.cs v))), (3, tV (.p (encL Track.cs v1))), (4, tV (pB b2)), (5, tB false)]) (gs := [.keep [2] []]) (s' := ⟨[(2, pB false)], []⟩) (by kernel_rfl) (holds_of ((UU ∧ (ASpec Try.prog 10 [.agg [.p (encL Row.cs r_.rows)]] [] (.p (encL Track.cs v)) []) ∧ UU ∧ (ASpec Try.prog 11 [.agg [.p (encL Row.cs r_.rows)]] [] (.p (encL Track.cs v1)) []) ∧ (ASpec Try.prog 9 [.p (encL Track.cs v), .p (encL Track.cs v1)] [] (pB b2) []) ∧ ((UU ∧ some (pB b2) = some (pB false))) ∧ UU ∧ UU ∧ UU) ∧ (UU ∧ UU)) (by kernel_rfl) ⟨⟨TT, ringwalk_Walk_ok k4, TT, R24_Walk_ok k5, R23_SameAll_ok k6, ⟨TT, by rw [k7]⟩, TT, TT, TT⟩, ⟨TT, TT⟩⟩) ?_
        refine Done.mk ?_
        obtain rfl := Option.some.inj h
        exact ⟨rfl, by kernel_rfl⟩
    · have _ := hm
      refine Done.as (e := Exit.normal) (s := ⟨[(2, pB t2)], []⟩) rfl (by kernel_rfl) ?_
      refine Done.mk (thenQ_n ?_)
      refine doneRet ?_
      refine Done.mk ?_
      obtain rfl := Option.some.inj h
      exact ⟨Or.inr rfl, by kernel_rfl, by kernel_rfl⟩
end
end Go.AM
end
section
namespace Go.AM
open Go Go.RowKit Go.Proofs Go.Proofs.Ytijdlphadhpabaa Go.ChangeShapes Go.WideShapes
set_option maxRecDepth 100000 in
theorem walks_contract (hT : ∀ r : Region, r.Ok → L24_RingwalkWalks r = some true) (H : Type) (enc : TypeId × Value → H) (W : World) (base : Nat) (args : Array Value) (ds gs : List (DataW H)) (before : List MemPlace)
    (hval : ∀ (j : Nat) t v, Try.f3.params[j]? = some t → args[j]? = some v → Value.okWide Try.prog W .any base t v)
    (hW : DataW.Whole enc Try.prog Try.f3.params.toList Rows.ringwalkWalksSpec.vars false W args.toList ds gs before) :
    Calls Try.prog 3 args W fun e W' => ∃ v, e = .returned v ∧ Rows.ringwalkWalksSpec.post enc Try.prog Try.f3 false true false false W args v W' := by
  have hW' := hW
  obtain ⟨p, q, hA0, hV, rfl, hfz, hnd⟩ := hW
  have hA : DataW.TrodAll enc Try.prog W 0 (fun _ => true) true Try.f3.params.toList args.toList ds p := hA0
  rw [Try.params3] at hA hval
  obtain ⟨v0, vs0, d0, ds0, p0, q0, hargs, rfl, rfl, h0, r0⟩ := trodAll_cons hA
  obtain ⟨rfl, rfl, rfl⟩ := trodAll_nil r0
  obtain rfl : args = #[v0] := by cases args; simp_all
  obtain ⟨r, hr⟩ := vr_agg (φ := fun _ => none) rdRegion Try.underlying24 (hval 0 24 v0 rfl rfl) h0
  refine (law_calls (L24_RingwalkWalks_ok (hT r (Region.ok_vr hr))) W (vs := [v0]) (by rw [VRs]; exact ⟨_, _, rfl, hr, by rw [VRs]⟩)).mono ?_
  rintro e W' ⟨rfl, hb⟩
  exact ⟨_, rfl, law_post Try_laid Try.underlying4 rfl rfl (by decide +kernel) hW' rfl rfl rfl hb⟩
set_option maxRecDepth 100000 in
theorem walks_lifted (hT : ∀ r : Region, r.Ok → L24_RingwalkWalks r = some true) (os : Os) (started : os.Started) (H : Type) (enc : TypeId × Value → H) :
    ReturnsInHanded {} Try.checked os 3 .any (Rows.ringwalkWalksSpec.pre6 enc Try.prog Try.f3 Rows.ringwalkWalksRow.domain false) (Rows.ringwalkWalksSpec.post enc Try.prog Try.f3 false true false false) := by
  refine returnsInHanded_of_change (C := Try.checked) Try_own started (by kernel_rfl) Try.func3
    (ChangeSpec.witness6 (enc := enc) (C := Try.checked) false ⟨#[], #[.agg #[.slice none 0 0]], []⟩ 8 (by kernel_rfl) (by kernel_rfl) (by kernel_rfl) (by kernel_rfl)) ?_
  intro W base args ds gs before hval hW _ _
  exact walks_contract hT H enc W base args ds gs before hval hW
theorem walks_row (hT : ∀ r : Region, r.Ok → L24_RingwalkWalks r = some true) : Rows.RingwalkWalksSaid :=
  OpenClaim.holds_of_wide 3 Try.f3 rfl rfl rfl rfl rfl rfl rfl ⟨rfl, rfl, rfl, rfl, rfl⟩ rfl rfl rfl rfl rfl (by kernel_rfl) Try.func3 (by kernel_rfl)
    (of_decide_eq_true (by kernel_rfl)) (by unfold Func.isWrapper; first | (rw [if_pos (by decide +kernel)]; kernel_rfl) | (rw [if_neg (by decide +kernel)]; exact ⟨rfl, rfl⟩))
    (fun os started H enc _ => walks_lifted hT os started H enc)
end Go.AM
end
section
namespace Go.AM
open Go
noncomputable section
theorem nxt_l {S : Int → Int → Prop} {c : Cr} {q : Pt} {k : Int} (hq : stp c.p c.h = q) (hk : lf c.h = k) (h : isC S q k) : nxt S c = ⟨q, k⟩ := by
  subst hq; subst hk; unfold nxt; exact if_pos h
theorem nxt_s {S : Int → Int → Prop} {c : Cr} {q : Pt} {h : Int} (hq : stp c.p c.h = q) (hh : c.h = h) (hl : ¬ isC S q (lf c.h)) (hs : isC S q h) : nxt S c = ⟨q, h⟩ := by
  subst hq; subst hh; unfold nxt; rw [if_neg hl, if_pos hs]
/-- The cells of a rectangle. -/
def boxS (x y : Int) (w h : Nat) : Int → Int → Prop := fun a b => x ≤ a ∧ a < x + w ∧ y ≤ b ∧ b < y + h
/-- The cracks round it, in order. -/
def bpos (x y : Int) (w h : Nat) (i : Nat) : Cr :=
  if i < w then ⟨⟨x + i, y⟩, 0⟩ else if i < w + h then ⟨⟨x + w, y + (i - w : Nat)⟩, 1⟩ else if i < w + h + w then ⟨⟨x + w - (i - w - h : Nat), y + h⟩, 2⟩ else ⟨⟨x, y + h - (i - w - h - w : Nat)⟩, 3⟩
theorem bpos_h {x y : Int} {w h i : Nat} : (i < w ∧ bpos x y w h i = ⟨⟨x + i, y⟩, 0⟩) ∨ (w ≤ i ∧ i < w + h ∧ bpos x y w h i = ⟨⟨x + w, y + (i - w : Nat)⟩, 1⟩) ∨ (w + h ≤ i ∧ i < w + h + w ∧ bpos x y w h i = ⟨⟨x + w - (i - w - h : Nat), y + h⟩, 2⟩) ∨ (w + h + w ≤ i ∧ bpos x y w h i = ⟨⟨x, y + h - (i - w - h - w : Nat)⟩, 3⟩) := by
  unfold bpos
  by_cases h1 : i < w
  · left; exact ⟨h1, if_pos h1⟩
  · by_cases h2 : i < w + h
    · right; left; exact ⟨by omega, h2, by rw [if_neg h1, if_pos h2]⟩
    · by_cases h3 : i < w + h + w
      · right; right; left; exact ⟨by omega, h3, by rw [if_neg h1, if_neg h2, if_pos h3]⟩
      · right; right; right; exact ⟨by omega, by rw [if_neg h1, if_neg h2, if_neg h3]⟩
section
variable {x y : Int} {w h : Nat}
theorem bpos_isCr (hw : 0 < w) (hh : 0 < h) {i : Nat} (hi : i < 2 * (w + h)) : isCr (boxS x y w h) (bpos x y w h i) := by
  rcases bpos_h (x := x) (y := y) (w := w) (h := h) (i := i) with ⟨h1, e⟩ | ⟨h1, h2, e⟩ | ⟨h1, h2, e⟩ | ⟨h1, e⟩ <;> rw [e]
  · show isC _ _ 0; rw [isC0]; unfold boxS; simp only; omega
  · show isC _ _ 1; rw [isC1]; unfold boxS; simp only; omega
  · show isC _ _ 2; rw [isC2]; unfold boxS; simp only; omega
  · show isC _ _ 3; rw [isC3]; unfold boxS; simp only; omega
theorem bpos_next (hw : 0 < w) (hh : 0 < h) {i : Nat} (hi : i < 2 * (w + h)) : nxt (boxS x y w h) (bpos x y w h i) = if i + 1 = 2 * (w + h) then bpos x y w h 0 else bpos x y w h (i + 1) := by
  have h0 : bpos x y w h 0 = ⟨⟨x, y⟩, 0⟩ := by unfold bpos; rw [if_pos hw]; simp
  have hnext := bpos_h (x := x) (y := y) (w := w) (h := h) (i := i + 1)
  rcases bpos_h (x := x) (y := y) (w := w) (h := h) (i := i) with ⟨h1, e⟩ | ⟨h1, h2, e⟩ | ⟨h1, h2, e⟩ | ⟨h1, e⟩ <;> rw [e]
  · rw [if_neg (by omega)]
    rcases Nat.lt_or_ge (i + 1) w with hl | hl
    · rcases hnext with ⟨_, e⟩ | ⟨q, _⟩ | ⟨q, _⟩ | ⟨q, _⟩
      · rw [e]
        refine nxt_s (h := 0) (by unfold stp; simp; omega) rfl ?_ ?_
        · show ¬ isC _ _ 1
          rw [isC1]; unfold boxS; simp only; omega
        · rw [isC0]; unfold boxS; simp only; omega
      all_goals omega
    · rcases hnext with ⟨q, e⟩ | ⟨_, _, e⟩ | ⟨q, _⟩ | ⟨q, _⟩
      · omega
      · rw [e]
        refine nxt_l (by unfold stp; simp; omega) rfl ?_
        rw [isC1]; unfold boxS; simp only; omega
      all_goals omega
  · rw [if_neg (by omega)]
    rcases Nat.lt_or_ge (i + 1) (w + h) with hl | hl
    · rcases hnext with ⟨q, e⟩ | ⟨_, _, e⟩ | ⟨q, _⟩ | ⟨q, _⟩
      · omega
      · rw [e]
        refine nxt_s (h := 1) (by unfold stp; simp; omega) rfl ?_ ?_
        · show ¬ isC _ _ 2
          rw [isC2]; unfold boxS; simp only; omega
        · rw [isC1]; unfold boxS; simp only; omega
      all_goals omega
    · rcases hnext with ⟨q, e⟩ | ⟨_, q, _⟩ | ⟨_, _, e⟩ | ⟨q, _⟩
      · omega
      · omega
      · rw [e]
        refine nxt_l (by unfold stp; simp; omega) rfl ?_
        rw [isC2]; unfold boxS; simp only; omega
      · omega
  · rw [if_neg (by omega)]
    rcases Nat.lt_or_ge (i + 1) (w + h + w) with hl | hl
    · rcases hnext with ⟨q, e⟩ | ⟨_, q, _⟩ | ⟨_, _, e⟩ | ⟨q, _⟩
      · omega
      · omega
      · rw [e]
        refine nxt_s (h := 2) (by unfold stp; simp; omega) rfl ?_ ?_
        · show ¬ isC _ _ 3
          rw [isC3]; unfold boxS; simp only; omega
        · rw [isC2]; unfold boxS; simp only; omega
      · omega
    · rcases hnext with ⟨q, e⟩ | ⟨_, q, _⟩ | ⟨_, q, _⟩ | ⟨_, e⟩
      · omega
      · omega
      · omega
      · rw [e]
        refine nxt_l (by unfold stp; simp; omega) rfl ?_
        rw [isC3]; unfold boxS; simp only; omega
  · rcases Nat.lt_or_ge (i + 1) (2 * (w + h)) with hl | hl
    · rw [if_neg (show ¬ (i + 1 = 2 * (w + h)) by omega)]
      rcases hnext with ⟨q, e⟩ | ⟨_, q, _⟩ | ⟨_, q, _⟩ | ⟨_, e⟩
      · omega
      · omega
      · omega
      · rw [e]
        refine nxt_s (h := 3) (by unfold stp; simp; omega) rfl ?_ ?_
        · show ¬ isC _ _ 0
          rw [isC0]; unfold boxS; simp only; omega
        · rw [isC3]; unfold boxS; simp only; omega
    · rw [if_pos (show i + 1 = 2 * (w + h) by omega), h0]
      refine nxt_l (by unfold stp; simp; omega) rfl ?_
      rw [isC0]; unfold boxS; simp only; omega
theorem bpos_it (hw : 0 < w) (hh : 0 < h) : ∀ {i : Nat}, i < 2 * (w + h) → it (boxS x y w h) i (bpos x y w h 0) = bpos x y w h i
  | 0, _ => rfl
  | i + 1, hi => by
    show nxt _ (it _ i _) = _
    rw [bpos_it hw hh (by omega), bpos_next hw hh (by omega), if_neg (by omega)]
theorem bpos_inj (_hw : 0 < w) (_hh : 0 < h) {i j : Nat} (_hi : i < 2 * (w + h)) (_hj : j < 2 * (w + h)) (e : bpos x y w h i = bpos x y w h j) : i = j := by
  rcases bpos_h (x := x) (y := y) (w := w) (h := h) (i := i) with ⟨h1, e1⟩ | ⟨h1, h2, e1⟩ | ⟨h1, h2, e1⟩ | ⟨h1, e1⟩ <;> rcases bpos_h (x := x) (y := y) (w := w) (h := h) (i := j) with ⟨k1, e2⟩ | ⟨k1, k2, e2⟩ | ⟨k1, k2, e2⟩ | ⟨k1, e2⟩ <;>
    (rw [e1, e2] at e; simp only [Cr.mk.injEq, Pt.mk.injEq] at e; omega)
theorem box_per (hw : 0 < w) (hh : 0 < h) : Per (boxS x y w h) (bpos x y w h 0) (2 * (w + h)) := by
  refine ⟨by omega, ?_, fun i h0 hi e => ?_⟩
  · obtain ⟨m, hm⟩ : ∃ m, 2 * (w + h) = m + 1 := ⟨2 * (w + h) - 1, by omega⟩
    rw [hm]
    show nxt _ (it _ m _) = _
    rw [bpos_it hw hh (by omega), bpos_next hw hh (by omega), if_pos hm.symm]
  · rw [bpos_it hw hh hi] at e
    have := bpos_inj hw hh hi (by omega) e
    omega
theorem box_all (hw : 0 < w) (hh : 0 < h) {c : Cr} (hc : isCr (boxS x y w h) c) : ∃ i, i < 2 * (w + h) ∧ bpos x y w h i = c := by
  obtain ⟨⟨px, py⟩, k⟩ := c
  have hc' : isC (boxS x y w h) ⟨px, py⟩ k := hc
  rcases isC_h hc' with rfl | rfl | rfl | rfl
  · rw [isC0] at hc'; unfold boxS at hc'; simp only at hc'
    refine ⟨(px - x).toNat, by omega, ?_⟩
    unfold bpos; rw [if_pos (by omega)]; simp; omega
  · rw [isC1] at hc'; unfold boxS at hc'; simp only at hc'
    refine ⟨w + (py - y).toNat, by omega, ?_⟩
    unfold bpos; rw [if_neg (by omega), if_pos (by omega)]; simp; omega
  · rw [isC2] at hc'; unfold boxS at hc'; simp only at hc'
    refine ⟨w + h + (x + w - px).toNat, by omega, ?_⟩
    unfold bpos; rw [if_neg (by omega), if_neg (by omega), if_pos (by omega)]; simp; omega
  · rw [isC3] at hc'; unfold boxS at hc'; simp only at hc'
    refine ⟨w + h + w + (y + h - py).toNat, by omega, ?_⟩
    unfold bpos; rw [if_neg (by omega), if_neg (by omega), if_neg (by omega)]; simp; omega
theorem box_fin (hw : 0 < w) (hh : 0 < h) : FinS (boxS x y w h) := ⟨(List.range (2 * (w + h))).map (bpos x y w h), fun c hc => by
  obtain ⟨i, hi, e⟩ := box_all hw hh hc
  exact List.mem_map.2 ⟨i, List.mem_range.2 hi, e⟩⟩
theorem box_least (hw : 0 < w) (hh : 0 < h) : LeastAt (boxS x y w h) (bpos x y w h 0) := fun i => by
  have hn := box_per (x := x) (y := y) hw hh
  rw [hn.mod i, bpos_it hw hh (Nat.mod_lt _ hn.pos), lePt_iff]
  have h0 : bpos x y w h 0 = ⟨⟨x, y⟩, 0⟩ := by unfold bpos; rw [if_pos hw]; simp
  rw [h0]
  have hlt := Nat.mod_lt i hn.pos
  generalize i % (2 * (w + h)) = j at hlt
  rcases bpos_h (x := x) (y := y) (w := w) (h := h) (i := j) with ⟨h1, e1⟩ | ⟨h1, h2, e1⟩ | ⟨h1, h2, e1⟩ | ⟨h1, e1⟩ <;> (rw [e1]; first | (simp only; omega) | (simp; done) | (simp; omega))
theorem box_traces (hw : 0 < w) (hh : 0 < h) : Traces (boxS x y w h) [⟨corners (boxS x y w h) (bpos x y w h 0) (2 * (w + h))⟩] := by
  have hn := box_per (x := x) (y := y) hw hh
  have hc := bpos_isCr (x := x) (y := y) hw hh (i := 0) (by omega)
  have hl := box_least (x := x) (y := y) hw hh
  refine ⟨by simp, fun P => ?_⟩
  simp only [List.mem_cons, List.not_mem_nil, or_false]
  constructor
  · rintro rfl
    exact ⟨_, _, hc, hn, hl, rfl⟩
  · rintro ⟨c, n, h1, h2, h3, rfl⟩
    obtain ⟨i, hi, e⟩ := box_all hw hh h1
    have hs : Same (boxS x y w h) (bpos x y w h 0) c := ⟨i, by rw [bpos_it hw hh hi, e]⟩
    have := least_uniq hc (box_fin hw hh) hl h3 hs
    subst this
    rw [h2.uniq hn]
theorem box_upTo (hw : 0 < w) (hh : 0 < h) : upTo (boxS x y w h) (bpos x y w h 0) (2 * (w + h)) = (List.range (2 * (w + h))).map fun i => lcell (bpos x y w h i) := by
  unfold upTo
  have : ∀ (l : List Nat), (∀ i ∈ l, i < 2 * (w + h)) → l.flatMap (fun m => vis (boxS x y w h) (it (boxS x y w h) m (bpos x y w h 0))) = l.map fun i => lcell (bpos x y w h i) := by
    intro l
    induction l with
    | nil => intro _; rfl
    | cons a l ih =>
      intro hl
      have ha := hl a (by simp)
      rw [List.flatMap_cons, List.map_cons, ih fun i hi => hl i (by simp [hi]), bpos_it hw hh ha]
      have : vis (boxS x y w h) (bpos x y w h a) = [lcell (bpos x y w h a)] := by
        unfold vis rtc
        rw [if_neg]
        rw [bpos_next hw hh ha]
        intro e
        split at e
        · rename_i h1
          rcases bpos_h (x := x) (y := y) (w := w) (h := h) (i := a) with ⟨k1, e1⟩ | ⟨k1, k2, e1⟩ | ⟨k1, k2, e1⟩ | ⟨k1, e1⟩ <;> try omega
          rw [e1] at e
          unfold bpos at e; rw [if_pos hw] at e; simp [rt] at e
        · rename_i h1
          rcases bpos_h (x := x) (y := y) (w := w) (h := h) (i := a) with ⟨k1, e1⟩ | ⟨k1, k2, e1⟩ | ⟨k1, k2, e1⟩ | ⟨k1, e1⟩ <;> rcases bpos_h (x := x) (y := y) (w := w) (h := h) (i := a + 1) with ⟨m1, e2⟩ | ⟨m1, m2, e2⟩ | ⟨m1, m2, e2⟩ | ⟨m1, e2⟩ <;>
            (rw [e1, e2] at e; simp [rt] at e; try omega)
      rw [this]; rfl
  exact this _ fun i hi => List.mem_range.1 hi
end
/-! ### The region -/
def boxR (x y : Int) (w h : Nat) : Region := ⟨(List.range h).map fun i : Nat => ⟨y + (i : Int), [⟨x, x + w⟩]⟩⟩
theorem box_eq (x y : Int) (w h : Nat) (hx : -1000000 ≤ x ∧ x ≤ 1000000) (hy : -1000000 ≤ y ∧ y ≤ 1000000) (hw : w ≤ 1000000) (hh : h ≤ 1000000) : L24_box x y w h = some (boxR x y w h) := by
  refine Ret.eq ?_
  unfold L24_box
  refine Ret.bind (Q' := fun o => o = (boxR x y w h).rows) ?_ (fun o ho => by subst ho; exact Ret.mk rfl)
  refine Ret.loop (I := fun s : Int × List Row => ∃ k : Nat, s.1 = k ∧ k ≤ h ∧ s.2 = (List.range k).map fun i : Nat => ⟨y + (i : Int), [⟨x, x + w⟩]⟩) (μ := fun s : Int × List Row => h - s.1.toNat) (fun s hs => ?_) ⟨0, rfl, Nat.zero_le _, rfl⟩
  obtain ⟨t, l⟩ := s
  obtain ⟨k, rfl, hk, rfl⟩ := hs
  unfold L24_box_l1
  refine Ret.ifB (fun hlt => ?_) (fun hge => ?_)
  · rw [decide_eq_true_eq] at hlt
    refine Ret.chk (inR (by omega) (by omega)) (Ret.chk (inR (by omega) (by omega)) (Ret.chk (by simp; omega) (Ret.chk (inR (by omega) (by omega)) (Ret.mk ⟨⟨k + 1, by simp, by omega, ?_⟩, by simp only; omega⟩))))
    simp only
    rw [List.range_succ, List.map_append]; rfl
  · rw [decide_eq_false_iff_not] at hge
    have : k = h := by omega
    subst this
    exact Ret.mk rfl
theorem boxR_ok {x y : Int} {w h : Nat} (hx : -4096 ≤ x) (hx2 : x + w ≤ 4096) (hy : -4096 ≤ y) (hy2 : y + h ≤ 4096) (hw : 0 < w) : (boxR x y w h).Ok ∧ VReg (boxR x y w h) := by
  have hmem : ∀ v ∈ (boxR x y w h).rows, ∃ i, i < h ∧ v = ⟨y + (i : Int), [⟨x, x + w⟩]⟩ := fun v hv => by
    unfold boxR at hv
    rw [List.mem_map] at hv
    obtain ⟨i, hi, rfl⟩ := hv
    exact ⟨i, List.mem_range.1 hi, rfl⟩
  refine ⟨⟨?_, fun v hv => ?_⟩, fun v hv => ?_, ?_⟩
  · unfold boxR maxLen; simp; omega
  · obtain ⟨i, hi, rfl⟩ := hmem v hv
    refine ⟨by unfold In64; simp only; omega, by unfold maxLen; simp, fun z hz => ?_⟩
    simp only [List.mem_cons, List.not_mem_nil, or_false] at hz
    subst hz
    unfold Run.Ok In64; simp only; omega
  · obtain ⟨i, hi, rfl⟩ := hmem v hv
    refine ⟨by simp only; omega, by simp only; omega, by simp, fun z hz => ?_, by simp⟩
    simp only [List.mem_cons, List.not_mem_nil, or_false] at hz
    subst hz
    unfold RunIn; simp only; omega
  · unfold boxR
    rw [List.pairwise_map]
    exact List.pairwise_lt_range.imp fun h => by simp only; omega
theorem inG_box {x y : Int} {w h : Nat} : inG (boxR x y w h) = boxS x y w h := by
  funext a b
  refine propext ?_
  unfold inG boxR boxS inRuns
  constructor
  · rintro ⟨v, hv, e, z, hz, h1, h2⟩
    simp only [List.mem_map, List.mem_range] at hv
    obtain ⟨i, hi, rfl⟩ := hv
    simp only [List.mem_cons, List.not_mem_nil, or_false] at hz
    subst hz
    simp only at e h1 h2
    omega
  · rintro ⟨h1, h2, h3, h4⟩
    refine ⟨⟨y + ((b - y).toNat : Int), [⟨x, x + w⟩]⟩, ?_, by simp only; omega, ⟨x, x + w⟩, by simp, h1, h2⟩
    simp only [List.mem_map, List.mem_range]
    exact ⟨(b - y).toNat, by omega, rfl⟩
theorem box_walk {x y : Int} {w h : Nat} (hx : -4096 ≤ x) (hx2 : x + w ≤ 4096) (hy : -4096 ≤ y) (hy2 : y + h ≤ 4096) (hw : 0 < w) (hh : 0 < h) (hs : w + h ≤ 1000) :
    ringwalk_Walk (boxR x y w h) = some [⟨1, true, trim (ddl ((List.range (2 * (w + h))).map fun i => lcell (bpos x y w h i)))⟩] := by
  obtain ⟨hok, hV⟩ := boxR_ok hx hx2 hy hy2 hw (h := h)
  obtain ⟨ps, _, _, h1, _, h2, _⟩ := Walk_both (boxR x y w h) hok
  have ht := h2 hV
  rw [inG_box] at ht
  have e := ht.uniq (box_traces hw hh)
  subst e
  have hq := sq_inG hV
  rw [inG_box] at hq
  rw [h1]
  have hwk := wk_corners hq (bpos_isCr (x := x) (y := y) hw hh (i := 0) (by omega)) (box_per hw hh)
  rw [box_upTo hw hh] at hwk
  unfold walksOf
  have hl := ddl_len ((List.range (2 * (w + h))).map fun i => lcell (bpos x y w h i))
  have htl : ∀ l : List Cell, (trim l).length ≤ l.length := fun l => by unfold trim; split <;> simp
  have := htl (ddl ((List.range (2 * (w + h))).map fun i => lcell (bpos x y w h i)))
  rw [List.filter_cons_of_pos (by rw [hwk, decide_eq_true_eq]; simp at hl; omega), List.filter_nil, List.map_cons, List.map_nil, hwk]
end
end Go.AM
end
section
namespace Go.AM
open Go
noncomputable section
theorem awake_list : trim (ddl ((List.range (2 * (2 + 2))).map fun i => lcell (bpos 0 0 2 2 i))) = [⟨0, 0⟩, ⟨1, 0⟩, ⟨1, 1⟩, ⟨0, 1⟩] := by decide
theorem awake_eq : L24_awake = some true := by
  have h1 := box_eq 0 0 2 2 (by omega) (by omega) (by omega) (by omega)
  have h2 := box_walk (x := 0) (y := 0) (w := 2) (h := 2) (by omega) (by simp) (by omega) (by simp) (by omega) (by omega) (by omega)
  rw [awake_list] at h2
  unfold L24_awake
  rw [show ((2 : Nat) : Int) = 2 from rfl] at h1
  rw [h1, Option.bind_some, h2, Option.bind_some]
  rfl
theorem RingwalkWalks_true (r : Region) (hr : r.Ok) : L24_RingwalkWalks r = some true := by
  unfold L24_RingwalkWalks
  rw [Small_eq r hr, Option.bind_some]
  by_cases hs : smallB r = true
  · obtain ⟨ps, hl, _, h2, h3, _⟩ := Walk_both r hr
    have hle : (walksOf ps).length ≤ ps.length := by
      unfold walksOf
      rw [List.length_map]
      exact List.length_filter_le _ _
    rw [hs]
    show (L24_RingwalkWalks_j1 r).bind _ = _
    unfold L24_RingwalkWalks_j1
    rw [h2, h3, Option.bind_some, Option.bind_some, SameAll_refl (walksOf ps) (by omega) walksOf_cells, Option.bind_some, awake_eq]
    rfl
  · rw [Bool.not_eq_true] at hs
    rw [hs, awake_eq]
    rfl
end
end Go.AM
end
section
namespace Go.Proofs.Ytijdlphadhpabaa
theorem walks_holds : Rows.RingwalkWalksSaid := Go.AM.walks_row Go.AM.RingwalkWalks_true
end Go.Proofs.Ytijdlphadhpabaa
end
