/- Models of functions, and that their calls do what the models say. Printed by gen.py. -/
import Derived.Test.YtijdlphadhpabaaProg
import Derived.Test.YtijdlphadhpabaaA3
import Derived.Test.YtijdlphadhpabaaA5
import Derived.Test.YtijdlphadhpabaaA1
import Derived.Test.YtijdlphadhpabaaA4
import Derived.Test.YtijdlphadhpabaaA2
import Derived.Test.YtijdlphadhpabaaA8
import Derived.Test.YtijdlphadhpabaaA7
import Derived.Test.YtijdlphadhpabaaA6
import Derived.Test.YtijdlphadhpabaaF1
import Derived.Test.YtijdlphadhpabaaF6
section
namespace Go.AM
open Go Go.RowKit Go.Proofs
noncomputable section
set_option maxRecDepth 100000 in
set_option maxHeartbeats 4000000 in
theorem track_Valid_ok {t0 : Track} {r : Bool} (h : track_Valid t0 = some r) : ASpec Try.prog 13 [.agg [pI t0.role, pB t0.closed, .p (encL Cell.cs t0.cells)]] [] (pB r) [] := by
  refine aspec_of Try.func13 (c := _) rfl (by kernel_rfl) (by rw [Try.ntmps13]; exact Nat.le_of_ble_eq_true rfl) ?_
  refine awp_seq ?_
  refine awp_regionD Try_mixed (orcs := []) (gs := [.keep [1] [1]]) (s' := ⟨[(1, .ptr 1 0)], [(1, .lit 35 [pI t0.role, pB t0.closed, .p (encL Cell.cs t0.cells)])]⟩) (by kernel_rfl) (holds_of ((UU ∧ UU ∧ UU) ∧ (UU ∧ UU)) (by kernel_rfl) ⟨⟨TT, TT, TT⟩, ⟨TT, TT⟩⟩) ?_
  refine Done.mk (thenQ_n ?_)
  refine awp_seq ?_
  refine awp_regionD Try_mixed (orcs := []) (gs := [.keep [1, 3] [1]]) (s' := ⟨[(1, .ptr 1 0), (3, pI ((t0.cells.length : Int)))], [(1, .lit 35 [pI t0.role, pB t0.closed, .p (encL Cell.cs t0.cells)])]⟩) (by kernel_rfl) (holds_of ((UU ∧ UU ∧ UU ∧ UU ∧ UU) ∧ (UU ∧ UU)) (by kernel_rfl) ⟨⟨TT, TT, TT, TT, TT⟩, ⟨TT, TT⟩⟩) ?_
  refine Done.mk (thenQ_n ?_)
  refine awp_seq ?_
  refine awp_seq ?_
  refine bind_el h (fun t24 hm h => ?_)
  refine awp_tail (fun _ => Exit.normal) (fun o => match o with | t24 => ⟨[(1, .ptr 1 0), (3, pI ((t0.cells.length : Int))), (24, pB t24)], [(1, .lit 35 [pI t0.role, pB t0.closed, .p (encL Cell.cs t0.cells)])]⟩) hm (fun o h => ?_) ?_
  · refine ifB_el h (fun k1 h => ?_) (fun k1 h => ?_)
    · refine awp_regionD Try_mixed (orcs := [(3, tB true)]) (gs := [.keep [1, 3, 24] [1]]) (s' := ⟨[(1, .ptr 1 0), (3, pI ((t0.cells.length : Int))), (24, pB true)], [(1, .lit 35 [pI t0.role, pB t0.closed, .p (encL Cell.cs t0.cells)])]⟩) (by kernel_rfl) (holds_of ((UU ∧ UU ∧ UU ∧ ((UU ∧ some (pB (decide (t0.role < (1 : Int)))) = some (pB true))) ∧ UU ∧ UU ∧ UU ∧ UU ∧ UU ∧ UU) ∧ (UU ∧ UU)) (by kernel_rfl) ⟨⟨TT, TT, TT, ⟨TT, by rw [k1]⟩, TT, TT, TT, TT, TT, TT⟩, ⟨TT, TT⟩⟩) ?_
      refine Done.mk ?_
      obtain rfl := Option.some.inj h
      exact ⟨rfl, by kernel_rfl⟩
    · refine ifB_el h (fun k2 h => ?_) (fun k2 h => ?_)
      · refine awp_regionD Try_mixed (orcs := [(3, tB false), (8, tB true)]) (gs := [.keep [1, 3, 24] [1]]) (s' := ⟨[(1, .ptr 1 0), (3, pI ((t0.cells.length : Int))), (24, pB true)], [(1, .lit 35 [pI t0.role, pB t0.closed, .p (encL Cell.cs t0.cells)])]⟩) (by kernel_rfl) (holds_of ((UU ∧ UU ∧ UU ∧ ((UU ∧ some (pB (decide (t0.role < (1 : Int)))) = some (pB false))) ∧ UU ∧ UU ∧ UU ∧ UU ∧ ((UU ∧ some (pB (decide (t0.role > (7 : Int)))) = some (pB true))) ∧ UU ∧ UU ∧ UU ∧ UU) ∧ (UU ∧ UU)) (by kernel_rfl) ⟨⟨TT, TT, TT, ⟨TT, by rw [k1]⟩, TT, TT, TT, TT, ⟨TT, by rw [k2]⟩, TT, TT, TT, TT⟩, ⟨TT, TT⟩⟩) ?_
        refine Done.mk ?_
        obtain rfl := Option.some.inj h
        exact ⟨rfl, by kernel_rfl⟩
      · refine ifB_el h (fun k3 h => ?_) (fun k3 h => ?_)
        · refine awp_regionD Try_mixed (orcs := [(3, tB false), (8, tB false), (12, tB true)]) (gs := [.keep [1, 3, 24] [1]]) (s' := ⟨[(1, .ptr 1 0), (3, pI ((t0.cells.length : Int))), (24, pB true)], [(1, .lit 35 [pI t0.role, pB t0.closed, .p (encL Cell.cs t0.cells)])]⟩) (by kernel_rfl) (holds_of ((UU ∧ UU ∧ UU ∧ ((UU ∧ some (pB (decide (t0.role < (1 : Int)))) = some (pB false))) ∧ UU ∧ UU ∧ UU ∧ UU ∧ ((UU ∧ some (pB (decide (t0.role > (7 : Int)))) = some (pB false))) ∧ UU ∧ UU ∧ UU ∧ ((UU ∧ some (pB (decide ((t0.cells.length : Int) < (1 : Int)))) = some (pB true))) ∧ UU ∧ UU) ∧ (UU ∧ UU)) (by kernel_rfl) ⟨⟨TT, TT, TT, ⟨TT, by rw [k1]⟩, TT, TT, TT, TT, ⟨TT, by rw [k2]⟩, TT, TT, TT, ⟨TT, by rw [k3]⟩, TT, TT⟩, ⟨TT, TT⟩⟩) ?_
          refine Done.mk ?_
          obtain rfl := Option.some.inj h
          exact ⟨rfl, by kernel_rfl⟩
        · refine awp_regionD Try_mixed (orcs := [(3, tB false), (8, tB false), (12, tB false)]) (gs := [.keep [1, 3, 24] [1]]) (s' := ⟨[(1, .ptr 1 0), (3, pI ((t0.cells.length : Int))), (24, pB (decide ((t0.cells.length : Int) > (65536 : Int))))], [(1, .lit 35 [pI t0.role, pB t0.closed, .p (encL Cell.cs t0.cells)])]⟩) (by kernel_rfl) (holds_of ((UU ∧ UU ∧ UU ∧ ((UU ∧ some (pB (decide (t0.role < (1 : Int)))) = some (pB false))) ∧ UU ∧ UU ∧ UU ∧ UU ∧ ((UU ∧ some (pB (decide (t0.role > (7 : Int)))) = some (pB false))) ∧ UU ∧ UU ∧ UU ∧ ((UU ∧ some (pB (decide ((t0.cells.length : Int) < (1 : Int)))) = some (pB false))) ∧ UU ∧ UU ∧ UU ∧ UU) ∧ (UU ∧ UU)) (by kernel_rfl) ⟨⟨TT, TT, TT, ⟨TT, by rw [k1]⟩, TT, TT, TT, TT, ⟨TT, by rw [k2]⟩, TT, TT, TT, ⟨TT, by rw [k3]⟩, TT, TT, TT, TT⟩, ⟨TT, TT⟩⟩) ?_
          refine Done.mk ?_
          obtain rfl := Option.some.inj h
          exact ⟨rfl, by kernel_rfl⟩
  · have _ := hm
    refine Done.as (e := Exit.normal) (s := ⟨[(1, .ptr 1 0), (3, pI ((t0.cells.length : Int))), (24, pB t24)], [(1, .lit 35 [pI t0.role, pB t0.closed, .p (encL Cell.cs t0.cells)])]⟩) rfl (by kernel_rfl) ?_
    refine Done.mk (thenQ_n ?_)
    refine ifB_el h (fun k4 h => ?_) (fun k4 h => ?_)
    · refine awp_cond_t (b := t24) (by kernel_rfl) k4 ?_
      refine awp_seq ?_
      refine awp_regionD Try_mixed (orcs := []) (gs := [.keep [2] []]) (s' := ⟨[(2, pB false)], []⟩) (by kernel_rfl) (holds_of ((UU ∧ UU) ∧ (UU ∧ UU)) (by kernel_rfl) ⟨⟨TT, TT⟩, ⟨TT, TT⟩⟩) ?_
      refine Done.mk (thenQ_n ?_)
      refine doneRet ?_
      refine Done.mk (thenQ_r ?_)
      obtain rfl := Option.some.inj h
      exact ⟨Or.inr rfl, by kernel_rfl, by kernel_rfl⟩
    · refine awp_cond_f (b := t24) (by kernel_rfl) k4 ?_
      refine doneSkip ?_
      refine Done.mk (thenQ_n ?_)
      refine awp_seq ?_
      refine awp_seq ?_
      refine awp_regionD Try_mixed (orcs := []) (gs := [.keep [1, 3, 26, 27, 28] [1]]) (s' := ⟨[(1, .ptr 1 0), (3, pI ((t0.cells.length : Int))), (26, .p (encL Cell.cs t0.cells)), (27, pI ((t0.cells.length : Int))), (28, pI 0)], [(1, .lit 35 [pI t0.role, pB t0.closed, .p (encL Cell.cs t0.cells)])]⟩) (by kernel_rfl) (holds_of ((UU ∧ UU ∧ UU ∧ UU ∧ UU) ∧ (UU ∧ UU)) (by kernel_rfl) ⟨⟨TT, TT, TT, TT, TT⟩, ⟨TT, TT⟩⟩) ?_
      refine Done.mk (thenQ_n ?_)
      refine awp_block ?_
      refine bind_el h (fun o hm h => ?_)
      refine awp_gh [.keep [1, 3, 26, 27, 28] [1], .keep [1, 3, 26, 27, 28] [1]] (s' := ⟨[(1, .ptr 1 0), (3, pI ((t0.cells.length : Int))), (26, .p (encL Cell.cs t0.cells)), (27, pI ((t0.cells.length : Int))), (28, pI 0)], [(1, .lit 35 [pI t0.role, pB t0.closed, .p (encL Cell.cs t0.cells)])]⟩) (by kernel_rfl) (holds_of (UU ∧ UU ∧ UU) (by kernel_rfl) ⟨TT, TT, TT⟩) ?_
      refine awp_tail (fun o => match o with | .inl _ => (Exit.exit 0) | .inr _ => Exit.ret) (fun o => match o with | .inl _ => ⟨[(1, .ptr 1 0), (3, pI ((t0.cells.length : Int)))], [(1, .lit 35 [pI t0.role, pB t0.closed, .p (encL Cell.cs t0.cells)])]⟩ | .inr _ => ⟨[(2, pB false)], []⟩) hm (fun o h => ?_) ?_
      · refine awp_loop' (fun s => match s with | t28 => ⟨[(1, .ptr 1 0), (3, pI ((t0.cells.length : Int))), (26, .p (encL Cell.cs t0.cells)), (27, pI ((t0.cells.length : Int))), (28, pI t28)], [(1, .lit 35 [pI t0.role, pB t0.closed, .p (encL Cell.cs t0.cells)])]⟩) h (by kernel_rfl) (fun t28 out h => ?_)
        refine awp_seq ?_
        refine awp_regionD Try_mixed (orcs := []) (gs := [.keep [1, 3, 26, 27, 28, 29] [1]]) (s' := ⟨[(1, .ptr 1 0), (3, pI ((t0.cells.length : Int))), (26, .p (encL Cell.cs t0.cells)), (27, pI ((t0.cells.length : Int))), (28, pI t28), (29, pB (decide (t28 < (t0.cells.length : Int))))], [(1, .lit 35 [pI t0.role, pB t0.closed, .p (encL Cell.cs t0.cells)])]⟩) (by kernel_rfl) (holds_of ((UU ∧ UU) ∧ (UU ∧ UU)) (by kernel_rfl) ⟨⟨TT, TT⟩, ⟨TT, TT⟩⟩) ?_
        refine Done.mk (thenQ_n ?_)
        refine awp_seq ?_
        refine ifB_el h (fun k5 h => ?_) (fun k5 h => ?_)
        · refine awp_cond_t (b := decide (t28 < (t0.cells.length : Int))) (by kernel_rfl) k5 ?_
          refine doneSkip ?_
          refine Done.mk (thenQ_n ?_)
          refine awp_seq ?_
          refine awp_block ?_
          refine awp_seq ?_
          refine bind_el h (fun c k6 h => ?_)
          replace k6 := getI_el k6
          refine awp_regionD Try_mixed (orcs := [(2, tV (.agg [pI c.x, pI c.y]))]) (gs := [.keep [1, 3, 4, 5, 26, 27, 28] [1, 5]]) (s' := ⟨[(1, .ptr 1 0), (3, pI ((t0.cells.length : Int))), (4, pI t28), (5, .ptr 5 0), (26, .p (encL Cell.cs t0.cells)), (27, pI ((t0.cells.length : Int))), (28, pI t28)], [(1, .lit 35 [pI t0.role, pB t0.closed, .p (encL Cell.cs t0.cells)]), (5, .lit 37 [pI c.x, pI c.y])]⟩) (by kernel_rfl) (holds_of ((UU ∧ ((0 ≤ t28 ∧ t28 < (t0.cells.length : Int))) ∧ (rowHas (t0.cells.flatMap Cell.cs) (t28.toNat * 2) [pI c.x, pI c.y]) ∧ UU ∧ UU ∧ UU ∧ UU) ∧ (UU ∧ UU)) (by kernel_rfl) ⟨⟨TT, k6.2, row_has Cell.cs_len k6.1 (o := 0) (m := 2) (by omega) (by decide), TT, TT, TT, TT⟩, ⟨TT, TT⟩⟩) ?_
          refine Done.mk (thenQ_n ?_)
          refine awp_seq ?_
          refine bind_el h (fun t50 hm h => ?_)
          refine awp_tail (fun _ => Exit.normal) (fun o => match o with | t50 => ⟨[(1, .ptr 1 0), (3, pI ((t0.cells.length : Int))), (26, .p (encL Cell.cs t0.cells)), (27, pI ((t0.cells.length : Int))), (28, pI t28), (50, pB t50)], [(1, .lit 35 [pI t0.role, pB t0.closed, .p (encL Cell.cs t0.cells)])]⟩) hm (fun o h => ?_) ?_
          · refine bind_el h (fun b k7 h => ?_)
            refine ifB_el h (fun k8 h => ?_) (fun k8 h => ?_)
            · refine awp_regionD Try_mixed (orcs := [(1, tV (pB b)), (3, tB true)]) (gs := [.keep [1, 3, 26, 27, 28, 50] [1]]) (s' := ⟨[(1, .ptr 1 0), (3, pI ((t0.cells.length : Int))), (26, .p (encL Cell.cs t0.cells)), (27, pI ((t0.cells.length : Int))), (28, pI t28), (50, pB true)], [(1, .lit 35 [pI t0.role, pB t0.closed, .p (encL Cell.cs t0.cells)])]⟩) (by kernel_rfl) (holds_of ((UU ∧ (ASpec Try.prog 22 [.agg [pI c.x, pI c.y]] [] (pB b) []) ∧ UU ∧ ((UU ∧ some (pB (!b)) = some (pB true))) ∧ UU ∧ UU) ∧ (UU ∧ UU)) (by kernel_rfl) ⟨⟨TT, track_onGrid_ok k7, TT, ⟨TT, by rw [k8]⟩, TT, TT⟩, ⟨TT, TT⟩⟩) ?_
              refine Done.mk ?_
              obtain rfl := Option.some.inj h
              exact ⟨rfl, by kernel_rfl⟩
            · refine ifB_el h (fun k9 h => ?_) (fun k9 h => ?_)
              · refine chk_el h (fun k10 h => ?_)
                refine bind_el h (fun c1 k11 h => ?_)
                replace k11 := getI_el k11
                refine bind_el h (fun b1 k12 h => ?_)
                refine awp_regionD Try_mixed (orcs := [(1, tV (pB b)), (3, tB false), (6, tB true), (12, tV (.agg [pI c1.x, pI c1.y])), (14, tV (pB b1))]) (gs := [.keep [1, 3, 26, 27, 28, 50] [1]]) (s' := ⟨[(1, .ptr 1 0), (3, pI ((t0.cells.length : Int))), (26, .p (encL Cell.cs t0.cells)), (27, pI ((t0.cells.length : Int))), (28, pI t28), (50, pB (!b1))], [(1, .lit 35 [pI t0.role, pB t0.closed, .p (encL Cell.cs t0.cells)])]⟩) (by kernel_rfl) (holds_of ((UU ∧ (ASpec Try.prog 22 [.agg [pI c.x, pI c.y]] [] (pB b) []) ∧ UU ∧ ((UU ∧ some (pB (!b)) = some (pB false))) ∧ UU ∧ UU ∧ ((UU ∧ some (pB (decide (t28 > (0 : Int)))) = some (pB true))) ∧ UU ∧ UU ∧ UU ∧ (InR .i64 (t28 - 1 : Int)) ∧ ((0 ≤ (t28 - 1 : Int) ∧ (t28 - 1 : Int) < (t0.cells.length : Int))) ∧ (rowHas (t0.cells.flatMap Cell.cs) ((t28 - 1 : Int).toNat * 2) [pI c1.x, pI c1.y]) ∧ UU ∧ (ASpec Try.prog 23 [.agg [pI c1.x, pI c1.y], .agg [pI c.x, pI c.y]] [] (pB b1) []) ∧ UU ∧ UU ∧ UU ∧ UU) ∧ (UU ∧ UU)) (by kernel_rfl) ⟨⟨TT, track_onGrid_ok k7, TT, ⟨TT, by rw [k8]⟩, TT, TT, ⟨TT, by rw [k9]⟩, TT, TT, TT, k10, k11.2, row_has Cell.cs_len k11.1 (o := 0) (m := 2) (by omega) (by decide), TT, track_neighbors_ok k12, TT, TT, TT, TT⟩, ⟨TT, TT⟩⟩) ?_
                refine Done.mk ?_
                obtain rfl := Option.some.inj h
                exact ⟨rfl, by kernel_rfl⟩
              · refine awp_regionD Try_mixed (orcs := [(1, tV (pB b)), (3, tB false), (6, tB false)]) (gs := [.keep [1, 3, 26, 27, 28, 50] [1]]) (s' := ⟨[(1, .ptr 1 0), (3, pI ((t0.cells.length : Int))), (26, .p (encL Cell.cs t0.cells)), (27, pI ((t0.cells.length : Int))), (28, pI t28), (50, pB false)], [(1, .lit 35 [pI t0.role, pB t0.closed, .p (encL Cell.cs t0.cells)])]⟩) (by kernel_rfl) (holds_of ((UU ∧ (ASpec Try.prog 22 [.agg [pI c.x, pI c.y]] [] (pB b) []) ∧ UU ∧ ((UU ∧ some (pB (!b)) = some (pB false))) ∧ UU ∧ UU ∧ ((UU ∧ some (pB (decide (t28 > (0 : Int)))) = some (pB false))) ∧ UU ∧ UU ∧ UU) ∧ (UU ∧ UU)) (by kernel_rfl) ⟨⟨TT, track_onGrid_ok k7, TT, ⟨TT, by rw [k8]⟩, TT, TT, ⟨TT, by rw [k9]⟩, TT, TT, TT⟩, ⟨TT, TT⟩⟩) ?_
                refine Done.mk ?_
                obtain rfl := Option.some.inj h
                exact ⟨rfl, by kernel_rfl⟩
          · have _ := hm
            refine Done.as (e := Exit.normal) (s := ⟨[(1, .ptr 1 0), (3, pI ((t0.cells.length : Int))), (26, .p (encL Cell.cs t0.cells)), (27, pI ((t0.cells.length : Int))), (28, pI t28), (50, pB t50)], [(1, .lit 35 [pI t0.role, pB t0.closed, .p (encL Cell.cs t0.cells)])]⟩) rfl (by kernel_rfl) ?_
            refine Done.mk (thenQ_n ?_)
            refine ifB_el h (fun k13 h => ?_) (fun k13 h => ?_)
            · refine awp_cond_t (b := t50) (by kernel_rfl) k13 ?_
              refine awp_seq ?_
              refine awp_regionD Try_mixed (orcs := []) (gs := [.keep [2] []]) (s' := ⟨[(2, pB false)], []⟩) (by kernel_rfl) (holds_of ((UU ∧ UU) ∧ (UU ∧ UU)) (by kernel_rfl) ⟨⟨TT, TT⟩, ⟨TT, TT⟩⟩) ?_
              refine Done.mk (thenQ_n ?_)
              refine doneRet ?_
              refine Done.mk (inB_r (thenQ_r ?_))
              obtain rfl := Option.some.inj h
              exact ⟨fun q => (by cases q), fun q => (by subst q; exact ⟨rfl, by kernel_rfl⟩)⟩
            · refine awp_cond_f (b := t50) (by kernel_rfl) k13 ?_
              refine doneSkip ?_
              refine Done.mk (inB_n (thenQ_n ?_))
              refine chk_el h (fun k14 h => ?_)
              refine awp_regionD Try_mixed (orcs := []) (gs := [.keep [1, 3, 26, 27, 28] [1]]) (s' := ⟨[(1, .ptr 1 0), (3, pI ((t0.cells.length : Int))), (26, .p (encL Cell.cs t0.cells)), (27, pI ((t0.cells.length : Int))), (28, pI (t28 + 1))], [(1, .lit 35 [pI t0.role, pB t0.closed, .p (encL Cell.cs t0.cells)])]⟩) (by kernel_rfl) (holds_of (((InR .i64 (t28 + 1 : Int)) ∧ UU ∧ UU) ∧ (UU ∧ UU)) (by kernel_rfl) ⟨⟨k14, TT, TT⟩, ⟨TT, TT⟩⟩) ?_
              refine Done.mk ?_
              obtain rfl := Option.some.inj h
              exact ⟨rfl, by kernel_rfl⟩
        · refine awp_cond_f (b := decide (t28 < (t0.cells.length : Int))) (by kernel_rfl) k5 ?_
          refine doneExit ?_
          refine Done.gh [.keep [1, 3] [1], .keep [1, 3] [1]] (s' := ⟨[(1, .ptr 1 0), (3, pI ((t0.cells.length : Int)))], [(1, .lit 35 [pI t0.role, pB t0.closed, .p (encL Cell.cs t0.cells)])]⟩) (by kernel_rfl) (holds_of (UU ∧ UU ∧ UU) (by kernel_rfl) ⟨TT, TT, TT⟩) ?_
          refine Done.mk (thenQ_x ?_)
          obtain rfl := Option.some.inj h
          exact ⟨fun q => (by cases q), fun q => (by subst q; exact ⟨rfl, by kernel_rfl⟩)⟩
      · rcases o with _u | _u
        · refine Done.as (e := (Exit.exit 0)) (s := ⟨[(1, .ptr 1 0), (3, pI ((t0.cells.length : Int)))], [(1, .lit 35 [pI t0.role, pB t0.closed, .p (encL Cell.cs t0.cells)])]⟩) rfl (by kernel_rfl) ?_
          refine Done.mk (inB_hit (thenQ_n ?_))
          refine awp_seq ?_
          refine bind_el h (fun t2 hm h => ?_)
          refine awp_tail (fun _ => Exit.normal) (fun o => match o with | t2 => ⟨[(2, pB t2)], []⟩) hm (fun o h => ?_) ?_
          · refine ifB_el h (fun k15 h => ?_) (fun k15 h => ?_)
            · refine awp_regionD Try_mixed (orcs := [(3, tB true)]) (gs := [.keep [2] []]) (s' := ⟨[(2, pB true)], []⟩) (by kernel_rfl) (holds_of ((UU ∧ UU ∧ UU ∧ ((UU ∧ some (pB (!t0.closed)) = some (pB true))) ∧ UU ∧ UU ∧ UU ∧ UU ∧ UU) ∧ (UU ∧ UU)) (by kernel_rfl) ⟨⟨TT, TT, TT, ⟨TT, by rw [k15]⟩, TT, TT, TT, TT, TT⟩, ⟨TT, TT⟩⟩) ?_
              refine Done.mk ?_
              obtain rfl := Option.some.inj h
              exact ⟨rfl, by kernel_rfl⟩
            · refine ifB_el h (fun k16 h => ?_) (fun k16 h => ?_)
              · refine awp_regionD Try_mixed (orcs := [(3, tB false), (7, tB true)]) (gs := [.keep [2] []]) (s' := ⟨[(2, pB true)], []⟩) (by kernel_rfl) (holds_of ((UU ∧ UU ∧ UU ∧ ((UU ∧ some (pB (!t0.closed)) = some (pB false))) ∧ UU ∧ UU ∧ UU ∧ ((UU ∧ some (pB ((t0.cells.length : Int) == (1 : Int))) = some (pB true))) ∧ UU ∧ UU ∧ UU) ∧ (UU ∧ UU)) (by kernel_rfl) ⟨⟨TT, TT, TT, ⟨TT, by rw [k15]⟩, TT, TT, TT, ⟨TT, by rw [k16]⟩, TT, TT, TT⟩, ⟨TT, TT⟩⟩) ?_
                refine Done.mk ?_
                obtain rfl := Option.some.inj h
                exact ⟨rfl, by kernel_rfl⟩
              · refine chk_el h (fun k17 h => ?_)
                refine bind_el h (fun c2 k18 h => ?_)
                replace k18 := getI_el k18
                refine bind_el h (fun c3 k19 h => ?_)
                replace k19 := getI_el k19
                refine bind_el h (fun b2 k20 h => ?_)
                refine awp_regionD Try_mixed (orcs := [(3, tB false), (7, tB false), (13, tV (.agg [pI c2.x, pI c2.y])), (17, tV (.agg [pI c3.x, pI c3.y])), (18, tV (pB b2))]) (gs := [.keep [2] []]) (s' := ⟨[(2, pB b2)], []⟩) (by kernel_rfl) (holds_of ((UU ∧ UU ∧ UU ∧ ((UU ∧ some (pB (!t0.closed)) = some (pB false))) ∧ UU ∧ UU ∧ UU ∧ ((UU ∧ some (pB ((t0.cells.length : Int) == (1 : Int))) = some (pB false))) ∧ UU ∧ UU ∧ UU ∧ (InR .i64 (((t0.cells.length : Int)) - 1 : Int)) ∧ ((0 ≤ (((t0.cells.length : Int)) - 1 : Int) ∧ (((t0.cells.length : Int)) - 1 : Int) < (t0.cells.length : Int))) ∧ (rowHas (t0.cells.flatMap Cell.cs) ((((t0.cells.length : Int)) - 1 : Int).toNat * 2) [pI c2.x, pI c2.y]) ∧ UU ∧ UU ∧ ((0 ≤ (0 : Int) ∧ (0 : Int) < (t0.cells.length : Int))) ∧ (rowHas (t0.cells.flatMap Cell.cs) ((0 : Int).toNat * 2) [pI c3.x, pI c3.y]) ∧ (ASpec Try.prog 23 [.agg [pI c2.x, pI c2.y], .agg [pI c3.x, pI c3.y]] [] (pB b2) []) ∧ UU ∧ UU ∧ UU) ∧ (UU ∧ UU)) (by kernel_rfl) ⟨⟨TT, TT, TT, ⟨TT, by rw [k15]⟩, TT, TT, TT, ⟨TT, by rw [k16]⟩, TT, TT, TT, k17, k18.2, row_has Cell.cs_len k18.1 (o := 0) (m := 2) (by omega) (by decide), TT, TT, k19.2, row_has Cell.cs_len k19.1 (o := 0) (m := 2) (by omega) (by decide), track_neighbors_ok k20, TT, TT, TT⟩, ⟨TT, TT⟩⟩) ?_
                refine Done.mk ?_
                obtain rfl := Option.some.inj h
                exact ⟨rfl, by kernel_rfl⟩
          · have _ := hm
            refine Done.as (e := Exit.normal) (s := ⟨[(2, pB t2)], []⟩) rfl (by kernel_rfl) ?_
            refine Done.mk (thenQ_n ?_)
            refine doneRet ?_
            refine Done.mk ?_
            obtain rfl := Option.some.inj h
            exact ⟨Or.inr rfl, by kernel_rfl, by kernel_rfl⟩
        · refine Done.as (e := Exit.ret) (s := ⟨[(2, pB false)], []⟩) rfl (by kernel_rfl) ?_
          refine Done.mk (inB_r (thenQ_r ?_))
          obtain rfl := Option.some.inj h
          exact ⟨Or.inr rfl, by kernel_rfl, by kernel_rfl⟩
end
end Go.AM
end
section
namespace Go.AM
open Go Go.RowKit Go.Proofs
noncomputable section
set_option maxRecDepth 100000 in
set_option maxHeartbeats 4000000 in
theorem R18_fine_ok {l : (List Run)} {r : Bool} (h : R18_fine l = some r) : ASpec Try.prog 54 [.p (encL Run.cs l)] [] (pB r) [] := by
  refine aspec_of Try.func54 (c := _) rfl (by kernel_rfl) (by rw [Try.ntmps54]; exact Nat.le_of_ble_eq_true rfl) ?_
  refine awp_seq ?_
  refine awp_regionD Try_mixed (orcs := []) (gs := [.keep [0] []]) (s' := ⟨[(0, .p (encL Run.cs l))], []⟩) (by kernel_rfl) (holds_of ((UU ∧ UU) ∧ (UU ∧ UU)) (by kernel_rfl) ⟨⟨TT, TT⟩, ⟨TT, TT⟩⟩) ?_
  refine Done.mk (thenQ_n ?_)
  refine awp_seq ?_
  refine awp_seq ?_
  refine awp_regionD Try_mixed (orcs := []) (gs := [.keep [0, 3] []]) (s' := ⟨[(0, .p (encL Run.cs l)), (3, pI 0)], []⟩) (by kernel_rfl) (holds_of ((UU ∧ UU) ∧ (UU ∧ UU)) (by kernel_rfl) ⟨⟨TT, TT⟩, ⟨TT, TT⟩⟩) ?_
  refine Done.mk (thenQ_n ?_)
  refine awp_block ?_
  refine bind_el h (fun o hm h => ?_)
  refine awp_gh [.keep [0, 3] [], .keep [0, 3] []] (s' := ⟨[(0, .p (encL Run.cs l)), (3, pI 0)], []⟩) (by kernel_rfl) (holds_of (UU ∧ UU ∧ UU) (by kernel_rfl) ⟨TT, TT, TT⟩) ?_
  refine awp_tail (fun o => match o with | .inl _ => (Exit.exit 0) | .inr _ => Exit.ret) (fun o => match o with | .inl _ => ⟨[(0, .p (encL Run.cs l))], []⟩ | .inr _ => ⟨[(2, pB false)], []⟩) hm (fun o h => ?_) ?_
  · refine awp_loop' (fun s => match s with | i => ⟨[(0, .p (encL Run.cs l)), (3, pI i)], []⟩) h (by kernel_rfl) (fun i out h => ?_)
    refine awp_seq ?_
    refine awp_seq ?_
    refine awp_regionD Try_mixed (orcs := []) (gs := [.keep [0, 3, 7] []]) (s' := ⟨[(0, .p (encL Run.cs l)), (3, pI i), (7, pB (decide (i < (l.length : Int))))], []⟩) (by kernel_rfl) (holds_of ((UU ∧ UU ∧ UU ∧ UU ∧ UU) ∧ (UU ∧ UU)) (by kernel_rfl) ⟨⟨TT, TT, TT, TT, TT⟩, ⟨TT, TT⟩⟩) ?_
    refine Done.mk (thenQ_n ?_)
    refine ifB_el h (fun k1 h => ?_) (fun k1 h => ?_)
    · refine awp_cond_t (b := decide (i < (l.length : Int))) (by kernel_rfl) k1 ?_
      refine doneSkip ?_
      refine Done.mk (thenQ_n ?_)
      refine awp_seq ?_
      refine awp_block ?_
      refine awp_seq ?_
      refine bind_el h (fun t54 hm h => ?_)
      refine awp_tail (fun _ => Exit.normal) (fun o => match o with | t54 => ⟨[(0, .p (encL Run.cs l)), (3, pI i), (54, pB t54)], []⟩) hm (fun o h => ?_) ?_
      · refine bind_el h (fun r_ k2 h => ?_)
        replace k2 := getI_el k2
        refine ifB_el h (fun k3 h => ?_) (fun k3 h => ?_)
        · refine awp_regionD Try_mixed (orcs := [(4, tV (pI r_.frm)), (6, tB true)]) (gs := [.keep [0, 3, 54] []]) (s' := ⟨[(0, .p (encL Run.cs l)), (3, pI i), (54, pB true)], []⟩) (by kernel_rfl) (holds_of ((UU ∧ UU ∧ ((0 ≤ i ∧ i < (l.length : Int))) ∧ UU ∧ ((l.flatMap Run.cs)[i.toNat * 2]? = some (vI r_.frm)) ∧ UU ∧ ((UU ∧ some (pB (decide (r_.frm < (-4096 : Int)))) = some (pB true))) ∧ UU ∧ UU ∧ UU ∧ UU ∧ UU ∧ UU) ∧ (UU ∧ UU)) (by kernel_rfl) ⟨⟨TT, TT, k2.2, TT, row_at Run.cs_len k2.1 (j := 0) (by omega) (by decide), TT, ⟨TT, by rw [k3]⟩, TT, TT, TT, TT, TT, TT⟩, ⟨TT, TT⟩⟩) ?_
          refine Done.mk ?_
          obtain rfl := Option.some.inj h
          exact ⟨rfl, by kernel_rfl⟩
        · refine ifB_el h (fun k4 h => ?_) (fun k4 h => ?_)
          · refine awp_regionD Try_mixed (orcs := [(4, tV (pI r_.frm)), (6, tB false), (11, tV (pI r_.frm)), (16, tV (pI r_.to)), (19, tB true)]) (gs := [.keep [0, 3, 54] []]) (s' := ⟨[(0, .p (encL Run.cs l)), (3, pI i), (54, pB true)], []⟩) (by kernel_rfl) (holds_of ((UU ∧ UU ∧ ((0 ≤ i ∧ i < (l.length : Int))) ∧ UU ∧ ((l.flatMap Run.cs)[i.toNat * 2]? = some (vI r_.frm)) ∧ UU ∧ ((UU ∧ some (pB (decide (r_.frm < (-4096 : Int)))) = some (pB false))) ∧ UU ∧ UU ∧ ((0 ≤ i ∧ i < (l.length : Int))) ∧ UU ∧ ((l.flatMap Run.cs)[i.toNat * 2]? = some (vI r_.frm)) ∧ UU ∧ UU ∧ ((0 ≤ i ∧ i < (l.length : Int))) ∧ UU ∧ ((l.flatMap Run.cs)[i.toNat * 2 + 1]? = some (vI r_.to)) ∧ UU ∧ UU ∧ ((UU ∧ some (pB (decide (r_.frm ≥ r_.to))) = some (pB true))) ∧ UU ∧ UU ∧ UU ∧ UU) ∧ (UU ∧ UU)) (by kernel_rfl) ⟨⟨TT, TT, k2.2, TT, row_at Run.cs_len k2.1 (j := 0) (by omega) (by decide), TT, ⟨TT, by rw [k3]⟩, TT, TT, k2.2, TT, row_at Run.cs_len k2.1 (j := 0) (by omega) (by decide), TT, TT, k2.2, TT, row_at Run.cs_len k2.1 (j := 1) (by omega) (by decide), TT, TT, ⟨TT, by rw [k4]⟩, TT, TT, TT, TT⟩, ⟨TT, TT⟩⟩) ?_
            refine Done.mk ?_
            obtain rfl := Option.some.inj h
            exact ⟨rfl, by kernel_rfl⟩
          · refine ifB_el h (fun k5 h => ?_) (fun k5 h => ?_)
            · refine awp_regionD Try_mixed (orcs := [(4, tV (pI r_.frm)), (6, tB false), (11, tV (pI r_.frm)), (16, tV (pI r_.to)), (19, tB false), (24, tV (pI r_.to)), (27, tB true)]) (gs := [.keep [0, 3, 54] []]) (s' := ⟨[(0, .p (encL Run.cs l)), (3, pI i), (54, pB true)], []⟩) (by kernel_rfl) (holds_of ((UU ∧ UU ∧ ((0 ≤ i ∧ i < (l.length : Int))) ∧ UU ∧ ((l.flatMap Run.cs)[i.toNat * 2]? = some (vI r_.frm)) ∧ UU ∧ ((UU ∧ some (pB (decide (r_.frm < (-4096 : Int)))) = some (pB false))) ∧ UU ∧ UU ∧ ((0 ≤ i ∧ i < (l.length : Int))) ∧ UU ∧ ((l.flatMap Run.cs)[i.toNat * 2]? = some (vI r_.frm)) ∧ UU ∧ UU ∧ ((0 ≤ i ∧ i < (l.length : Int))) ∧ UU ∧ ((l.flatMap Run.cs)[i.toNat * 2 + 1]? = some (vI r_.to)) ∧ UU ∧ UU ∧ ((UU ∧ some (pB (decide (r_.frm ≥ r_.to))) = some (pB false))) ∧ UU ∧ UU ∧ ((0 ≤ i ∧ i < (l.length : Int))) ∧ UU ∧ ((l.flatMap Run.cs)[i.toNat * 2 + 1]? = some (vI r_.to)) ∧ UU ∧ UU ∧ ((UU ∧ some (pB (decide (r_.to > (4096 : Int)))) = some (pB true))) ∧ UU ∧ UU) ∧ (UU ∧ UU)) (by kernel_rfl) ⟨⟨TT, TT, k2.2, TT, row_at Run.cs_len k2.1 (j := 0) (by omega) (by decide), TT, ⟨TT, by rw [k3]⟩, TT, TT, k2.2, TT, row_at Run.cs_len k2.1 (j := 0) (by omega) (by decide), TT, TT, k2.2, TT, row_at Run.cs_len k2.1 (j := 1) (by omega) (by decide), TT, TT, ⟨TT, by rw [k4]⟩, TT, TT, k2.2, TT, row_at Run.cs_len k2.1 (j := 1) (by omega) (by decide), TT, TT, ⟨TT, by rw [k5]⟩, TT, TT⟩, ⟨TT, TT⟩⟩) ?_
              refine Done.mk ?_
              obtain rfl := Option.some.inj h
              exact ⟨rfl, by kernel_rfl⟩
            · refine ifB_el h (fun k6 h => ?_) (fun k6 h => ?_)
              · refine chk_el h (fun k7 h => ?_)
                refine bind_el h (fun r_1 k8 h => ?_)
                replace k8 := getI_el k8
                refine awp_regionD Try_mixed (orcs := [(4, tV (pI r_.frm)), (6, tB false), (11, tV (pI r_.frm)), (16, tV (pI r_.to)), (19, tB false), (24, tV (pI r_.to)), (27, tB false), (30, tB true), (35, tV (pI r_.frm)), (41, tV (pI r_1.to))]) (gs := [.keep [0, 3, 54] []]) (s' := ⟨[(0, .p (encL Run.cs l)), (3, pI i), (54, pB (decide (r_.frm ≤ r_1.to)))], []⟩) (by kernel_rfl) (holds_of ((UU ∧ UU ∧ ((0 ≤ i ∧ i < (l.length : Int))) ∧ UU ∧ ((l.flatMap Run.cs)[i.toNat * 2]? = some (vI r_.frm)) ∧ UU ∧ ((UU ∧ some (pB (decide (r_.frm < (-4096 : Int)))) = some (pB false))) ∧ UU ∧ UU ∧ ((0 ≤ i ∧ i < (l.length : Int))) ∧ UU ∧ ((l.flatMap Run.cs)[i.toNat * 2]? = some (vI r_.frm)) ∧ UU ∧ UU ∧ ((0 ≤ i ∧ i < (l.length : Int))) ∧ UU ∧ ((l.flatMap Run.cs)[i.toNat * 2 + 1]? = some (vI r_.to)) ∧ UU ∧ UU ∧ ((UU ∧ some (pB (decide (r_.frm ≥ r_.to))) = some (pB false))) ∧ UU ∧ UU ∧ ((0 ≤ i ∧ i < (l.length : Int))) ∧ UU ∧ ((l.flatMap Run.cs)[i.toNat * 2 + 1]? = some (vI r_.to)) ∧ UU ∧ UU ∧ ((UU ∧ some (pB (decide (r_.to > (4096 : Int)))) = some (pB false))) ∧ UU ∧ UU ∧ ((UU ∧ some (pB (decide (i > (0 : Int)))) = some (pB true))) ∧ UU ∧ UU ∧ ((0 ≤ i ∧ i < (l.length : Int))) ∧ UU ∧ ((l.flatMap Run.cs)[i.toNat * 2]? = some (vI r_.frm)) ∧ UU ∧ UU ∧ (InR .i64 (i - 1 : Int)) ∧ ((0 ≤ (i - 1 : Int) ∧ (i - 1 : Int) < (l.length : Int))) ∧ UU ∧ ((l.flatMap Run.cs)[(i - 1 : Int).toNat * 2 + 1]? = some (vI r_1.to)) ∧ UU ∧ UU ∧ UU ∧ UU) ∧ (UU ∧ UU)) (by kernel_rfl) ⟨⟨TT, TT, k2.2, TT, row_at Run.cs_len k2.1 (j := 0) (by omega) (by decide), TT, ⟨TT, by rw [k3]⟩, TT, TT, k2.2, TT, row_at Run.cs_len k2.1 (j := 0) (by omega) (by decide), TT, TT, k2.2, TT, row_at Run.cs_len k2.1 (j := 1) (by omega) (by decide), TT, TT, ⟨TT, by rw [k4]⟩, TT, TT, k2.2, TT, row_at Run.cs_len k2.1 (j := 1) (by omega) (by decide), TT, TT, ⟨TT, by rw [k5]⟩, TT, TT, ⟨TT, by rw [k6]⟩, TT, TT, k2.2, TT, row_at Run.cs_len k2.1 (j := 0) (by omega) (by decide), TT, TT, k7, k8.2, TT, row_at Run.cs_len k8.1 (j := 1) (by omega) (by decide), TT, TT, TT, TT⟩, ⟨TT, TT⟩⟩) ?_
                refine Done.mk ?_
                obtain rfl := Option.some.inj h
                exact ⟨rfl, by kernel_rfl⟩
              · refine awp_regionD Try_mixed (orcs := [(4, tV (pI r_.frm)), (6, tB false), (11, tV (pI r_.frm)), (16, tV (pI r_.to)), (19, tB false), (24, tV (pI r_.to)), (27, tB false), (30, tB false)]) (gs := [.keep [0, 3, 54] []]) (s' := ⟨[(0, .p (encL Run.cs l)), (3, pI i), (54, pB false)], []⟩) (by kernel_rfl) (holds_of ((UU ∧ UU ∧ ((0 ≤ i ∧ i < (l.length : Int))) ∧ UU ∧ ((l.flatMap Run.cs)[i.toNat * 2]? = some (vI r_.frm)) ∧ UU ∧ ((UU ∧ some (pB (decide (r_.frm < (-4096 : Int)))) = some (pB false))) ∧ UU ∧ UU ∧ ((0 ≤ i ∧ i < (l.length : Int))) ∧ UU ∧ ((l.flatMap Run.cs)[i.toNat * 2]? = some (vI r_.frm)) ∧ UU ∧ UU ∧ ((0 ≤ i ∧ i < (l.length : Int))) ∧ UU ∧ ((l.flatMap Run.cs)[i.toNat * 2 + 1]? = some (vI r_.to)) ∧ UU ∧ UU ∧ ((UU ∧ some (pB (decide (r_.frm ≥ r_.to))) = some (pB false))) ∧ UU ∧ UU ∧ ((0 ≤ i ∧ i < (l.length : Int))) ∧ UU ∧ ((l.flatMap Run.cs)[i.toNat * 2 + 1]? = some (vI r_.to)) ∧ UU ∧ UU ∧ ((UU ∧ some (pB (decide (r_.to > (4096 : Int)))) = some (pB false))) ∧ UU ∧ UU ∧ ((UU ∧ some (pB (decide (i > (0 : Int)))) = some (pB false))) ∧ UU ∧ UU ∧ UU) ∧ (UU ∧ UU)) (by kernel_rfl) ⟨⟨TT, TT, k2.2, TT, row_at Run.cs_len k2.1 (j := 0) (by omega) (by decide), TT, ⟨TT, by rw [k3]⟩, TT, TT, k2.2, TT, row_at Run.cs_len k2.1 (j := 0) (by omega) (by decide), TT, TT, k2.2, TT, row_at Run.cs_len k2.1 (j := 1) (by omega) (by decide), TT, TT, ⟨TT, by rw [k4]⟩, TT, TT, k2.2, TT, row_at Run.cs_len k2.1 (j := 1) (by omega) (by decide), TT, TT, ⟨TT, by rw [k5]⟩, TT, TT, ⟨TT, by rw [k6]⟩, TT, TT, TT⟩, ⟨TT, TT⟩⟩) ?_
                refine Done.mk ?_
                obtain rfl := Option.some.inj h
                exact ⟨rfl, by kernel_rfl⟩
      · have _ := hm
        refine Done.as (e := Exit.normal) (s := ⟨[(0, .p (encL Run.cs l)), (3, pI i), (54, pB t54)], []⟩) rfl (by kernel_rfl) ?_
        refine Done.mk (thenQ_n ?_)
        refine ifB_el h (fun k9 h => ?_) (fun k9 h => ?_)
        · refine awp_cond_t (b := t54) (by kernel_rfl) k9 ?_
          refine awp_seq ?_
          refine awp_regionD Try_mixed (orcs := []) (gs := [.keep [2] []]) (s' := ⟨[(2, pB false)], []⟩) (by kernel_rfl) (holds_of ((UU ∧ UU) ∧ (UU ∧ UU)) (by kernel_rfl) ⟨⟨TT, TT⟩, ⟨TT, TT⟩⟩) ?_
          refine Done.mk (thenQ_n ?_)
          refine doneRet ?_
          refine Done.mk (inB_r (thenQ_r ?_))
          obtain rfl := Option.some.inj h
          exact ⟨fun q => (by cases q), fun q => (by subst q; exact ⟨rfl, by kernel_rfl⟩)⟩
        · refine awp_cond_f (b := t54) (by kernel_rfl) k9 ?_
          refine doneSkip ?_
          refine Done.mk (inB_n (thenQ_n ?_))
          refine chk_el h (fun k10 h => ?_)
          refine awp_regionD Try_mixed (orcs := []) (gs := [.keep [0, 3] []]) (s' := ⟨[(0, .p (encL Run.cs l)), (3, pI (i + 1))], []⟩) (by kernel_rfl) (holds_of ((UU ∧ (InR .i64 (i + 1 : Int)) ∧ UU ∧ UU) ∧ (UU ∧ UU)) (by kernel_rfl) ⟨⟨TT, k10, TT, TT⟩, ⟨TT, TT⟩⟩) ?_
          refine Done.mk ?_
          obtain rfl := Option.some.inj h
          exact ⟨rfl, by kernel_rfl⟩
    · refine awp_cond_f (b := decide (i < (l.length : Int))) (by kernel_rfl) k1 ?_
      refine doneExit ?_
      refine Done.gh [.keep [0] [], .keep [0] []] (s' := ⟨[(0, .p (encL Run.cs l))], []⟩) (by kernel_rfl) (holds_of (UU ∧ UU ∧ UU) (by kernel_rfl) ⟨TT, TT, TT⟩) ?_
      refine Done.mk (thenQ_x ?_)
      obtain rfl := Option.some.inj h
      exact ⟨fun q => (by cases q), fun q => (by subst q; exact ⟨rfl, by kernel_rfl⟩)⟩
  · rcases o with _u | _u
    · refine Done.as (e := (Exit.exit 0)) (s := ⟨[(0, .p (encL Run.cs l))], []⟩) rfl (by kernel_rfl) ?_
      refine Done.mk (inB_hit (thenQ_n ?_))
      refine awp_seq ?_
      refine awp_regionD Try_mixed (orcs := []) (gs := [.keep [2] []]) (s' := ⟨[(2, pB (decide ((l.length : Int) > (0 : Int))))], []⟩) (by kernel_rfl) (holds_of ((UU ∧ UU ∧ UU ∧ UU ∧ UU) ∧ (UU ∧ UU)) (by kernel_rfl) ⟨⟨TT, TT, TT, TT, TT⟩, ⟨TT, TT⟩⟩) ?_
      refine Done.mk (thenQ_n ?_)
      refine doneRet ?_
      refine Done.mk ?_
      obtain rfl := Option.some.inj h
      exact ⟨Or.inr rfl, by kernel_rfl, by kernel_rfl⟩
    · refine Done.as (e := Exit.ret) (s := ⟨[(2, pB false)], []⟩) rfl (by kernel_rfl) ?_
      refine Done.mk (inB_r (thenQ_r ?_))
      obtain rfl := Option.some.inj h
      exact ⟨Or.inr rfl, by kernel_rfl, by kernel_rfl⟩
end
end Go.AM
end
section
namespace Go.AM
open Go Go.RowKit Go.Proofs
noncomputable section
set_option maxRecDepth 100000 in
set_option maxHeartbeats 4000000 in
theorem R18_Valid_ok {r_ : Region} {r : Bool} (h : R18_Valid r_ = some r) : ASpec Try.prog 33 [.agg [.p (encL Row.cs r_.rows)]] [] (pB r) [] := by
  refine aspec_of Try.func33 (c := _) rfl (by kernel_rfl) (by rw [Try.ntmps33]; exact Nat.le_of_ble_eq_true rfl) ?_
  refine awp_seq ?_
  refine awp_regionD Try_mixed (orcs := []) (gs := [.keep [1] [1]]) (s' := ⟨[(1, .ptr 1 0)], [(1, .lit 24 [.p (encL Row.cs r_.rows)])]⟩) (by kernel_rfl) (holds_of ((UU ∧ UU ∧ UU) ∧ (UU ∧ UU)) (by kernel_rfl) ⟨⟨TT, TT, TT⟩, ⟨TT, TT⟩⟩) ?_
  refine Done.mk (thenQ_n ?_)
  refine awp_seq ?_
  refine awp_seq ?_
  refine awp_regionD Try_mixed (orcs := []) (gs := [.keep [1, 3] [1]]) (s' := ⟨[(1, .ptr 1 0), (3, pI 0)], [(1, .lit 24 [.p (encL Row.cs r_.rows)])]⟩) (by kernel_rfl) (holds_of ((UU ∧ UU) ∧ (UU ∧ UU)) (by kernel_rfl) ⟨⟨TT, TT⟩, ⟨TT, TT⟩⟩) ?_
  refine Done.mk (thenQ_n ?_)
  refine awp_block ?_
  refine bind_el h (fun o hm h => ?_)
  refine awp_gh [.keep [1, 3] [1], .keep [1, 3] [1]] (s' := ⟨[(1, .ptr 1 0), (3, pI 0)], [(1, .lit 24 [.p (encL Row.cs r_.rows)])]⟩) (by kernel_rfl) (holds_of (UU ∧ UU ∧ UU) (by kernel_rfl) ⟨TT, TT, TT⟩) ?_
  refine awp_tail (fun o => match o with | .inl _ => (Exit.exit 0) | .inr _ => Exit.ret) (fun o => match o with | .inl _ => ⟨[], []⟩ | .inr _ => ⟨[(2, pB false)], []⟩) hm (fun o h => ?_) ?_
  · refine awp_loop' (fun s => match s with | i => ⟨[(1, .ptr 1 0), (3, pI i)], [(1, .lit 24 [.p (encL Row.cs r_.rows)])]⟩) h (by kernel_rfl) (fun i out h => ?_)
    refine awp_seq ?_
    refine awp_seq ?_
    refine awp_regionD Try_mixed (orcs := []) (gs := [.keep [1, 3, 9] [1]]) (s' := ⟨[(1, .ptr 1 0), (3, pI i), (9, pB (decide (i < (r_.rows.length : Int))))], [(1, .lit 24 [.p (encL Row.cs r_.rows)])]⟩) (by kernel_rfl) (holds_of ((UU ∧ UU ∧ UU ∧ UU ∧ UU ∧ UU) ∧ (UU ∧ UU)) (by kernel_rfl) ⟨⟨TT, TT, TT, TT, TT, TT⟩, ⟨TT, TT⟩⟩) ?_
    refine Done.mk (thenQ_n ?_)
    refine ifB_el h (fun k1 h => ?_) (fun k1 h => ?_)
    · refine awp_cond_t (b := decide (i < (r_.rows.length : Int))) (by kernel_rfl) k1 ?_
      refine doneSkip ?_
      refine Done.mk (thenQ_n ?_)
      refine awp_seq ?_
      refine awp_block ?_
      refine awp_seq ?_
      refine bind_el h (fun r_1 k2 h => ?_)
      replace k2 := getI_el k2
      refine awp_regionD Try_mixed (orcs := [(5, tV (pI r_1.y))]) (gs := [.keep [1, 3, 4] [1]]) (s' := ⟨[(1, .ptr 1 0), (3, pI i), (4, pI r_1.y)], [(1, .lit 24 [.p (encL Row.cs r_.rows)])]⟩) (by kernel_rfl) (holds_of ((UU ∧ UU ∧ UU ∧ ((0 ≤ i ∧ i < (r_.rows.length : Int))) ∧ UU ∧ ((r_.rows.flatMap Row.cs)[i.toNat * 2]? = some (vI r_1.y)) ∧ UU ∧ UU) ∧ (UU ∧ UU)) (by kernel_rfl) ⟨⟨TT, TT, TT, k2.2, TT, row_at Row.cs_len k2.1 (j := 0) (by omega) (by decide), TT, TT⟩, ⟨TT, TT⟩⟩) ?_
      refine Done.mk (thenQ_n ?_)
      refine awp_seq ?_
      refine bind_el h (fun t48 hm h => ?_)
      refine awp_tail (fun _ => Exit.normal) (fun o => match o with | t48 => ⟨[(1, .ptr 1 0), (3, pI i), (48, pB t48)], [(1, .lit 24 [.p (encL Row.cs r_.rows)])]⟩) hm (fun o h => ?_) ?_
      · refine ifB_el h (fun k3 h => ?_) (fun k3 h => ?_)
        · refine awp_regionD Try_mixed (orcs := [(2, tB true)]) (gs := [.keep [1, 3, 48] [1]]) (s' := ⟨[(1, .ptr 1 0), (3, pI i), (48, pB true)], [(1, .lit 24 [.p (encL Row.cs r_.rows)])]⟩) (by kernel_rfl) (holds_of ((UU ∧ UU ∧ ((UU ∧ some (pB (decide (r_1.y < (-4096 : Int)))) = some (pB true))) ∧ UU ∧ UU ∧ UU ∧ UU ∧ UU ∧ UU) ∧ (UU ∧ UU)) (by kernel_rfl) ⟨⟨TT, TT, ⟨TT, by rw [k3]⟩, TT, TT, TT, TT, TT, TT⟩, ⟨TT, TT⟩⟩) ?_
          refine Done.mk ?_
          obtain rfl := Option.some.inj h
          exact ⟨rfl, by kernel_rfl⟩
        · refine ifB_el h (fun k4 h => ?_) (fun k4 h => ?_)
          · refine awp_regionD Try_mixed (orcs := [(2, tB false), (6, tB true)]) (gs := [.keep [1, 3, 48] [1]]) (s' := ⟨[(1, .ptr 1 0), (3, pI i), (48, pB true)], [(1, .lit 24 [.p (encL Row.cs r_.rows)])]⟩) (by kernel_rfl) (holds_of ((UU ∧ UU ∧ ((UU ∧ some (pB (decide (r_1.y < (-4096 : Int)))) = some (pB false))) ∧ UU ∧ UU ∧ UU ∧ ((UU ∧ some (pB (decide (r_1.y ≥ (4096 : Int)))) = some (pB true))) ∧ UU ∧ UU ∧ UU ∧ UU) ∧ (UU ∧ UU)) (by kernel_rfl) ⟨⟨TT, TT, ⟨TT, by rw [k3]⟩, TT, TT, TT, ⟨TT, by rw [k4]⟩, TT, TT, TT, TT⟩, ⟨TT, TT⟩⟩) ?_
            refine Done.mk ?_
            obtain rfl := Option.some.inj h
            exact ⟨rfl, by kernel_rfl⟩
          · refine ifB_el h (fun k5 h => ?_) (fun k5 h => ?_)
            · refine chk_el h (fun k6 h => ?_)
              refine bind_el h (fun r_2 k7 h => ?_)
              replace k7 := getI_el k7
              refine ifB_el h (fun k8 h => ?_) (fun k8 h => ?_)
              · refine awp_regionD Try_mixed (orcs := [(2, tB false), (6, tB false), (9, tB true), (17, tV (pI r_2.y)), (21, tB true)]) (gs := [.keep [1, 3, 48] [1]]) (s' := ⟨[(1, .ptr 1 0), (3, pI i), (48, pB true)], [(1, .lit 24 [.p (encL Row.cs r_.rows)])]⟩) (by kernel_rfl) (holds_of ((UU ∧ UU ∧ ((UU ∧ some (pB (decide (r_1.y < (-4096 : Int)))) = some (pB false))) ∧ UU ∧ UU ∧ UU ∧ ((UU ∧ some (pB (decide (r_1.y ≥ (4096 : Int)))) = some (pB false))) ∧ UU ∧ UU ∧ ((UU ∧ some (pB (decide (i > (0 : Int)))) = some (pB true))) ∧ UU ∧ UU ∧ UU ∧ UU ∧ (InR .i64 (i - 1 : Int)) ∧ ((0 ≤ (i - 1 : Int) ∧ (i - 1 : Int) < (r_.rows.length : Int))) ∧ UU ∧ ((r_.rows.flatMap Row.cs)[(i - 1 : Int).toNat * 2]? = some (vI r_2.y)) ∧ UU ∧ UU ∧ UU ∧ ((UU ∧ some (pB (decide (r_1.y ≤ r_2.y))) = some (pB true))) ∧ UU ∧ UU) ∧ (UU ∧ UU)) (by kernel_rfl) ⟨⟨TT, TT, ⟨TT, by rw [k3]⟩, TT, TT, TT, ⟨TT, by rw [k4]⟩, TT, TT, ⟨TT, by rw [k5]⟩, TT, TT, TT, TT, k6, k7.2, TT, row_at Row.cs_len k7.1 (j := 0) (by omega) (by decide), TT, TT, TT, ⟨TT, by rw [k8]⟩, TT, TT⟩, ⟨TT, TT⟩⟩) ?_
                refine Done.mk ?_
                obtain rfl := Option.some.inj h
                exact ⟨rfl, by kernel_rfl⟩
              · refine bind_el h (fun b k9 h => ?_)
                refine awp_regionD Try_mixed (orcs := [(2, tB false), (6, tB false), (9, tB true), (17, tV (pI r_2.y)), (21, tB false), (27, tV (.p (encL Run.cs r_1.runs))), (28, tV (pB b))]) (gs := [.keep [1, 3, 48] [1]]) (s' := ⟨[(1, .ptr 1 0), (3, pI i), (48, pB (!b))], [(1, .lit 24 [.p (encL Row.cs r_.rows)])]⟩) (by kernel_rfl) (holds_of ((UU ∧ UU ∧ ((UU ∧ some (pB (decide (r_1.y < (-4096 : Int)))) = some (pB false))) ∧ UU ∧ UU ∧ UU ∧ ((UU ∧ some (pB (decide (r_1.y ≥ (4096 : Int)))) = some (pB false))) ∧ UU ∧ UU ∧ ((UU ∧ some (pB (decide (i > (0 : Int)))) = some (pB true))) ∧ UU ∧ UU ∧ UU ∧ UU ∧ (InR .i64 (i - 1 : Int)) ∧ ((0 ≤ (i - 1 : Int) ∧ (i - 1 : Int) < (r_.rows.length : Int))) ∧ UU ∧ ((r_.rows.flatMap Row.cs)[(i - 1 : Int).toNat * 2]? = some (vI r_2.y)) ∧ UU ∧ UU ∧ UU ∧ ((UU ∧ some (pB (decide (r_1.y ≤ r_2.y))) = some (pB false))) ∧ UU ∧ UU ∧ UU ∧ ((0 ≤ i ∧ i < (r_.rows.length : Int))) ∧ UU ∧ ((r_.rows.flatMap Row.cs)[i.toNat * 2 + 1]? = some (encL Run.cs r_1.runs)) ∧ (ASpec Try.prog 54 [.p (encL Run.cs r_1.runs)] [] (pB b) []) ∧ UU ∧ UU ∧ UU) ∧ (UU ∧ UU)) (by kernel_rfl) ⟨⟨TT, TT, ⟨TT, by rw [k3]⟩, TT, TT, TT, ⟨TT, by rw [k4]⟩, TT, TT, ⟨TT, by rw [k5]⟩, TT, TT, TT, TT, k6, k7.2, TT, row_at Row.cs_len k7.1 (j := 0) (by omega) (by decide), TT, TT, TT, ⟨TT, by rw [k8]⟩, TT, TT, TT, k2.2, TT, row_at Row.cs_len k2.1 (j := 1) (by omega) (by decide), R18_fine_ok k9, TT, TT, TT⟩, ⟨TT, TT⟩⟩) ?_
                refine Done.mk ?_
                obtain rfl := Option.some.inj h
                exact ⟨rfl, by kernel_rfl⟩
            · refine bind_el h (fun b1 k10 h => ?_)
              refine awp_regionD Try_mixed (orcs := [(2, tB false), (6, tB false), (9, tB false), (27, tV (.p (encL Run.cs r_1.runs))), (28, tV (pB b1))]) (gs := [.keep [1, 3, 48] [1]]) (s' := ⟨[(1, .ptr 1 0), (3, pI i), (48, pB (!b1))], [(1, .lit 24 [.p (encL Row.cs r_.rows)])]⟩) (by kernel_rfl) (holds_of ((UU ∧ UU ∧ ((UU ∧ some (pB (decide (r_1.y < (-4096 : Int)))) = some (pB false))) ∧ UU ∧ UU ∧ UU ∧ ((UU ∧ some (pB (decide (r_1.y ≥ (4096 : Int)))) = some (pB false))) ∧ UU ∧ UU ∧ ((UU ∧ some (pB (decide (i > (0 : Int)))) = some (pB false))) ∧ UU ∧ UU ∧ UU ∧ UU ∧ UU ∧ UU ∧ ((0 ≤ i ∧ i < (r_.rows.length : Int))) ∧ UU ∧ ((r_.rows.flatMap Row.cs)[i.toNat * 2 + 1]? = some (encL Run.cs r_1.runs)) ∧ (ASpec Try.prog 54 [.p (encL Run.cs r_1.runs)] [] (pB b1) []) ∧ UU ∧ UU ∧ UU) ∧ (UU ∧ UU)) (by kernel_rfl) ⟨⟨TT, TT, ⟨TT, by rw [k3]⟩, TT, TT, TT, ⟨TT, by rw [k4]⟩, TT, TT, ⟨TT, by rw [k5]⟩, TT, TT, TT, TT, TT, TT, k2.2, TT, row_at Row.cs_len k2.1 (j := 1) (by omega) (by decide), R18_fine_ok k10, TT, TT, TT⟩, ⟨TT, TT⟩⟩) ?_
              refine Done.mk ?_
              obtain rfl := Option.some.inj h
              exact ⟨rfl, by kernel_rfl⟩
      · have _ := hm
        refine Done.as (e := Exit.normal) (s := ⟨[(1, .ptr 1 0), (3, pI i), (48, pB t48)], [(1, .lit 24 [.p (encL Row.cs r_.rows)])]⟩) rfl (by kernel_rfl) ?_
        refine Done.mk (thenQ_n ?_)
        refine ifB_el h (fun k11 h => ?_) (fun k11 h => ?_)
        · refine awp_cond_t (b := t48) (by kernel_rfl) k11 ?_
          refine awp_seq ?_
          refine awp_regionD Try_mixed (orcs := []) (gs := [.keep [2] []]) (s' := ⟨[(2, pB false)], []⟩) (by kernel_rfl) (holds_of ((UU ∧ UU) ∧ (UU ∧ UU)) (by kernel_rfl) ⟨⟨TT, TT⟩, ⟨TT, TT⟩⟩) ?_
          refine Done.mk (thenQ_n ?_)
          refine doneRet ?_
          refine Done.mk (inB_r (thenQ_r ?_))
          obtain rfl := Option.some.inj h
          exact ⟨fun q => (by cases q), fun q => (by subst q; exact ⟨rfl, by kernel_rfl⟩)⟩
        · refine awp_cond_f (b := t48) (by kernel_rfl) k11 ?_
          refine doneSkip ?_
          refine Done.mk (inB_n (thenQ_n ?_))
          refine chk_el h (fun k12 h => ?_)
          refine awp_regionD Try_mixed (orcs := []) (gs := [.keep [1, 3] [1]]) (s' := ⟨[(1, .ptr 1 0), (3, pI (i + 1))], [(1, .lit 24 [.p (encL Row.cs r_.rows)])]⟩) (by kernel_rfl) (holds_of ((UU ∧ (InR .i64 (i + 1 : Int)) ∧ UU ∧ UU) ∧ (UU ∧ UU)) (by kernel_rfl) ⟨⟨TT, k12, TT, TT⟩, ⟨TT, TT⟩⟩) ?_
          refine Done.mk ?_
          obtain rfl := Option.some.inj h
          exact ⟨rfl, by kernel_rfl⟩
    · refine awp_cond_f (b := decide (i < (r_.rows.length : Int))) (by kernel_rfl) k1 ?_
      refine doneExit ?_
      refine Done.gh [.keep [] [], .keep [] []] (s' := ⟨[], []⟩) (by kernel_rfl) (holds_of (UU ∧ UU ∧ UU) (by kernel_rfl) ⟨TT, TT, TT⟩) ?_
      refine Done.mk (thenQ_x ?_)
      obtain rfl := Option.some.inj h
      exact ⟨fun q => (by cases q), fun q => (by subst q; exact ⟨rfl, by kernel_rfl⟩)⟩
  · rcases o with _u | _u
    · refine Done.as (e := (Exit.exit 0)) (s := ⟨[], []⟩) rfl (by kernel_rfl) ?_
      refine Done.mk (inB_hit (thenQ_n ?_))
      refine awp_seq ?_
      refine awp_regionD Try_mixed (orcs := []) (gs := [.keep [2] []]) (s' := ⟨[(2, pB true)], []⟩) (by kernel_rfl) (holds_of ((UU ∧ UU) ∧ (UU ∧ UU)) (by kernel_rfl) ⟨⟨TT, TT⟩, ⟨TT, TT⟩⟩) ?_
      refine Done.mk (thenQ_n ?_)
      refine doneRet ?_
      refine Done.mk ?_
      obtain rfl := Option.some.inj h
      exact ⟨Or.inr rfl, by kernel_rfl, by kernel_rfl⟩
    · refine Done.as (e := Exit.ret) (s := ⟨[(2, pB false)], []⟩) rfl (by kernel_rfl) ?_
      refine Done.mk (inB_r (thenQ_r ?_))
      obtain rfl := Option.some.inj h
      exact ⟨Or.inr rfl, by kernel_rfl, by kernel_rfl⟩
end
end Go.AM
end
section
namespace Go.AM
open Go Go.RowKit Go.Proofs
noncomputable section
set_option maxRecDepth 100000 in
set_option maxHeartbeats 4000000 in
theorem R18_Count_ok {r_ : Region} {r : Int} (h : R18_Count r_ = some r) : ASpec Try.prog 16 [.agg [.p (encL Row.cs r_.rows)]] [] (pI r) [] := by
  refine aspec_of Try.func16 (c := _) rfl (by kernel_rfl) (by rw [Try.ntmps16]; exact Nat.le_of_ble_eq_true rfl) ?_
  refine awp_seq ?_
  refine awp_regionD Try_mixed (orcs := []) (gs := [.keep [1] [1]]) (s' := ⟨[(1, .ptr 1 0)], [(1, .lit 24 [.p (encL Row.cs r_.rows)])]⟩) (by kernel_rfl) (holds_of ((UU ∧ UU ∧ UU) ∧ (UU ∧ UU)) (by kernel_rfl) ⟨⟨TT, TT, TT⟩, ⟨TT, TT⟩⟩) ?_
  refine Done.mk (thenQ_n ?_)
  refine awp_seq ?_
  refine awp_regionD Try_mixed (orcs := []) (gs := [.keep [1, 3] [1]]) (s' := ⟨[(1, .ptr 1 0), (3, pI 0)], [(1, .lit 24 [.p (encL Row.cs r_.rows)])]⟩) (by kernel_rfl) (holds_of ((UU ∧ UU) ∧ (UU ∧ UU)) (by kernel_rfl) ⟨⟨TT, TT⟩, ⟨TT, TT⟩⟩) ?_
  refine Done.mk (thenQ_n ?_)
  refine awp_seq ?_
  refine awp_seq ?_
  refine bind_el h (fun b k1 h => ?_)
  refine awp_regionD Try_mixed (orcs := [(1, tV (pB b))]) (gs := [.keep [1, 3, 8] [1]]) (s' := ⟨[(1, .ptr 1 0), (3, pI 0), (8, pB (!b))], [(1, .lit 24 [.p (encL Row.cs r_.rows)])]⟩) (by kernel_rfl) (holds_of ((UU ∧ (ASpec Try.prog 33 [.agg [.p (encL Row.cs r_.rows)]] [] (pB b) []) ∧ UU ∧ UU) ∧ (UU ∧ UU)) (by kernel_rfl) ⟨⟨TT, R18_Valid_ok k1, TT, TT⟩, ⟨TT, TT⟩⟩) ?_
  refine Done.mk (thenQ_n ?_)
  refine ifB_el h (fun k2 h => ?_) (fun k2 h => ?_)
  · refine awp_cond_t (b := !b) (by kernel_rfl) k2 ?_
    refine awp_seq ?_
    refine awp_regionD Try_mixed (orcs := []) (gs := [.keep [2] []]) (s' := ⟨[(2, pI 0)], []⟩) (by kernel_rfl) (holds_of ((UU ∧ UU ∧ UU) ∧ (UU ∧ UU)) (by kernel_rfl) ⟨⟨TT, TT, TT⟩, ⟨TT, TT⟩⟩) ?_
    refine Done.mk (thenQ_n ?_)
    refine doneRet ?_
    refine Done.mk (thenQ_r ?_)
    obtain rfl := Option.some.inj h
    exact ⟨Or.inr rfl, by kernel_rfl, by kernel_rfl⟩
  · refine awp_cond_f (b := !b) (by kernel_rfl) k2 ?_
    refine doneSkip ?_
    refine Done.mk (thenQ_n ?_)
    refine awp_seq ?_
    refine awp_seq ?_
    refine awp_regionD Try_mixed (orcs := []) (gs := [.keep [1, 3, 4] [1]]) (s' := ⟨[(1, .ptr 1 0), (3, pI 0), (4, pI 0)], [(1, .lit 24 [.p (encL Row.cs r_.rows)])]⟩) (by kernel_rfl) (holds_of ((UU ∧ UU) ∧ (UU ∧ UU)) (by kernel_rfl) ⟨⟨TT, TT⟩, ⟨TT, TT⟩⟩) ?_
    refine Done.mk (thenQ_n ?_)
    refine awp_block ?_
    refine bind_el h (fun n3 hm h => ?_)
    refine awp_gh [.keep [1, 3, 4] [1], .keep [1, 3, 4] [1]] (s' := ⟨[(1, .ptr 1 0), (3, pI 0), (4, pI 0)], [(1, .lit 24 [.p (encL Row.cs r_.rows)])]⟩) (by kernel_rfl) (holds_of (UU ∧ UU ∧ UU) (by kernel_rfl) ⟨TT, TT, TT⟩) ?_
    refine awp_tail (fun _ => (Exit.exit 0)) (fun o => match o with | n3 => ⟨[(3, pI n3)], []⟩) hm (fun o h => ?_) ?_
    · refine awp_loop' (fun s => match s with | (n2, i) => ⟨[(1, .ptr 1 0), (3, pI n2), (4, pI i)], [(1, .lit 24 [.p (encL Row.cs r_.rows)])]⟩) h (by kernel_rfl) (fun s out h => ?_)
      obtain ⟨n2, i⟩ := s
      refine awp_seq ?_
      refine awp_seq ?_
      refine awp_regionD Try_mixed (orcs := []) (gs := [.keep [1, 3, 4, 14] [1]]) (s' := ⟨[(1, .ptr 1 0), (3, pI n2), (4, pI i), (14, pB (decide (i < (r_.rows.length : Int))))], [(1, .lit 24 [.p (encL Row.cs r_.rows)])]⟩) (by kernel_rfl) (holds_of ((UU ∧ UU ∧ UU ∧ UU ∧ UU ∧ UU) ∧ (UU ∧ UU)) (by kernel_rfl) ⟨⟨TT, TT, TT, TT, TT, TT⟩, ⟨TT, TT⟩⟩) ?_
      refine Done.mk (thenQ_n ?_)
      refine ifB_el h (fun k3 h => ?_) (fun k3 h => ?_)
      · refine awp_cond_t (b := decide (i < (r_.rows.length : Int))) (by kernel_rfl) k3 ?_
        refine doneSkip ?_
        refine Done.mk (thenQ_n ?_)
        refine awp_seq ?_
        refine awp_block ?_
        refine awp_seq ?_
        refine awp_regionD Try_mixed (orcs := []) (gs := [.keep [1, 3, 4, 5] [1]]) (s' := ⟨[(1, .ptr 1 0), (3, pI n2), (4, pI i), (5, pI 0)], [(1, .lit 24 [.p (encL Row.cs r_.rows)])]⟩) (by kernel_rfl) (holds_of ((UU ∧ UU) ∧ (UU ∧ UU)) (by kernel_rfl) ⟨⟨TT, TT⟩, ⟨TT, TT⟩⟩) ?_
        refine Done.mk (thenQ_n ?_)
        refine awp_block ?_
        refine bind_el h (fun n1 hm h => ?_)
        refine awp_gh [.keep [1, 3, 4, 5] [1], .keep [1, 3, 4, 5] [1]] (s' := ⟨[(1, .ptr 1 0), (3, pI n2), (4, pI i), (5, pI 0)], [(1, .lit 24 [.p (encL Row.cs r_.rows)])]⟩) (by kernel_rfl) (holds_of (UU ∧ UU ∧ UU) (by kernel_rfl) ⟨TT, TT, TT⟩) ?_
        refine awp_tail (fun _ => (Exit.exit 2)) (fun o => match o with | n1 => ⟨[(1, .ptr 1 0), (3, pI n1), (4, pI i)], [(1, .lit 24 [.p (encL Row.cs r_.rows)])]⟩) hm (fun o h => ?_) ?_
        · refine awp_loop' (fun s => match s with | (n, k) => ⟨[(1, .ptr 1 0), (3, pI n), (4, pI i), (5, pI k)], [(1, .lit 24 [.p (encL Row.cs r_.rows)])]⟩) h (by kernel_rfl) (fun s out h => ?_)
          obtain ⟨n, k⟩ := s
          refine awp_seq ?_
          refine awp_seq ?_
          refine bind_el h (fun r_1 k4 h => ?_)
          replace k4 := getI_el k4
          refine awp_regionD Try_mixed (orcs := [(6, tV (.p (encL Run.cs r_1.runs)))]) (gs := [.keep [1, 3, 4, 5, 25] [1]]) (s' := ⟨[(1, .ptr 1 0), (3, pI n), (4, pI i), (5, pI k), (25, pB (decide (k < (r_1.runs.length : Int))))], [(1, .lit 24 [.p (encL Row.cs r_.rows)])]⟩) (by kernel_rfl) (holds_of ((UU ∧ UU ∧ UU ∧ UU ∧ ((0 ≤ i ∧ i < (r_.rows.length : Int))) ∧ UU ∧ ((r_.rows.flatMap Row.cs)[i.toNat * 2 + 1]? = some (encL Run.cs r_1.runs)) ∧ UU ∧ UU ∧ UU) ∧ (UU ∧ UU)) (by kernel_rfl) ⟨⟨TT, TT, TT, TT, k4.2, TT, row_at Row.cs_len k4.1 (j := 1) (by omega) (by decide), TT, TT, TT⟩, ⟨TT, TT⟩⟩) ?_
          refine Done.mk (thenQ_n ?_)
          refine ifB_el h (fun k5 h => ?_) (fun k5 h => ?_)
          · refine awp_cond_t (b := decide (k < (r_1.runs.length : Int))) (by kernel_rfl) k5 ?_
            refine doneSkip ?_
            refine Done.mk (thenQ_n ?_)
            refine awp_seq ?_
            refine awp_block ?_
            refine bind_el h (fun r_2 k6 h => ?_)
            replace k6 := getI_el k6
            refine chk_el h (fun k7 h => ?_)
            refine chk_el h (fun k8 h => ?_)
            refine awp_regionD Try_mixed (orcs := [(6, tV (.p (encL Run.cs r_1.runs))), (10, tV (pI r_2.to)), (16, tV (.p (encL Run.cs r_1.runs))), (20, tV (pI r_2.frm))]) (gs := [.keep [1, 3, 4, 5] [1]]) (s' := ⟨[(1, .ptr 1 0), (3, pI (n + (r_2.to - r_2.frm))), (4, pI i), (5, pI k)], [(1, .lit 24 [.p (encL Row.cs r_.rows)])]⟩) (by kernel_rfl) (holds_of ((UU ∧ UU ∧ UU ∧ UU ∧ ((0 ≤ i ∧ i < (r_.rows.length : Int))) ∧ UU ∧ ((r_.rows.flatMap Row.cs)[i.toNat * 2 + 1]? = some (encL Run.cs r_1.runs)) ∧ UU ∧ ((0 ≤ k ∧ k < (r_1.runs.length : Int))) ∧ UU ∧ ((r_1.runs.flatMap Run.cs)[k.toNat * 2 + 1]? = some (vI r_2.to)) ∧ UU ∧ UU ∧ UU ∧ ((0 ≤ i ∧ i < (r_.rows.length : Int))) ∧ UU ∧ ((r_.rows.flatMap Row.cs)[i.toNat * 2 + 1]? = some (encL Run.cs r_1.runs)) ∧ UU ∧ ((0 ≤ k ∧ k < (r_1.runs.length : Int))) ∧ UU ∧ ((r_1.runs.flatMap Run.cs)[k.toNat * 2]? = some (vI r_2.frm)) ∧ (InR .i64 (r_2.to - r_2.frm : Int)) ∧ (InR .i64 (n + (r_2.to - r_2.frm) : Int)) ∧ UU ∧ UU) ∧ (UU ∧ UU)) (by kernel_rfl) ⟨⟨TT, TT, TT, TT, k4.2, TT, row_at Row.cs_len k4.1 (j := 1) (by omega) (by decide), TT, k6.2, TT, row_at Run.cs_len k6.1 (j := 1) (by omega) (by decide), TT, TT, TT, k4.2, TT, row_at Row.cs_len k4.1 (j := 1) (by omega) (by decide), TT, k6.2, TT, row_at Run.cs_len k6.1 (j := 0) (by omega) (by decide), k7, k8, TT, TT⟩, ⟨TT, TT⟩⟩) ?_
            refine Done.mk (inB_n (thenQ_n ?_))
            refine chk_el h (fun k9 h => ?_)
            refine awp_regionD Try_mixed (orcs := []) (gs := [.keep [1, 3, 4, 5] [1]]) (s' := ⟨[(1, .ptr 1 0), (3, pI (n + (r_2.to - r_2.frm))), (4, pI i), (5, pI (k + 1))], [(1, .lit 24 [.p (encL Row.cs r_.rows)])]⟩) (by kernel_rfl) (holds_of ((UU ∧ (InR .i64 (k + 1 : Int)) ∧ UU ∧ UU) ∧ (UU ∧ UU)) (by kernel_rfl) ⟨⟨TT, k9, TT, TT⟩, ⟨TT, TT⟩⟩) ?_
            refine Done.mk ?_
            obtain rfl := Option.some.inj h
            exact ⟨rfl, by kernel_rfl⟩
          · refine awp_cond_f (b := decide (k < (r_1.runs.length : Int))) (by kernel_rfl) k5 ?_
            refine doneExit ?_
            refine Done.gh [.keep [1, 3, 4] [1], .keep [1, 3, 4] [1]] (s' := ⟨[(1, .ptr 1 0), (3, pI n), (4, pI i)], [(1, .lit 24 [.p (encL Row.cs r_.rows)])]⟩) (by kernel_rfl) (holds_of (UU ∧ UU ∧ UU) (by kernel_rfl) ⟨TT, TT, TT⟩) ?_
            refine Done.mk (thenQ_x ?_)
            obtain rfl := Option.some.inj h
            exact ⟨fun q => (by cases q), fun q => (by subst q; exact ⟨rfl, by kernel_rfl⟩)⟩
        · have _ := hm
          refine Done.as (e := (Exit.exit 2)) (s := ⟨[(1, .ptr 1 0), (3, pI n1), (4, pI i)], [(1, .lit 24 [.p (encL Row.cs r_.rows)])]⟩) rfl (by kernel_rfl) ?_
          refine Done.mk (inB_hit (inB_n (thenQ_n ?_)))
          refine chk_el h (fun k10 h => ?_)
          refine awp_regionD Try_mixed (orcs := []) (gs := [.keep [1, 3, 4] [1]]) (s' := ⟨[(1, .ptr 1 0), (3, pI n1), (4, pI (i + 1))], [(1, .lit 24 [.p (encL Row.cs r_.rows)])]⟩) (by kernel_rfl) (holds_of ((UU ∧ (InR .i64 (i + 1 : Int)) ∧ UU ∧ UU) ∧ (UU ∧ UU)) (by kernel_rfl) ⟨⟨TT, k10, TT, TT⟩, ⟨TT, TT⟩⟩) ?_
          refine Done.mk ?_
          obtain rfl := Option.some.inj h
          exact ⟨rfl, by kernel_rfl⟩
      · refine awp_cond_f (b := decide (i < (r_.rows.length : Int))) (by kernel_rfl) k3 ?_
        refine doneExit ?_
        refine Done.gh [.keep [3] [], .keep [3] []] (s' := ⟨[(3, pI n2)], []⟩) (by kernel_rfl) (holds_of (UU ∧ UU ∧ UU) (by kernel_rfl) ⟨TT, TT, TT⟩) ?_
        refine Done.mk (thenQ_x ?_)
        obtain rfl := Option.some.inj h
        exact ⟨fun q => (by cases q), fun q => (by subst q; exact ⟨rfl, by kernel_rfl⟩)⟩
    · have _ := hm
      refine Done.as (e := (Exit.exit 0)) (s := ⟨[(3, pI n3)], []⟩) rfl (by kernel_rfl) ?_
      refine Done.mk (inB_hit (thenQ_n ?_))
      refine awp_seq ?_
      refine awp_regionD Try_mixed (orcs := []) (gs := [.keep [2] []]) (s' := ⟨[(2, pI n3)], []⟩) (by kernel_rfl) (holds_of ((UU ∧ UU ∧ UU) ∧ (UU ∧ UU)) (by kernel_rfl) ⟨⟨TT, TT, TT⟩, ⟨TT, TT⟩⟩) ?_
      refine Done.mk (thenQ_n ?_)
      refine doneRet ?_
      refine Done.mk ?_
      obtain rfl := Option.some.inj h
      exact ⟨Or.inr rfl, by kernel_rfl, by kernel_rfl⟩
end
end Go.AM
end
section
namespace Go.AM
open Go Go.RowKit Go.Proofs
noncomputable section
set_option maxRecDepth 100000 in
set_option maxHeartbeats 4000000 in
theorem L18_Small_ok {r_ : Region} {r : Bool} (h : L18_Small r_ = some r) : ASpec Try.prog 7 [.agg [.p (encL Row.cs r_.rows)]] [] (pB r) [] := by
  refine aspec_of Try.func7 (c := _) rfl (by kernel_rfl) (by rw [Try.ntmps7]; exact Nat.le_of_ble_eq_true rfl) ?_
  refine awp_seq ?_
  refine awp_regionD Try_mixed (orcs := []) (gs := [.keep [1] [1]]) (s' := ⟨[(1, .ptr 1 0)], [(1, .lit 24 [.p (encL Row.cs r_.rows)])]⟩) (by kernel_rfl) (holds_of ((UU ∧ UU ∧ UU) ∧ (UU ∧ UU)) (by kernel_rfl) ⟨⟨TT, TT, TT⟩, ⟨TT, TT⟩⟩) ?_
  refine Done.mk (thenQ_n ?_)
  refine awp_seq ?_
  refine awp_seq ?_
  refine awp_regionD Try_mixed (orcs := []) (gs := [.keep [1, 7] [1]]) (s' := ⟨[(1, .ptr 1 0), (7, pB (decide ((r_.rows.length : Int) > (40 : Int))))], [(1, .lit 24 [.p (encL Row.cs r_.rows)])]⟩) (by kernel_rfl) (holds_of ((UU ∧ UU ∧ UU ∧ UU ∧ UU) ∧ (UU ∧ UU)) (by kernel_rfl) ⟨⟨TT, TT, TT, TT, TT⟩, ⟨TT, TT⟩⟩) ?_
  refine Done.mk (thenQ_n ?_)
  refine ifB_el h (fun k1 h => ?_) (fun k1 h => ?_)
  · refine awp_cond_t (b := decide ((r_.rows.length : Int) > (40 : Int))) (by kernel_rfl) k1 ?_
    refine awp_seq ?_
    refine awp_regionD Try_mixed (orcs := []) (gs := [.keep [2] []]) (s' := ⟨[(2, pB false)], []⟩) (by kernel_rfl) (holds_of ((UU ∧ UU) ∧ (UU ∧ UU)) (by kernel_rfl) ⟨⟨TT, TT⟩, ⟨TT, TT⟩⟩) ?_
    refine Done.mk (thenQ_n ?_)
    refine doneRet ?_
    refine Done.mk (thenQ_r ?_)
    obtain rfl := Option.some.inj h
    exact ⟨Or.inr rfl, by kernel_rfl, by kernel_rfl⟩
  · refine awp_cond_f (b := decide ((r_.rows.length : Int) > (40 : Int))) (by kernel_rfl) k1 ?_
    refine doneSkip ?_
    refine Done.mk (thenQ_n ?_)
    refine awp_seq ?_
    refine awp_seq ?_
    refine awp_regionD Try_mixed (orcs := []) (gs := [.keep [1, 3] [1]]) (s' := ⟨[(1, .ptr 1 0), (3, pI 0)], [(1, .lit 24 [.p (encL Row.cs r_.rows)])]⟩) (by kernel_rfl) (holds_of ((UU ∧ UU) ∧ (UU ∧ UU)) (by kernel_rfl) ⟨⟨TT, TT⟩, ⟨TT, TT⟩⟩) ?_
    refine Done.mk (thenQ_n ?_)
    refine awp_block ?_
    refine bind_el h (fun o hm h => ?_)
    refine awp_gh [.keep [1, 3] [1], .keep [1, 3] [1]] (s' := ⟨[(1, .ptr 1 0), (3, pI 0)], [(1, .lit 24 [.p (encL Row.cs r_.rows)])]⟩) (by kernel_rfl) (holds_of (UU ∧ UU ∧ UU) (by kernel_rfl) ⟨TT, TT, TT⟩) ?_
    refine awp_tail (fun o => match o with | .inl _ => (Exit.exit 0) | .inr _ => Exit.ret) (fun o => match o with | .inl _ => ⟨[(1, .ptr 1 0)], [(1, .lit 24 [.p (encL Row.cs r_.rows)])]⟩ | .inr _ => ⟨[(2, pB false)], []⟩) hm (fun o h => ?_) ?_
    · refine awp_loop' (fun s => match s with | i => ⟨[(1, .ptr 1 0), (3, pI i)], [(1, .lit 24 [.p (encL Row.cs r_.rows)])]⟩) h (by kernel_rfl) (fun i out h => ?_)
      refine awp_seq ?_
      refine awp_seq ?_
      refine awp_regionD Try_mixed (orcs := []) (gs := [.keep [1, 3, 12] [1]]) (s' := ⟨[(1, .ptr 1 0), (3, pI i), (12, pB (decide (i < (r_.rows.length : Int))))], [(1, .lit 24 [.p (encL Row.cs r_.rows)])]⟩) (by kernel_rfl) (holds_of ((UU ∧ UU ∧ UU ∧ UU ∧ UU ∧ UU) ∧ (UU ∧ UU)) (by kernel_rfl) ⟨⟨TT, TT, TT, TT, TT, TT⟩, ⟨TT, TT⟩⟩) ?_
      refine Done.mk (thenQ_n ?_)
      refine ifB_el h (fun k2 h => ?_) (fun k2 h => ?_)
      · refine awp_cond_t (b := decide (i < (r_.rows.length : Int))) (by kernel_rfl) k2 ?_
        refine doneSkip ?_
        refine Done.mk (thenQ_n ?_)
        refine awp_seq ?_
        refine awp_block ?_
        refine awp_seq ?_
        refine bind_el h (fun r_1 k3 h => ?_)
        replace k3 := getI_el k3
        refine awp_regionD Try_mixed (orcs := [(5, tV (.p (encL Run.cs r_1.runs)))]) (gs := [.keep [1, 3, 22] [1]]) (s' := ⟨[(1, .ptr 1 0), (3, pI i), (22, pB (decide ((r_1.runs.length : Int) > (40 : Int))))], [(1, .lit 24 [.p (encL Row.cs r_.rows)])]⟩) (by kernel_rfl) (holds_of ((UU ∧ UU ∧ UU ∧ ((0 ≤ i ∧ i < (r_.rows.length : Int))) ∧ UU ∧ ((r_.rows.flatMap Row.cs)[i.toNat * 2 + 1]? = some (encL Run.cs r_1.runs)) ∧ UU ∧ UU ∧ UU) ∧ (UU ∧ UU)) (by kernel_rfl) ⟨⟨TT, TT, TT, k3.2, TT, row_at Row.cs_len k3.1 (j := 1) (by omega) (by decide), TT, TT, TT⟩, ⟨TT, TT⟩⟩) ?_
        refine Done.mk (thenQ_n ?_)
        refine ifB_el h (fun k4 h => ?_) (fun k4 h => ?_)
        · refine awp_cond_t (b := decide ((r_1.runs.length : Int) > (40 : Int))) (by kernel_rfl) k4 ?_
          refine awp_seq ?_
          refine awp_regionD Try_mixed (orcs := []) (gs := [.keep [2] []]) (s' := ⟨[(2, pB false)], []⟩) (by kernel_rfl) (holds_of ((UU ∧ UU) ∧ (UU ∧ UU)) (by kernel_rfl) ⟨⟨TT, TT⟩, ⟨TT, TT⟩⟩) ?_
          refine Done.mk (thenQ_n ?_)
          refine doneRet ?_
          refine Done.mk (inB_r (thenQ_r ?_))
          obtain rfl := Option.some.inj h
          exact ⟨fun q => (by cases q), fun q => (by subst q; exact ⟨rfl, by kernel_rfl⟩)⟩
        · refine awp_cond_f (b := decide ((r_1.runs.length : Int) > (40 : Int))) (by kernel_rfl) k4 ?_
          refine doneSkip ?_
          refine Done.mk (inB_n (thenQ_n ?_))
          refine chk_el h (fun k5 h => ?_)
          refine awp_regionD Try_mixed (orcs := []) (gs := [.keep [1, 3] [1]]) (s' := ⟨[(1, .ptr 1 0), (3, pI (i + 1))], [(1, .lit 24 [.p (encL Row.cs r_.rows)])]⟩) (by kernel_rfl) (holds_of ((UU ∧ (InR .i64 (i + 1 : Int)) ∧ UU ∧ UU) ∧ (UU ∧ UU)) (by kernel_rfl) ⟨⟨TT, k5, TT, TT⟩, ⟨TT, TT⟩⟩) ?_
          refine Done.mk ?_
          obtain rfl := Option.some.inj h
          exact ⟨rfl, by kernel_rfl⟩
      · refine awp_cond_f (b := decide (i < (r_.rows.length : Int))) (by kernel_rfl) k2 ?_
        refine doneExit ?_
        refine Done.gh [.keep [1] [1], .keep [1] [1]] (s' := ⟨[(1, .ptr 1 0)], [(1, .lit 24 [.p (encL Row.cs r_.rows)])]⟩) (by kernel_rfl) (holds_of (UU ∧ UU ∧ UU) (by kernel_rfl) ⟨TT, TT, TT⟩) ?_
        refine Done.mk (thenQ_x ?_)
        obtain rfl := Option.some.inj h
        exact ⟨fun q => (by cases q), fun q => (by subst q; exact ⟨rfl, by kernel_rfl⟩)⟩
    · rcases o with _u | _u
      · refine Done.as (e := (Exit.exit 0)) (s := ⟨[(1, .ptr 1 0)], [(1, .lit 24 [.p (encL Row.cs r_.rows)])]⟩) rfl (by kernel_rfl) ?_
        refine Done.mk (inB_hit (thenQ_n ?_))
        refine awp_seq ?_
        refine bind_el h (fun n k6 h => ?_)
        refine awp_regionD Try_mixed (orcs := [(1, tV (pI n))]) (gs := [.keep [2] []]) (s' := ⟨[(2, pB (decide (n ≤ (600 : Int))))], []⟩) (by kernel_rfl) (holds_of ((UU ∧ (ASpec Try.prog 16 [.agg [.p (encL Row.cs r_.rows)]] [] (pI n) []) ∧ UU ∧ UU ∧ UU) ∧ (UU ∧ UU)) (by kernel_rfl) ⟨⟨TT, R18_Count_ok k6, TT, TT, TT⟩, ⟨TT, TT⟩⟩) ?_
        refine Done.mk (thenQ_n ?_)
        refine doneRet ?_
        refine Done.mk ?_
        obtain rfl := Option.some.inj h
        exact ⟨Or.inr rfl, by kernel_rfl, by kernel_rfl⟩
      · refine Done.as (e := Exit.ret) (s := ⟨[(2, pB false)], []⟩) rfl (by kernel_rfl) ?_
        refine Done.mk (inB_r (thenQ_r ?_))
        obtain rfl := Option.some.inj h
        exact ⟨Or.inr rfl, by kernel_rfl, by kernel_rfl⟩
end
end Go.AM
end
