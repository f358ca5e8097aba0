/- Proved: at every box the law RingwalkBoxes of the package additivelaw24 returns true, without a panic, and leaves its argument as it was. Conditions: those of the given statement alone. -/
import Derived.Test.YtijdlphadhpabaaProg
import Derived.Test.YtijdlphadhpabaaA1
import Derived.Test.YtijdlphadhpabaaA7
import Derived.Test.YtijdlphadhpabaaA4
import Derived.Test.YtijdlphadhpabaaA9
import Derived.Test.YtijdlphadhpabaaA3
import Derived.Test.YtijdlphadhpabaaA6
import Derived.Test.YtijdlphadhpabaaA8
import Derived.Test.YtijdlphadhpabaaA2
import Derived.Test.YtijdlphadhpabaaA5
import Derived.Test.YtijdlphadhpabaaF1
import Derived.Test.YtijdlphadhpabaaF2
import Derived.Test.YtijdlphadhpabaaF6
import Derived.Test.YtijdlphadhpabaaF7
import Derived.Test.YtijdlphadhpabaaP5
section
namespace Go.AM
open Go Go.RowKit Go.Proofs
noncomputable section
def L24_RingwalkBoxes_j1 (t0 : Box) : Option (Bool) :=
    ifB (decide (t0.x < (-1000 : Int)))
    (some true)
    (ifB (decide (t0.x > (1000 : Int)))
      (some true)
      (ifB (decide (t0.y < (-1000 : Int)))
        (some true)
        (some (decide (t0.y > (1000 : Int))))))
def L24_RingwalkBoxes_j2 (t0 : Box) : Option (Bool) :=
    ifB ((1 + (t0.w.tmod (30 : Int)) : Int) == (1 : Int))
    (some true)
    (some ((1 + (t0.h.tmod (30 : Int)) : Int) == (1 : Int)))
def L24_RingwalkBoxes_j3 (t0 : Box) : Option (Int) :=
    (L24_RingwalkBoxes_j2 t0).bind fun t46 =>
    ifB (t46)
    (chk (InR .i64 ((max (1 + (t0.w.tmod (30 : Int)) : Int) (1 + (t0.h.tmod (30 : Int)) : Int)) - 1 : Int))
      (chk (InR .i64 (2 * ((max (1 + (t0.w.tmod (30 : Int)) : Int) (1 + (t0.h.tmod (30 : Int)) : Int)) - 1) : Int))
      (some (max (1 : Int) (2 * ((max (1 + (t0.w.tmod (30 : Int)) : Int) (1 + (t0.h.tmod (30 : Int)) : Int)) - 1) : Int)))))
    (some ((2 * ((1 + (t0.w.tmod (30 : Int))) + (1 + (t0.h.tmod (30 : Int))))) - 4))
def L24_RingwalkBoxes_j4 (v1 : (List Track)) (t5 : Int) (t0 : Box) : Option (Bool) :=
    ifB ((v1.length : Int) == (1 : Int))
    ((getI v1 (0 : Int)).bind fun t =>
      ifB ((t.cells.length : Int) == t5)
      ((getI t.cells (0 : Int)).bind fun c =>
        ifB ((c.x == t0.x) && ((c.y == t0.y) && true))
        ((L24_awake).bind fun b1 =>
          some b1)
        (some false))
      (some false))
    (some false)
noncomputable def L24_RingwalkBoxes (t0 : Box) : Option Bool :=
  chk (InR .i64 (t0.w.tmod (30 : Int) : Int))
  (chk (InR .i64 (1 + (t0.w.tmod (30 : Int)) : Int))
  (chk (InR .i64 (t0.h.tmod (30 : Int) : Int))
  (chk (InR .i64 (1 + (t0.h.tmod (30 : Int)) : Int))
  ((L24_RingwalkBoxes_j1 t0).bind fun t34 =>
  ifB (t34)
  ((L24_awake).bind fun b =>
    some b)
  (chk (InR .i64 ((1 + (t0.w.tmod (30 : Int))) + (1 + (t0.h.tmod (30 : Int))) : Int))
    (chk (InR .i64 (2 * ((1 + (t0.w.tmod (30 : Int))) + (1 + (t0.h.tmod (30 : Int)))) : Int))
    (chk (InR .i64 ((2 * ((1 + (t0.w.tmod (30 : Int))) + (1 + (t0.h.tmod (30 : Int))))) - 4 : Int))
    ((L24_RingwalkBoxes_j3 t0).bind fun t5 =>
    (L24_box t0.x t0.y (1 + (t0.w.tmod (30 : Int))) (1 + (t0.h.tmod (30 : Int)))).bind fun v =>
    (ringwalk_Walk v).bind fun v1 =>
    (L24_RingwalkBoxes_j4 v1 t5 t0).bind fun t2 =>
    some t2))))))))
end
end Go.AM
end
section
namespace Go.AM
open Go Go.RowKit Go.Proofs
noncomputable section
set_option maxRecDepth 100000 in
set_option maxHeartbeats 4000000 in
theorem L24_RingwalkBoxes_ok {t0 : Box} {r : Bool} (h : L24_RingwalkBoxes t0 = some r) : ASpec Try.prog 4 [.agg [pI t0.x, pI t0.y, .p (.int .u8 t0.w), .p (.int .u8 t0.h)]] [] (pB r) [] := by
  refine aspec_of Try.func4 (c := _) rfl (by kernel_rfl) (by rw [Try.ntmps4]; exact Nat.le_of_ble_eq_true rfl) ?_
  refine awp_seq ?_
  refine awp_regionD Try_mixed (orcs := []) (gs := [.keep [1] [1]]) (s' := ⟨[(1, .ptr 1 0)], [(1, .lit 31 [pI t0.x, pI t0.y, .p (.int .u8 t0.w), .p (.int .u8 t0.h)])]⟩) (by kernel_rfl) (holds_of ((UU ∧ UU ∧ UU) ∧ (UU ∧ UU)) (by kernel_rfl) ⟨⟨TT, TT, TT⟩, ⟨TT, TT⟩⟩) ?_
  refine Done.mk (thenQ_n ?_)
  refine awp_seq ?_
  refine chk_el h (fun k1 h => ?_)
  refine chk_el h (fun k2 h => ?_)
  refine chk_el h (fun k3 h => ?_)
  refine chk_el h (fun k4 h => ?_)
  refine awp_regionD Try_mixed (orcs := []) (gs := [.keep [1, 3, 4] [1]]) (s' := ⟨[(1, .ptr 1 0), (3, pI (1 + (t0.w.tmod (30 : Int)))), (4, pI (1 + (t0.h.tmod (30 : Int))))], [(1, .lit 31 [pI t0.x, pI t0.y, .p (.int .u8 t0.w), .p (.int .u8 t0.h)])]⟩) (by kernel_rfl) (holds_of ((UU ∧ UU ∧ ((30 : Int) ≠ 0) ∧ (InR .i64 (t0.w.tmod (30 : Int) : Int)) ∧ (InR .i64 (1 + (t0.w.tmod (30 : Int)) : Int)) ∧ UU ∧ UU ∧ ((30 : Int) ≠ 0) ∧ (InR .i64 (t0.h.tmod (30 : Int) : Int)) ∧ (InR .i64 (1 + (t0.h.tmod (30 : Int)) : Int)) ∧ UU ∧ UU ∧ UU) ∧ (UU ∧ UU)) (by kernel_rfl) ⟨⟨TT, TT, by decide, k1, k2, TT, TT, by decide, k3, k4, TT, TT, TT⟩, ⟨TT, TT⟩⟩) ?_
  refine Done.mk (thenQ_n ?_)
  refine awp_seq ?_
  refine awp_seq ?_
  refine bind_el h (fun t34 hm h => ?_)
  refine awp_tail (fun _ => Exit.normal) (fun o => match o with | t34 => ⟨[(1, .ptr 1 0), (3, pI (1 + (t0.w.tmod (30 : Int)))), (4, pI (1 + (t0.h.tmod (30 : Int)))), (34, pB t34)], [(1, .lit 31 [pI t0.x, pI t0.y, .p (.int .u8 t0.w), .p (.int .u8 t0.h)])]⟩) hm (fun o h => ?_) ?_
  · refine ifB_el h (fun k5 h => ?_) (fun k5 h => ?_)
    · refine awp_regionD Try_mixed (orcs := [(3, tB true)]) (gs := [.keep [1, 3, 4, 34] [1]]) (s' := ⟨[(1, .ptr 1 0), (3, pI (1 + (t0.w.tmod (30 : Int)))), (4, pI (1 + (t0.h.tmod (30 : Int)))), (34, pB true)], [(1, .lit 31 [pI t0.x, pI t0.y, .p (.int .u8 t0.w), .p (.int .u8 t0.h)])]⟩) (by kernel_rfl) (holds_of ((UU ∧ UU ∧ UU ∧ ((UU ∧ some (pB (decide (t0.x < (-1000 : Int)))) = some (pB true))) ∧ UU ∧ UU ∧ UU ∧ UU ∧ UU ∧ UU) ∧ (UU ∧ UU)) (by kernel_rfl) ⟨⟨TT, TT, TT, ⟨TT, by rw [k5]⟩, TT, TT, TT, TT, TT, TT⟩, ⟨TT, TT⟩⟩) ?_
      refine Done.mk ?_
      obtain rfl := Option.some.inj h
      exact ⟨rfl, by kernel_rfl⟩
    · refine ifB_el h (fun k6 h => ?_) (fun k6 h => ?_)
      · refine awp_regionD Try_mixed (orcs := [(3, tB false), (8, tB true)]) (gs := [.keep [1, 3, 4, 34] [1]]) (s' := ⟨[(1, .ptr 1 0), (3, pI (1 + (t0.w.tmod (30 : Int)))), (4, pI (1 + (t0.h.tmod (30 : Int)))), (34, pB true)], [(1, .lit 31 [pI t0.x, pI t0.y, .p (.int .u8 t0.w), .p (.int .u8 t0.h)])]⟩) (by kernel_rfl) (holds_of ((UU ∧ UU ∧ UU ∧ ((UU ∧ some (pB (decide (t0.x < (-1000 : Int)))) = some (pB false))) ∧ UU ∧ UU ∧ UU ∧ UU ∧ ((UU ∧ some (pB (decide (t0.x > (1000 : Int)))) = some (pB true))) ∧ UU ∧ UU ∧ UU ∧ UU) ∧ (UU ∧ UU)) (by kernel_rfl) ⟨⟨TT, TT, TT, ⟨TT, by rw [k5]⟩, TT, TT, TT, TT, ⟨TT, by rw [k6]⟩, TT, TT, TT, TT⟩, ⟨TT, TT⟩⟩) ?_
        refine Done.mk ?_
        obtain rfl := Option.some.inj h
        exact ⟨rfl, by kernel_rfl⟩
      · refine ifB_el h (fun k7 h => ?_) (fun k7 h => ?_)
        · refine awp_regionD Try_mixed (orcs := [(3, tB false), (8, tB false), (13, tB true)]) (gs := [.keep [1, 3, 4, 34] [1]]) (s' := ⟨[(1, .ptr 1 0), (3, pI (1 + (t0.w.tmod (30 : Int)))), (4, pI (1 + (t0.h.tmod (30 : Int)))), (34, pB true)], [(1, .lit 31 [pI t0.x, pI t0.y, .p (.int .u8 t0.w), .p (.int .u8 t0.h)])]⟩) (by kernel_rfl) (holds_of ((UU ∧ UU ∧ UU ∧ ((UU ∧ some (pB (decide (t0.x < (-1000 : Int)))) = some (pB false))) ∧ UU ∧ UU ∧ UU ∧ UU ∧ ((UU ∧ some (pB (decide (t0.x > (1000 : Int)))) = some (pB false))) ∧ UU ∧ UU ∧ UU ∧ UU ∧ ((UU ∧ some (pB (decide (t0.y < (-1000 : Int)))) = some (pB true))) ∧ UU ∧ UU) ∧ (UU ∧ UU)) (by kernel_rfl) ⟨⟨TT, TT, TT, ⟨TT, by rw [k5]⟩, TT, TT, TT, TT, ⟨TT, by rw [k6]⟩, TT, TT, TT, TT, ⟨TT, by rw [k7]⟩, TT, TT⟩, ⟨TT, TT⟩⟩) ?_
          refine Done.mk ?_
          obtain rfl := Option.some.inj h
          exact ⟨rfl, by kernel_rfl⟩
        · refine awp_regionD Try_mixed (orcs := [(3, tB false), (8, tB false), (13, tB false)]) (gs := [.keep [1, 3, 4, 34] [1]]) (s' := ⟨[(1, .ptr 1 0), (3, pI (1 + (t0.w.tmod (30 : Int)))), (4, pI (1 + (t0.h.tmod (30 : Int)))), (34, pB (decide (t0.y > (1000 : Int))))], [(1, .lit 31 [pI t0.x, pI t0.y, .p (.int .u8 t0.w), .p (.int .u8 t0.h)])]⟩) (by kernel_rfl) (holds_of ((UU ∧ UU ∧ UU ∧ ((UU ∧ some (pB (decide (t0.x < (-1000 : Int)))) = some (pB false))) ∧ UU ∧ UU ∧ UU ∧ UU ∧ ((UU ∧ some (pB (decide (t0.x > (1000 : Int)))) = some (pB false))) ∧ UU ∧ UU ∧ UU ∧ UU ∧ ((UU ∧ some (pB (decide (t0.y < (-1000 : Int)))) = some (pB false))) ∧ UU ∧ UU ∧ UU ∧ UU ∧ UU) ∧ (UU ∧ UU)) (by kernel_rfl) ⟨⟨TT, TT, TT, ⟨TT, by rw [k5]⟩, TT, TT, TT, TT, ⟨TT, by rw [k6]⟩, TT, TT, TT, TT, ⟨TT, by rw [k7]⟩, TT, TT, TT, TT, TT⟩, ⟨TT, TT⟩⟩) ?_
          refine Done.mk ?_
          obtain rfl := Option.some.inj h
          exact ⟨rfl, by kernel_rfl⟩
  · have _ := hm
    refine Done.as (e := Exit.normal) (s := ⟨[(1, .ptr 1 0), (3, pI (1 + (t0.w.tmod (30 : Int)))), (4, pI (1 + (t0.h.tmod (30 : Int)))), (34, pB t34)], [(1, .lit 31 [pI t0.x, pI t0.y, .p (.int .u8 t0.w), .p (.int .u8 t0.h)])]⟩) rfl (by kernel_rfl) ?_
    refine Done.mk (thenQ_n ?_)
    refine ifB_el h (fun k8 h => ?_) (fun k8 h => ?_)
    · refine awp_cond_t (b := t34) (by kernel_rfl) k8 ?_
      refine awp_seq ?_
      refine bind_el h (fun b k9 h => ?_)
      refine awp_regionD Try_mixed (orcs := [(0, tV (pB b))]) (gs := [.keep [2] []]) (s' := ⟨[(2, pB b)], []⟩) (by kernel_rfl) (holds_of (((ASpec Try.prog 8 [] [] (pB b) []) ∧ UU ∧ UU) ∧ (UU ∧ UU)) (by kernel_rfl) ⟨⟨L24_awake_ok k9, TT, TT⟩, ⟨TT, TT⟩⟩) ?_
      refine Done.mk (thenQ_n ?_)
      refine doneRet ?_
      refine Done.mk (thenQ_r ?_)
      obtain rfl := Option.some.inj h
      exact ⟨Or.inr rfl, by kernel_rfl, by kernel_rfl⟩
    · refine awp_cond_f (b := t34) (by kernel_rfl) k8 ?_
      refine doneSkip ?_
      refine Done.mk (thenQ_n ?_)
      refine awp_seq ?_
      refine chk_el h (fun k10 h => ?_)
      refine chk_el h (fun k11 h => ?_)
      refine chk_el h (fun k12 h => ?_)
      refine awp_regionD Try_mixed (orcs := []) (gs := [.keep [1, 3, 4, 5] [1]]) (s' := ⟨[(1, .ptr 1 0), (3, pI (1 + (t0.w.tmod (30 : Int)))), (4, pI (1 + (t0.h.tmod (30 : Int)))), (5, pI ((2 * ((1 + (t0.w.tmod (30 : Int))) + (1 + (t0.h.tmod (30 : Int))))) - 4))], [(1, .lit 31 [pI t0.x, pI t0.y, .p (.int .u8 t0.w), .p (.int .u8 t0.h)])]⟩) (by kernel_rfl) (holds_of ((UU ∧ UU ∧ (InR .i64 ((1 + (t0.w.tmod (30 : Int))) + (1 + (t0.h.tmod (30 : Int))) : Int)) ∧ (InR .i64 (2 * ((1 + (t0.w.tmod (30 : Int))) + (1 + (t0.h.tmod (30 : Int)))) : Int)) ∧ (InR .i64 ((2 * ((1 + (t0.w.tmod (30 : Int))) + (1 + (t0.h.tmod (30 : Int))))) - 4 : Int)) ∧ UU ∧ UU) ∧ (UU ∧ UU)) (by kernel_rfl) ⟨⟨TT, TT, k10, k11, k12, TT, TT⟩, ⟨TT, TT⟩⟩) ?_
      refine Done.mk (thenQ_n ?_)
      refine awp_seq ?_
      refine bind_el h (fun t5 hm h => ?_)
      refine awp_tail (fun _ => Exit.normal) (fun o => match o with | t5 => ⟨[(1, .ptr 1 0), (3, pI (1 + (t0.w.tmod (30 : Int)))), (4, pI (1 + (t0.h.tmod (30 : Int)))), (5, pI t5)], [(1, .lit 31 [pI t0.x, pI t0.y, .p (.int .u8 t0.w), .p (.int .u8 t0.h)])]⟩) hm (fun o h => ?_) ?_
      · refine awp_seq ?_
        refine bind_el h (fun t46 hm h => ?_)
        refine awp_tail (fun _ => Exit.normal) (fun o => match o with | t46 => ⟨[(1, .ptr 1 0), (3, pI (1 + (t0.w.tmod (30 : Int)))), (4, pI (1 + (t0.h.tmod (30 : Int)))), (5, pI ((2 * ((1 + (t0.w.tmod (30 : Int))) + (1 + (t0.h.tmod (30 : Int))))) - 4)), (46, pB t46)], [(1, .lit 31 [pI t0.x, pI t0.y, .p (.int .u8 t0.w), .p (.int .u8 t0.h)])]⟩) hm (fun o h => ?_) ?_
        · refine ifB_el h (fun k13 h => ?_) (fun k13 h => ?_)
          · refine awp_regionD Try_mixed (orcs := [(2, tB true)]) (gs := [.keep [1, 3, 4, 5, 46] [1]]) (s' := ⟨[(1, .ptr 1 0), (3, pI (1 + (t0.w.tmod (30 : Int)))), (4, pI (1 + (t0.h.tmod (30 : Int)))), (5, pI ((2 * ((1 + (t0.w.tmod (30 : Int))) + (1 + (t0.h.tmod (30 : Int))))) - 4)), (46, pB true)], [(1, .lit 31 [pI t0.x, pI t0.y, .p (.int .u8 t0.w), .p (.int .u8 t0.h)])]⟩) (by kernel_rfl) (holds_of ((UU ∧ UU ∧ ((UU ∧ some (pB ((1 + (t0.w.tmod (30 : Int)) : Int) == (1 : Int))) = some (pB true))) ∧ UU ∧ UU) ∧ (UU ∧ UU)) (by kernel_rfl) ⟨⟨TT, TT, ⟨TT, by rw [k13]⟩, TT, TT⟩, ⟨TT, TT⟩⟩) ?_
            refine Done.mk ?_
            obtain rfl := Option.some.inj h
            exact ⟨rfl, by kernel_rfl⟩
          · refine awp_regionD Try_mixed (orcs := [(2, tB false)]) (gs := [.keep [1, 3, 4, 5, 46] [1]]) (s' := ⟨[(1, .ptr 1 0), (3, pI (1 + (t0.w.tmod (30 : Int)))), (4, pI (1 + (t0.h.tmod (30 : Int)))), (5, pI ((2 * ((1 + (t0.w.tmod (30 : Int))) + (1 + (t0.h.tmod (30 : Int))))) - 4)), (46, pB ((1 + (t0.h.tmod (30 : Int)) : Int) == (1 : Int)))], [(1, .lit 31 [pI t0.x, pI t0.y, .p (.int .u8 t0.w), .p (.int .u8 t0.h)])]⟩) (by kernel_rfl) (holds_of ((UU ∧ UU ∧ ((UU ∧ some (pB ((1 + (t0.w.tmod (30 : Int)) : Int) == (1 : Int))) = some (pB false))) ∧ UU ∧ UU ∧ UU ∧ UU) ∧ (UU ∧ UU)) (by kernel_rfl) ⟨⟨TT, TT, ⟨TT, by rw [k13]⟩, TT, TT, TT, TT⟩, ⟨TT, TT⟩⟩) ?_
            refine Done.mk ?_
            obtain rfl := Option.some.inj h
            exact ⟨rfl, by kernel_rfl⟩
        · have _ := hm
          refine Done.as (e := Exit.normal) (s := ⟨[(1, .ptr 1 0), (3, pI (1 + (t0.w.tmod (30 : Int)))), (4, pI (1 + (t0.h.tmod (30 : Int)))), (5, pI ((2 * ((1 + (t0.w.tmod (30 : Int))) + (1 + (t0.h.tmod (30 : Int))))) - 4)), (46, pB t46)], [(1, .lit 31 [pI t0.x, pI t0.y, .p (.int .u8 t0.w), .p (.int .u8 t0.h)])]⟩) rfl (by kernel_rfl) ?_
          refine Done.mk (thenQ_n ?_)
          refine ifB_el h (fun k14 h => ?_) (fun k14 h => ?_)
          · refine awp_cond_t (b := t46) (by kernel_rfl) k14 ?_
            refine chk_el h (fun k15 h => ?_)
            refine chk_el h (fun k16 h => ?_)
            refine awp_regionD Try_mixed (orcs := []) (gs := [.keep [1, 3, 4, 5] [1]]) (s' := ⟨[(1, .ptr 1 0), (3, pI (1 + (t0.w.tmod (30 : Int)))), (4, pI (1 + (t0.h.tmod (30 : Int)))), (5, pI (max (1 : Int) (2 * ((max (1 + (t0.w.tmod (30 : Int)) : Int) (1 + (t0.h.tmod (30 : Int)) : Int)) - 1) : Int)))], [(1, .lit 31 [pI t0.x, pI t0.y, .p (.int .u8 t0.w), .p (.int .u8 t0.h)])]⟩) (by kernel_rfl) (holds_of ((UU ∧ UU ∧ UU ∧ (InR .i64 ((max (1 + (t0.w.tmod (30 : Int)) : Int) (1 + (t0.h.tmod (30 : Int)) : Int)) - 1 : Int)) ∧ (InR .i64 (2 * ((max (1 + (t0.w.tmod (30 : Int)) : Int) (1 + (t0.h.tmod (30 : Int)) : Int)) - 1) : Int)) ∧ UU ∧ UU ∧ UU) ∧ (UU ∧ UU)) (by kernel_rfl) ⟨⟨TT, TT, TT, k15, k16, TT, TT, TT⟩, ⟨TT, TT⟩⟩) ?_
            refine Done.mk ?_
            obtain rfl := Option.some.inj h
            exact ⟨rfl, by kernel_rfl⟩
          · refine awp_cond_f (b := t46) (by kernel_rfl) k14 ?_
            refine doneSkip ?_
            refine Done.gh [.keep [1, 3, 4, 5] [1], .keep [1, 3, 4, 5] [1]] (s' := ⟨[(1, .ptr 1 0), (3, pI (1 + (t0.w.tmod (30 : Int)))), (4, pI (1 + (t0.h.tmod (30 : Int)))), (5, pI ((2 * ((1 + (t0.w.tmod (30 : Int))) + (1 + (t0.h.tmod (30 : Int))))) - 4))], [(1, .lit 31 [pI t0.x, pI t0.y, .p (.int .u8 t0.w), .p (.int .u8 t0.h)])]⟩) (by kernel_rfl) (holds_of (UU ∧ UU ∧ UU) (by kernel_rfl) ⟨TT, TT, TT⟩) ?_
            refine Done.mk ?_
            obtain rfl := Option.some.inj h
            exact ⟨rfl, by kernel_rfl⟩
      · have _ := hm
        refine Done.as (e := Exit.normal) (s := ⟨[(1, .ptr 1 0), (3, pI (1 + (t0.w.tmod (30 : Int)))), (4, pI (1 + (t0.h.tmod (30 : Int)))), (5, pI t5)], [(1, .lit 31 [pI t0.x, pI t0.y, .p (.int .u8 t0.w), .p (.int .u8 t0.h)])]⟩) rfl (by kernel_rfl) ?_
        refine Done.mk (thenQ_n ?_)
        refine awp_seq ?_
        refine bind_el h (fun v k17 h => ?_)
        refine bind_el h (fun v1 k18 h => ?_)
        refine awp_regionD Try_mixed (orcs := [(6, tV (.agg [.p (encL Row.cs v.rows)])), (7, tV (.p (encL Track.cs v1)))]) (gs := [.keep [1, 5, 6] [1]]) (s' := ⟨[(1, .ptr 1 0), (5, pI t5), (6, .p (encL Track.cs v1))], [(1, .lit 31 [pI t0.x, pI t0.y, .p (.int .u8 t0.w), .p (.int .u8 t0.h)])]⟩) (by kernel_rfl) (holds_of ((UU ∧ UU ∧ UU ∧ UU ∧ UU ∧ UU ∧ (ASpec Try.prog 12 [pI t0.x, pI t0.y, pI (1 + (t0.w.tmod (30 : Int))), pI (1 + (t0.h.tmod (30 : Int)))] [] (.agg [.p (encL Row.cs v.rows)]) []) ∧ (ASpec Try.prog 10 [.agg [.p (encL Row.cs v.rows)]] [] (.p (encL Track.cs v1)) []) ∧ UU ∧ UU) ∧ (UU ∧ UU)) (by kernel_rfl) ⟨⟨TT, TT, TT, TT, TT, TT, L24_box_ok k17, ringwalk_Walk_ok k18, TT, TT⟩, ⟨TT, TT⟩⟩) ?_
        refine Done.mk (thenQ_n ?_)
        refine awp_seq ?_
        refine bind_el h (fun t2 hm h => ?_)
        refine awp_tail (fun _ => Exit.normal) (fun o => match o with | t2 => ⟨[(2, pB t2)], []⟩) hm (fun o h => ?_) ?_
        · refine ifB_el h (fun k19 h => ?_) (fun k19 h => ?_)
          · refine bind_el h (fun t k20 h => ?_)
            replace k20 := getI_el k20
            refine ifB_el h (fun k21 h => ?_) (fun k21 h => ?_)
            · refine bind_el h (fun c k22 h => ?_)
              replace k22 := getI_el k22
              refine ifB_el h (fun k23 h => ?_) (fun k23 h => ?_)
              · refine bind_el h (fun b1 k24 h => ?_)
                refine awp_regionD Try_mixed (orcs := [(3, tB true), (7, tV (.p (encL Cell.cs t.cells))), (12, tB true), (16, tV (.p (encL Cell.cs t.cells))), (18, tV (.agg [pI c.x, pI c.y])), (26, tB true), (27, tV (pB b1))]) (gs := [.keep [2] []]) (s' := ⟨[(2, pB b1)], []⟩) (by kernel_rfl) (holds_of ((UU ∧ UU ∧ UU ∧ ((UU ∧ some (pB ((v1.length : Int) == (1 : Int))) = some (pB true))) ∧ UU ∧ ((0 ≤ (0 : Int) ∧ (0 : Int) < (v1.length : Int))) ∧ UU ∧ ((v1.flatMap Track.cs)[(0 : Int).toNat * 3 + 2]? = some (encL Cell.cs t.cells)) ∧ UU ∧ UU ∧ UU ∧ UU ∧ ((UU ∧ some (pB ((t.cells.length : Int) == t5)) = some (pB true))) ∧ UU ∧ ((0 ≤ (0 : Int) ∧ (0 : Int) < (v1.length : Int))) ∧ UU ∧ ((v1.flatMap Track.cs)[(0 : Int).toNat * 3 + 2]? = some (encL Cell.cs t.cells)) ∧ ((0 ≤ (0 : Int) ∧ (0 : Int) < (t.cells.length : Int))) ∧ (rowHas (t.cells.flatMap Cell.cs) ((0 : Int).toNat * 2) [pI c.x, pI c.y]) ∧ UU ∧ UU ∧ UU ∧ UU ∧ UU ∧ UU ∧ UU ∧ ((UU ∧ some (pB ((c.x == t0.x) && ((c.y == t0.y) && true))) = some (pB true))) ∧ (ASpec Try.prog 8 [] [] (pB b1) []) ∧ UU ∧ UU ∧ UU) ∧ (UU ∧ UU)) (by kernel_rfl) ⟨⟨TT, TT, TT, ⟨TT, by rw [k19]⟩, TT, k20.2, TT, row_at Track.cs_len k20.1 (j := 2) (by omega) (by decide), TT, TT, TT, TT, ⟨TT, by rw [k21]⟩, TT, k20.2, TT, row_at Track.cs_len k20.1 (j := 2) (by omega) (by decide), k22.2, row_has Cell.cs_len k22.1 (o := 0) (m := 2) (by omega) (by decide), TT, TT, TT, TT, TT, TT, TT, ⟨TT, by rw [k23]⟩, L24_awake_ok k24, TT, TT, TT⟩, ⟨TT, TT⟩⟩) ?_
                refine Done.mk ?_
                obtain rfl := Option.some.inj h
                exact ⟨rfl, by kernel_rfl⟩
              · refine awp_regionD Try_mixed (orcs := [(3, tB true), (7, tV (.p (encL Cell.cs t.cells))), (12, tB true), (16, tV (.p (encL Cell.cs t.cells))), (18, tV (.agg [pI c.x, pI c.y])), (26, tB false)]) (gs := [.keep [2] []]) (s' := ⟨[(2, pB false)], []⟩) (by kernel_rfl) (holds_of ((UU ∧ UU ∧ UU ∧ ((UU ∧ some (pB ((v1.length : Int) == (1 : Int))) = some (pB true))) ∧ UU ∧ ((0 ≤ (0 : Int) ∧ (0 : Int) < (v1.length : Int))) ∧ UU ∧ ((v1.flatMap Track.cs)[(0 : Int).toNat * 3 + 2]? = some (encL Cell.cs t.cells)) ∧ UU ∧ UU ∧ UU ∧ UU ∧ ((UU ∧ some (pB ((t.cells.length : Int) == t5)) = some (pB true))) ∧ UU ∧ ((0 ≤ (0 : Int) ∧ (0 : Int) < (v1.length : Int))) ∧ UU ∧ ((v1.flatMap Track.cs)[(0 : Int).toNat * 3 + 2]? = some (encL Cell.cs t.cells)) ∧ ((0 ≤ (0 : Int) ∧ (0 : Int) < (t.cells.length : Int))) ∧ (rowHas (t.cells.flatMap Cell.cs) ((0 : Int).toNat * 2) [pI c.x, pI c.y]) ∧ UU ∧ UU ∧ UU ∧ UU ∧ UU ∧ UU ∧ UU ∧ ((UU ∧ some (pB ((c.x == t0.x) && ((c.y == t0.y) && true))) = some (pB false))) ∧ UU ∧ UU ∧ UU) ∧ (UU ∧ UU)) (by kernel_rfl) ⟨⟨TT, TT, TT, ⟨TT, by rw [k19]⟩, TT, k20.2, TT, row_at Track.cs_len k20.1 (j := 2) (by omega) (by decide), TT, TT, TT, TT, ⟨TT, by rw [k21]⟩, TT, k20.2, TT, row_at Track.cs_len k20.1 (j := 2) (by omega) (by decide), k22.2, row_has Cell.cs_len k22.1 (o := 0) (m := 2) (by omega) (by decide), TT, TT, TT, TT, TT, TT, TT, ⟨TT, by rw [k23]⟩, TT, TT, TT⟩, ⟨TT, TT⟩⟩) ?_
                refine Done.mk ?_
                obtain rfl := Option.some.inj h
                exact ⟨rfl, by kernel_rfl⟩
            · refine awp_regionD Try_mixed (orcs := [(3, tB true), (7, tV (.p (encL Cell.cs t.cells))), (12, tB false)]) (gs := [.keep [2] []]) (s' := ⟨[(2, pB false)], []⟩) (by kernel_rfl) (holds_of ((UU ∧ UU ∧ UU ∧ ((UU ∧ some (pB ((v1.length : Int) == (1 : Int))) = some (pB true))) ∧ UU ∧ ((0 ≤ (0 : Int) ∧ (0 : Int) < (v1.length : Int))) ∧ UU ∧ ((v1.flatMap Track.cs)[(0 : Int).toNat * 3 + 2]? = some (encL Cell.cs t.cells)) ∧ UU ∧ UU ∧ UU ∧ UU ∧ ((UU ∧ some (pB ((t.cells.length : Int) == t5)) = some (pB false))) ∧ UU ∧ UU ∧ UU ∧ UU ∧ UU) ∧ (UU ∧ UU)) (by kernel_rfl) ⟨⟨TT, TT, TT, ⟨TT, by rw [k19]⟩, TT, k20.2, TT, row_at Track.cs_len k20.1 (j := 2) (by omega) (by decide), TT, TT, TT, TT, ⟨TT, by rw [k21]⟩, TT, TT, TT, TT, TT⟩, ⟨TT, TT⟩⟩) ?_
              refine Done.mk ?_
              obtain rfl := Option.some.inj h
              exact ⟨rfl, by kernel_rfl⟩
          · refine awp_regionD Try_mixed (orcs := [(3, tB false)]) (gs := [.keep [2] []]) (s' := ⟨[(2, pB false)], []⟩) (by kernel_rfl) (holds_of ((UU ∧ UU ∧ UU ∧ ((UU ∧ some (pB ((v1.length : Int) == (1 : Int))) = some (pB false))) ∧ UU ∧ UU ∧ UU ∧ UU ∧ UU ∧ UU ∧ UU) ∧ (UU ∧ UU)) (by kernel_rfl) ⟨⟨TT, TT, TT, ⟨TT, by rw [k19]⟩, TT, TT, TT, TT, TT, TT, TT⟩, ⟨TT, TT⟩⟩) ?_
            refine Done.mk ?_
            obtain rfl := Option.some.inj h
            exact ⟨rfl, by kernel_rfl⟩
        · have _ := hm
          refine Done.as (e := Exit.normal) (s := ⟨[(2, pB t2)], []⟩) rfl (by kernel_rfl) ?_
          refine Done.mk (thenQ_n ?_)
          refine doneRet ?_
          refine Done.mk ?_
          obtain rfl := Option.some.inj h
          exact ⟨Or.inr rfl, by kernel_rfl, by kernel_rfl⟩
end
end Go.AM
end
section
namespace Go.AM
open Go Go.RowKit Go.Proofs Go.Proofs.Ytijdlphadhpabaa Go.ChangeShapes Go.WideShapes
theorem rds_i4 {P : Program} {t : TypeId} {f0 f1 f2 f3 : Field} {i0 i1 i2 i3 : IntKind} (ht : P.underlying t = some (.struct #[f0, f1, f2, f3]))
    (h0 : Rds P f0.type (fun n : Int => [PV.int i0 n])) (h1 : Rds P f1.type (fun n : Int => [PV.int i1 n])) (h2 : Rds P f2.type (fun n : Int => [PV.int i2 n])) (h3 : Rds P f3.type (fun n : Int => [PV.int i3 n]))
    (ho0 : f0.offset = 0) (ho1 : f1.offset = 1) (ho2 : f2.offset = 2) (ho3 : f3.offset = 3)
    (hc0 : P.cellsOf f0.type = 1) (hc1 : P.cellsOf f1.type = 1) (hc2 : P.cellsOf f2.type = 1) (hc3 : P.cellsOf f3.type = 1) (hc : P.cellsOf t = 4) :
    Rds P t (fun x : Int × Int × Int × Int => [PV.int i0 x.1, PV.int i1 x.2.1, PV.int i2 x.2.2.1, PV.int i3 x.2.2.2]) := fun H enc W sp held n l y hy => by
  obtain ⟨xs, m, _, _, hl, hx, hf⟩ := DataW.trod_struct ht hy
  have q0 := hf 0 f0 rfl
  have q1 := hf 1 f1 rfl
  have q2 := hf 2 f2 rfl
  have q3 := hf 3 f3 rfl
  rw [List.getElem?_eq_getElem (by rw [hx]; exact Nat.le_of_ble_eq_true rfl)] at q0 q1 q2 q3
  rw [ho0, hc0] at q0
  rw [ho1, hc1] at q1
  rw [ho2, hc2] at q2
  rw [ho3, hc3] at q3
  obtain ⟨a, ha⟩ := h0 H enc W sp held m _ _ q0
  obtain ⟨b, hb⟩ := h1 H enc W sp held m _ _ q1
  obtain ⟨c, hc'⟩ := h2 H enc W sp held m _ _ q2
  obtain ⟨d, hd⟩ := h3 H enc W sp held m _ _ q3
  refine ⟨(a, b, c, d), by simp only [List.length_cons, List.length_nil]; omega, fun j p hp => ?_⟩
  match j, hp with
  | 0, hp => exact piece ha 0 p hp
  | 1, hp => exact piece hb 0 p hp
  | 2, hp => exact piece hc' 0 p hp
  | 3, hp => exact piece hd 0 p hp
theorem rdBox : Rds Try.prog 31 Box.cs := (rds_i4 Try.underlying31 (rds_int Try.underlying3) (rds_int Try.underlying3) (rds_int Try.underlying5) (rds_int Try.underlying5) rfl rfl rfl rfl (by kernel_rfl) (by kernel_rfl) (by kernel_rfl) (by kernel_rfl) (by kernel_rfl)).map (fun x => Box.mk x.1 x.2.1 x.2.2.1 x.2.2.2) (fun _ => rfl)
structure Box.Ok (b : Box) : Prop where
  x : In64 b.x
  y : In64 b.y
  w : 0 ≤ b.w ∧ b.w ≤ 255
  h : 0 ≤ b.h ∧ b.h ≤ 255
theorem Box.ok_vr {φ : Phi} {F : Nat → Prop} {W : World} {b : Box} {v : Value} (h : VR φ F W (.agg (b.cs.map AV.p)) v) : b.Ok := by
  obtain ⟨us, _, h1, _⟩ := h
  rw [Box.cs, List.map_cons, VRs] at h1
  obtain ⟨_, _, _, q0, h1⟩ := h1
  rw [List.map_cons, VRs] at h1
  obtain ⟨_, _, _, q1, h1⟩ := h1
  rw [List.map_cons, VRs] at h1
  obtain ⟨_, _, _, q2, h1⟩ := h1
  rw [List.map_cons, VRs] at h1
  obtain ⟨_, _, _, q3, _⟩ := h1
  exact ⟨POk.i64 (RV.ok q0), POk.i64 (RV.ok q1), POk.u8 (RV.ok q2), POk.u8 (RV.ok q3)⟩
set_option maxRecDepth 100000 in
theorem boxes_contract (hT : ∀ r : Box, r.Ok → L24_RingwalkBoxes r = some true) (H : Type) (enc : TypeId × Value → H) (W : World) (base : Nat) (args : Array Value) (ds gs : List (DataW H)) (before : List MemPlace)
    (hval : ∀ (j : Nat) t v, Try.f4.params[j]? = some t → args[j]? = some v → Value.okWide Try.prog W .any base t v)
    (hW : DataW.Whole enc Try.prog Try.f4.params.toList Rows.ringwalkBoxesSpec.vars false W args.toList ds gs before) :
    Calls Try.prog 4 args W fun e W' => ∃ v, e = .returned v ∧ Rows.ringwalkBoxesSpec.post enc Try.prog Try.f4 false true false false W args v W' := by
  have hW' := hW
  obtain ⟨p, q, hA0, hV, rfl, hfz, hnd⟩ := hW
  have hA : DataW.TrodAll enc Try.prog W 0 (fun _ => true) true Try.f4.params.toList args.toList ds p := hA0
  rw [Try.params4] at hA hval
  obtain ⟨v0, vs0, d0, ds0, p0, q0, hargs, rfl, rfl, h0, r0⟩ := trodAll_cons hA
  obtain ⟨rfl, rfl, rfl⟩ := trodAll_nil r0
  obtain rfl : args = #[v0] := by cases args; simp_all
  obtain ⟨r, hr⟩ := vr_agg (φ := fun _ => none) rdBox Try.underlying31 (hval 0 31 v0 rfl rfl) h0
  refine (law_calls (L24_RingwalkBoxes_ok (hT r (Box.ok_vr hr))) W (vs := [v0]) (by rw [VRs]; exact ⟨_, _, rfl, hr, by rw [VRs]⟩)).mono ?_
  rintro e W' ⟨rfl, hb⟩
  exact ⟨_, rfl, law_post Try_laid Try.underlying4 rfl rfl (by decide +kernel) hW' rfl rfl rfl hb⟩
set_option maxRecDepth 100000 in
theorem boxes_lifted (hT : ∀ r : Box, r.Ok → L24_RingwalkBoxes r = some true) (os : Os) (started : os.Started) (H : Type) (enc : TypeId × Value → H) :
    ReturnsInHanded {} Try.checked os 4 .any (Rows.ringwalkBoxesSpec.pre6 enc Try.prog Try.f4 Rows.ringwalkBoxesRow.domain false) (Rows.ringwalkBoxesSpec.post enc Try.prog Try.f4 false true false false) := by
  refine returnsInHanded_of_change (C := Try.checked) Try_own started (by kernel_rfl) Try.func4
    (ChangeSpec.witness6 (enc := enc) (C := Try.checked) false ⟨#[], #[.agg #[.int .i64 0, .int .i64 0, .int .u8 0, .int .u8 0]], []⟩ 8 (by kernel_rfl) (by kernel_rfl) (by kernel_rfl) (by kernel_rfl)) ?_
  intro W base args ds gs before hval hW _ _
  exact boxes_contract hT H enc W base args ds gs before hval hW
theorem boxes_row (hT : ∀ r : Box, r.Ok → L24_RingwalkBoxes r = some true) : Rows.RingwalkBoxesSaid :=
  OpenClaim.holds_of_wide 4 Try.f4 rfl rfl rfl rfl rfl rfl rfl ⟨rfl, rfl, rfl, rfl, rfl⟩ rfl rfl rfl rfl rfl (by kernel_rfl) Try.func4 (by kernel_rfl)
    (of_decide_eq_true (by kernel_rfl)) (by unfold Func.isWrapper; first | (rw [if_pos (by decide +kernel)]; kernel_rfl) | (rw [if_neg (by decide +kernel)]; exact ⟨rfl, rfl⟩))
    (fun os started H enc _ => boxes_lifted hT os started H enc)
end Go.AM
end
section
namespace Go.AM
open Go
noncomputable section
/-- What the walk keeps of a stretch of cells, each unlike the one ahead. -/
theorem seg_dd {f : Nat → Cell} {acc : List Cell} (ha : acc.getLast? = some (f 0)) : ∀ k, (∀ i, i < k → f i ≠ f (i + 1)) → (((List.range (k + 1)).map f).foldl adc acc).length = acc.length + k ∧ (((List.range (k + 1)).map f).foldl adc acc).getLast? = some (f k) ∧ (((List.range (k + 1)).map f).foldl adc acc).head? = acc.head?
  | 0, _ => by
    have : ((List.range (0 + 1)).map f).foldl adc acc = acc := by
      show adc acc (f 0) = acc
      unfold adc; rw [if_pos ha]
    rw [this]; exact ⟨rfl, ha, rfl⟩
  | k + 1, h => by
    obtain ⟨h1, h2, h3⟩ := seg_dd ha k fun i hi => h i (by omega)
    have e : ((List.range (k + 1 + 1)).map f).foldl adc acc = ((List.range (k + 1)).map f).foldl adc acc ++ [f (k + 1)] := by
      rw [List.range_succ, List.map_append, List.foldl_append]
      show adc _ (f (k + 1)) = _
      unfold adc
      rw [if_neg]
      unfold adc at h2
      rw [h2]
      intro e
      exact h k (by omega) (Option.some.inj e)
    rw [e]
    refine ⟨by rw [List.length_append, h1]; simp; omega, by simp, ?_⟩
    rw [List.head?_append, h3]
    cases acc with
    | nil => simp at ha
    | cons a l => rfl
theorem ddl_first {f : Nat → Cell} (k : Nat) : ((List.range (k + 1)).map f).foldl adc [] = ((List.range (k + 1)).map f).foldl adc [f 0] := by
  rw [List.range_succ_eq_map, List.map_cons, List.foldl_cons, List.foldl_cons]
  have h1 : adc [] (f 0) = [f 0] := by unfold adc; rw [if_neg (by simp)]; rfl
  have h2 : adc [f 0] (f 0) = [f 0] := by unfold adc; exact if_pos rfl
  rw [h1, h2]
theorem box_ring (x y : Int) (n m : Nat) : let l := trim (ddl ((List.range (2 * (n + 1 + (m + 1)))).map fun i => lcell (bpos x y (n + 1) (m + 1) i)))
    l.length = max 1 (2 * (n + 1 + (m + 1)) - 4) ∧ l[0]? = some ⟨x, y⟩ := by
  intro l
  have hL : (List.range (2 * (n + 1 + (m + 1)))).map (fun i => lcell (bpos x y (n + 1) (m + 1) i)) = (List.range (n + 1)).map (fun i : Nat => (⟨x + i, y⟩ : Cell)) ++ (List.range (m + 1)).map (fun i : Nat => (⟨x + n, y + i⟩ : Cell)) ++ (List.range (n + 1)).map (fun i : Nat => (⟨x + n - i, y + m⟩ : Cell)) ++ (List.range (m + 1)).map (fun i : Nat => (⟨x, y + m - i⟩ : Cell)) := by
    rw [show 2 * (n + 1 + (m + 1)) = n + 1 + (m + 1) + (n + 1) + (m + 1) by omega, List.range_add, List.range_add, List.range_add]
    simp only [List.map_append, List.map_map]
    congr 1
    · congr 1
      · congr 1
        · refine List.map_congr_left fun i hi => ?_
          rw [List.mem_range] at hi
          unfold bpos
          rw [if_pos hi]; rfl
        · refine List.map_congr_left fun i hi => ?_
          rw [List.mem_range] at hi
          simp only [Function.comp]
          unfold bpos
          rw [if_neg (by omega), if_pos (by omega)]
          simp [lcell]; omega
      · refine List.map_congr_left fun i hi => ?_
        rw [List.mem_range] at hi
        simp only [Function.comp]
        unfold bpos
        rw [if_neg (by omega), if_neg (by omega), if_pos (by omega)]
        simp [lcell]; omega
    · refine List.map_congr_left fun i hi => ?_
      rw [List.mem_range] at hi
      simp only [Function.comp]
      unfold bpos
      rw [if_neg (by omega), if_neg (by omega), if_neg (by omega)]
      simp [lcell]; omega
  have hd : ∃ r, ddl ((List.range (2 * (n + 1 + (m + 1)))).map fun i => lcell (bpos x y (n + 1) (m + 1) i)) = r ∧ r.length = 1 + n + m + n + m ∧ r.getLast? = some ⟨x, y⟩ ∧ r.head? = some ⟨x, y⟩ := by
    rw [hL]
    unfold ddl
    rw [List.foldl_append, List.foldl_append, List.foldl_append, ddl_first]
    have a := seg_dd (f := fun i : Nat => (⟨x + i, y⟩ : Cell)) (acc := [⟨x + (0 : Nat), y⟩]) rfl n (fun i _ e => by simp only [Cell.mk.injEq] at e; omega)
    generalize ((List.range (n + 1)).map (fun i : Nat => (⟨x + i, y⟩ : Cell))).foldl adc [⟨x + (0 : Nat), y⟩] = A at a
    have b := seg_dd (f := fun i : Nat => (⟨x + n, y + i⟩ : Cell)) (acc := A) (by rw [a.2.1]; simp) m (fun i _ e => by simp only [Cell.mk.injEq] at e; omega)
    generalize ((List.range (m + 1)).map (fun i : Nat => (⟨x + n, y + i⟩ : Cell))).foldl adc A = B at b
    have c := seg_dd (f := fun i : Nat => (⟨x + n - i, y + m⟩ : Cell)) (acc := B) (by rw [b.2.1]; simp) n (fun i _ e => by simp only [Cell.mk.injEq] at e; omega)
    generalize ((List.range (n + 1)).map (fun i : Nat => (⟨x + n - i, y + m⟩ : Cell))).foldl adc B = C at c
    have d := seg_dd (f := fun i : Nat => (⟨x, y + m - i⟩ : Cell)) (acc := C) (by rw [c.2.1]; simp) m (fun i _ e => by simp only [Cell.mk.injEq] at e; omega)
    refine ⟨_, rfl, ?_, ?_, ?_⟩
    · rw [d.1, c.1, b.1, a.1]; rfl
    · rw [d.2.1]; simp
    · rw [d.2.2, c.2.2, b.2.2, a.2.2]; simp
  obtain ⟨r, h1, h2, h3, h4⟩ := hd
  have hl : l = trim r := by show trim _ = _; rw [h1]
  rw [hl]
  unfold trim
  by_cases hn : n + m = 0
  · rw [if_neg (by omega)]
    refine ⟨by omega, ?_⟩
    rw [List.head?_eq_getElem?] at h4; exact h4
  · rw [if_pos ⟨by omega, by rw [h3, h4]⟩]
    refine ⟨by rw [List.length_dropLast]; omega, ?_⟩
    rw [List.head?_eq_getElem?] at h4
    rw [List.getElem?_dropLast, if_pos (by omega)]; exact h4
theorem RingwalkBoxes_true (t : Box) (ht : t.Ok) : L24_RingwalkBoxes t = some true := by
  obtain ⟨tx, ty, tw, th⟩ := t
  obtain ⟨hx, hy, hw, hh⟩ := ht
  simp only at hx hy hw hh
  obtain ⟨n, bw, ew⟩ : ∃ n : Nat, n < 30 ∧ tw.tmod 30 = n := ⟨tw.toNat % 30, Nat.mod_lt _ (by omega), by rw [Int.tmod_eq_emod_of_nonneg hw.1]; omega⟩
  obtain ⟨m, bh, eh⟩ : ∃ n : Nat, n < 30 ∧ th.tmod 30 = n := ⟨th.toNat % 30, Nat.mod_lt _ (by omega), by rw [Int.tmod_eq_emod_of_nonneg hh.1]; omega⟩
  refine Ret.eq ?_
  unfold L24_RingwalkBoxes
  simp only [ew, eh]
  refine Ret.chk (inR (by omega) (by omega)) (Ret.chk (inR (by omega) (by omega)) (Ret.chk (inR (by omega) (by omega)) (Ret.chk (inR (by omega) (by omega)) ?_)))
  refine Ret.bind (Q' := fun b => b = decide (tx < -1000 ∨ tx > 1000 ∨ ty < -1000 ∨ ty > 1000)) ?_ (fun b hb => ?_)
  · unfold L24_RingwalkBoxes_j1
    simp only
    refine Ret.ifB (fun h => Ret.mk ?_) (fun h => Ret.ifB (fun h2 => Ret.mk ?_) (fun h2 => Ret.ifB (fun h3 => Ret.mk ?_) (fun h3 => Ret.mk ?_))) <;> simp only [decide_eq_true_eq, decide_eq_false_iff_not] at * <;> simp [*]
  · subst hb
    refine Ret.ifB (fun h => ?_) (fun h => ?_)
    · exact Ret.bindE awake_eq (Ret.mk rfl)
    · rw [decide_eq_false_iff_not] at h
      refine Ret.chk (inR (by omega) (by omega)) (Ret.chk (inR (by omega) (by omega)) (Ret.chk (inR (by omega) (by omega)) ?_))
      have hwant : L24_RingwalkBoxes_j3 ⟨tx, ty, tw, th⟩ = some ((max 1 (2 * (n + 1 + (m + 1)) - 4) : Nat) : Int) := by
        refine Ret.eq ?_
        unfold L24_RingwalkBoxes_j3 L24_RingwalkBoxes_j2
        simp only [ew, eh]
        refine Ret.bind (Q' := fun b => b = decide (n = 0 ∨ m = 0)) ?_ (fun b hb => ?_)
        · refine Ret.ifB (fun h => Ret.mk ?_) (fun h => Ret.mk ?_)
          · rw [beq_iff_eq] at h
            rw [eq_comm, decide_eq_true_eq]; omega
          · rw [beq_eq_false_iff_ne] at h
            rw [Bool.eq_iff_iff, beq_iff_eq, decide_eq_true_eq]; omega
        · subst hb
          refine Ret.ifB (fun h => ?_) (fun h => ?_)
          · rw [decide_eq_true_eq] at h
            exact Ret.chk (inR (by omega) (by omega)) (Ret.chk (inR (by omega) (by omega)) (Ret.mk (by omega)))
          · rw [decide_eq_false_iff_not] at h
            exact Ret.mk (by omega)
      refine Ret.bindE hwant ?_
      have e1 := box_eq tx ty (n + 1) (m + 1) (by omega) (by omega) (by omega) (by omega)
      have e2 := box_walk (x := tx) (y := ty) (w := n + 1) (h := m + 1) (by omega) (by omega) (by omega) (by omega) (by omega) (by omega) (by omega)
      have e3 := box_ring tx ty n m
      rw [show ((n + 1 : Nat) : Int) = 1 + (n : Int) by omega, show ((m + 1 : Nat) : Int) = 1 + (m : Int) by omega] at e1
      refine Ret.bindE e1 (Ret.bindE e2 ?_)
      refine Ret.bindE (x := true) ?_ (Ret.mk rfl)
      simp only at e3
      generalize trim (ddl ((List.range (2 * (n + 1 + (m + 1)))).map fun i => lcell (bpos tx ty (n + 1) (m + 1) i))) = l at e3
      refine Ret.eq ?_
      unfold L24_RingwalkBoxes_j4
      refine Ret.ifT rfl (Ret.bindE (getI_some rfl rfl) (Ret.ifT (by simp only; rw [e3.1, beq_self_eq_true]) (Ret.bindE (getI_some (k := 0) rfl e3.2) (Ret.ifT (by simp) (Ret.bindE awake_eq (Ret.mk rfl))))))
end
end Go.AM
end
section
namespace Go.Proofs.Ytijdlphadhpabaa
theorem boxes_holds : Rows.RingwalkBoxesSaid := Go.AM.boxes_row Go.AM.RingwalkBoxes_true
end Go.Proofs.Ytijdlphadhpabaa
end
