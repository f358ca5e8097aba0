/- Models of functions, and that their calls do what the models say. Printed by gen.py. -/
import Derived.Test.YtijdlphadhpabaaProg
import Derived.Test.YtijdlphadhpabaaF1
section
namespace Go.AM
open Go Go.RowKit Go.Proofs
noncomputable section
def track_Valid_j1 (t0 : Track) : Option (Bool) :=
    ifB (decide (t0.role < (1 : Int)))
    (some true)
    (ifB (decide (t0.role > (7 : Int)))
      (some true)
      (ifB (decide ((t0.cells.length : Int) < (1 : Int)))
        (some true)
        (some (decide ((t0.cells.length : Int) > (65536 : Int))))))
def track_Valid_j2 (c : Cell) (t28 : Int) (t0 : Track) : Option (Bool) :=
    (track_onGrid c).bind fun b =>
    ifB (!b)
    (some true)
    (ifB (decide (t28 > (0 : Int)))
      (chk (InR .i64 (t28 - 1 : Int))
        ((getI t0.cells (t28 - 1 : Int)).bind fun c1 =>
        (track_neighbors c1 c).bind fun b1 =>
        some (!b1)))
      (some false))
def track_Valid_l3 (t0 : Track) (s : Int) : Option ((Int) ⊕ ((Unit) ⊕ (Unit))) :=
  match s with
  | t28 =>
    ifB (decide (t28 < (t0.cells.length : Int)))
    ((getI t0.cells t28).bind fun c =>
      (track_Valid_j2 c t28 t0).bind fun t50 =>
      ifB (t50)
      (some (.inr (.inr ())))
      (chk (InR .i64 (t28 + 1 : Int))
        (some (.inl (t28 + 1)))))
    (some (.inr (.inl ())))
def track_Valid_j4 (t0 : Track) : Option (Bool) :=
    ifB (!t0.closed)
    (some true)
    (ifB ((t0.cells.length : Int) == (1 : Int))
      (some true)
      (chk (InR .i64 (((t0.cells.length : Int)) - 1 : Int))
        ((getI t0.cells (((t0.cells.length : Int)) - 1 : Int)).bind fun c2 =>
        (getI t0.cells (0 : Int)).bind fun c3 =>
        (track_neighbors c2 c3).bind fun b2 =>
        some b2)))
noncomputable def track_Valid (t0 : Track) : Option Bool :=
  (track_Valid_j1 t0).bind fun t24 =>
  ifB (t24)
  (some false)
  ((loopP (track_Valid_l3 t0) 0).bind fun o => match o with
    | .inl _ => (track_Valid_j4 t0).bind fun t2 =>
      some t2
    | .inr _ => some false)
set_option maxRecDepth 100000 in
set_option maxHeartbeats 4000000 in
theorem track_Valid_ok {t0 : Track} {r : Bool} (h : track_Valid t0 = some r) : ASpec Try.prog 13 [.agg [pI t0.role, pB t0.closed, .p (encL Cell.cs t0.cells)]] [] (pB r) [] := by
  refine aspec_of Try.func13 (c := _) rfl (by kernel_rfl) (by rw [Try.ntmps13]; exact Nat.le_of_ble_eq_true rfl) ?_
  refine awp_seq ?_
  refine awp_regionD Try_mixed (orcs := []) (gs := [.keep [1] [1]]) (s' := ⟨[(1, .ptr 1 0)], [(1, .lit 35 [pI t0.role, pB t0.closed, .p (encL Cell.cs t0.cells)])]⟩) (by kernel_rfl) (holds_of ((UU ∧ UU ∧ UU) ∧ (UU ∧ UU)) (by kernel_rfl) ⟨⟨TT, TT, TT⟩, ⟨TT, TT⟩⟩) ?_
  refine Done.mk (thenQ_n ?_)
  refine awp_seq ?_
  refine awp_regionD Try_mixed (orcs := []) (gs := [.keep [1, 3] [1]]) (s' := ⟨[(1, .ptr 1 0), (3, pI ((t0.cells.length : Int)))], [(1, .lit 35 [pI t0.role, pB t0.closed, .p (encL Cell.cs t0.cells)])]⟩) (by kernel_rfl) (holds_of ((UU ∧ UU ∧ UU ∧ UU ∧ UU) ∧ (UU ∧ UU)) (by kernel_rfl) ⟨⟨TT, TT, TT, TT, TT⟩, ⟨TT, TT⟩⟩) ?_
  refine Done.mk (thenQ_n ?_)
  refine awp_seq ?_
  refine awp_seq ?_
  refine bind_el h (fun t24 hm h => ?_)
  refine awp_tail (fun _ => Exit.normal) (fun o => match o with | t24 => ⟨[(1, .ptr 1 0), (3, pI ((t0.cells.length : Int))), (24, pB t24)], [(1, .lit 35 [pI t0.role, pB t0.closed, .p (encL Cell.cs t0.cells)])]⟩) hm (fun o h => ?_) ?_
  · refine ifB_el h (fun k1 h => ?_) (fun k1 h => ?_)
    · refine awp_regionD Try_mixed (orcs := [(3, tB true)]) (gs := [.keep [1, 3, 24] [1]]) (s' := ⟨[(1, .ptr 1 0), (3, pI ((t0.cells.length : Int))), (24, pB true)], [(1, .lit 35 [pI t0.role, pB t0.closed, .p (encL Cell.cs t0.cells)])]⟩) (by kernel_rfl) (holds_of ((UU ∧ UU ∧ UU ∧ ((UU ∧ some (pB (decide (t0.role < (1 : Int)))) = some (pB true))) ∧ UU ∧ UU ∧ UU ∧ UU ∧ UU ∧ UU) ∧ (UU ∧ UU)) (by kernel_rfl) ⟨⟨TT, TT, TT, ⟨TT, by rw [k1]⟩, TT, TT, TT, TT, TT, TT⟩, ⟨TT, TT⟩⟩) ?_
      refine Done.mk ?_
      obtain rfl := Option.some.inj h
      exact ⟨rfl, by kernel_rfl⟩
    · refine ifB_el h (fun k2 h => ?_) (fun k2 h => ?_)
      · refine awp_regionD Try_mixed (orcs := [(3, tB false), (8, tB true)]) (gs := [.keep [1, 3, 24] [1]]) (s' := ⟨[(1, .ptr 1 0), (3, pI ((t0.cells.length : Int))), (24, pB true)], [(1, .lit 35 [pI t0.role, pB t0.closed, .p (encL Cell.cs t0.cells)])]⟩) (by kernel_rfl) (holds_of ((UU ∧ UU ∧ UU ∧ ((UU ∧ some (pB (decide (t0.role < (1 : Int)))) = some (pB false))) ∧ UU ∧ UU ∧ UU ∧ UU ∧ ((UU ∧ some (pB (decide (t0.role > (7 : Int)))) = some (pB true))) ∧ UU ∧ UU ∧ UU ∧ UU) ∧ (UU ∧ UU)) (by kernel_rfl) ⟨⟨TT, TT, TT, ⟨TT, by rw [k1]⟩, TT, TT, TT, TT, ⟨TT, by rw [k2]⟩, TT, TT, TT, TT⟩, ⟨TT, TT⟩⟩) ?_
        refine Done.mk ?_
        obtain rfl := Option.some.inj h
        exact ⟨rfl, by kernel_rfl⟩
      · refine ifB_el h (fun k3 h => ?_) (fun k3 h => ?_)
        · refine awp_regionD Try_mixed (orcs := [(3, tB false), (8, tB false), (12, tB true)]) (gs := [.keep [1, 3, 24] [1]]) (s' := ⟨[(1, .ptr 1 0), (3, pI ((t0.cells.length : Int))), (24, pB true)], [(1, .lit 35 [pI t0.role, pB t0.closed, .p (encL Cell.cs t0.cells)])]⟩) (by kernel_rfl) (holds_of ((UU ∧ UU ∧ UU ∧ ((UU ∧ some (pB (decide (t0.role < (1 : Int)))) = some (pB false))) ∧ UU ∧ UU ∧ UU ∧ UU ∧ ((UU ∧ some (pB (decide (t0.role > (7 : Int)))) = some (pB false))) ∧ UU ∧ UU ∧ UU ∧ ((UU ∧ some (pB (decide ((t0.cells.length : Int) < (1 : Int)))) = some (pB true))) ∧ UU ∧ UU) ∧ (UU ∧ UU)) (by kernel_rfl) ⟨⟨TT, TT, TT, ⟨TT, by rw [k1]⟩, TT, TT, TT, TT, ⟨TT, by rw [k2]⟩, TT, TT, TT, ⟨TT, by rw [k3]⟩, TT, TT⟩, ⟨TT, TT⟩⟩) ?_
          refine Done.mk ?_
          obtain rfl := Option.some.inj h
          exact ⟨rfl, by kernel_rfl⟩
        · refine awp_regionD Try_mixed (orcs := [(3, tB false), (8, tB false), (12, tB false)]) (gs := [.keep [1, 3, 24] [1]]) (s' := ⟨[(1, .ptr 1 0), (3, pI ((t0.cells.length : Int))), (24, pB (decide ((t0.cells.length : Int) > (65536 : Int))))], [(1, .lit 35 [pI t0.role, pB t0.closed, .p (encL Cell.cs t0.cells)])]⟩) (by kernel_rfl) (holds_of ((UU ∧ UU ∧ UU ∧ ((UU ∧ some (pB (decide (t0.role < (1 : Int)))) = some (pB false))) ∧ UU ∧ UU ∧ UU ∧ UU ∧ ((UU ∧ some (pB (decide (t0.role > (7 : Int)))) = some (pB false))) ∧ UU ∧ UU ∧ UU ∧ ((UU ∧ some (pB (decide ((t0.cells.length : Int) < (1 : Int)))) = some (pB false))) ∧ UU ∧ UU ∧ UU ∧ UU) ∧ (UU ∧ UU)) (by kernel_rfl) ⟨⟨TT, TT, TT, ⟨TT, by rw [k1]⟩, TT, TT, TT, TT, ⟨TT, by rw [k2]⟩, TT, TT, TT, ⟨TT, by rw [k3]⟩, TT, TT, TT, TT⟩, ⟨TT, TT⟩⟩) ?_
          refine Done.mk ?_
          obtain rfl := Option.some.inj h
          exact ⟨rfl, by kernel_rfl⟩
  · have _ := hm
    refine Done.as (e := Exit.normal) (s := ⟨[(1, .ptr 1 0), (3, pI ((t0.cells.length : Int))), (24, pB t24)], [(1, .lit 35 [pI t0.role, pB t0.closed, .p (encL Cell.cs t0.cells)])]⟩) rfl (by kernel_rfl) ?_
    refine Done.mk (thenQ_n ?_)
    refine ifB_el h (fun k4 h => ?_) (fun k4 h => ?_)
    · refine awp_cond_t (b := t24) (by kernel_rfl) k4 ?_
      refine awp_seq ?_
      refine awp_regionD Try_mixed (orcs := []) (gs := [.keep [2] []]) (s' := ⟨[(2, pB false)], []⟩) (by kernel_rfl) (holds_of ((UU ∧ UU) ∧ (UU ∧ UU)) (by kernel_rfl) ⟨⟨TT, TT⟩, ⟨TT, TT⟩⟩) ?_
      refine Done.mk (thenQ_n ?_)
      refine doneRet ?_
      refine Done.mk (thenQ_r ?_)
      obtain rfl := Option.some.inj h
      exact ⟨Or.inr rfl, by kernel_rfl, by kernel_rfl⟩
    · refine awp_cond_f (b := t24) (by kernel_rfl) k4 ?_
      refine doneSkip ?_
      refine Done.mk (thenQ_n ?_)
      refine awp_seq ?_
      refine awp_seq ?_
      refine awp_regionD Try_mixed (orcs := []) (gs := [.keep [1, 3, 26, 27, 28] [1]]) (s' := ⟨[(1, .ptr 1 0), (3, pI ((t0.cells.length : Int))), (26, .p (encL Cell.cs t0.cells)), (27, pI ((t0.cells.length : Int))), (28, pI 0)], [(1, .lit 35 [pI t0.role, pB t0.closed, .p (encL Cell.cs t0.cells)])]⟩) (by kernel_rfl) (holds_of ((UU ∧ UU ∧ UU ∧ UU ∧ UU) ∧ (UU ∧ UU)) (by kernel_rfl) ⟨⟨TT, TT, TT, TT, TT⟩, ⟨TT, TT⟩⟩) ?_
      refine Done.mk (thenQ_n ?_)
      refine awp_block ?_
      refine bind_el h (fun o hm h => ?_)
      refine awp_gh [.keep [1, 3, 26, 27, 28] [1], .keep [1, 3, 26, 27, 28] [1]] (s' := ⟨[(1, .ptr 1 0), (3, pI ((t0.cells.length : Int))), (26, .p (encL Cell.cs t0.cells)), (27, pI ((t0.cells.length : Int))), (28, pI 0)], [(1, .lit 35 [pI t0.role, pB t0.closed, .p (encL Cell.cs t0.cells)])]⟩) (by kernel_rfl) (holds_of (UU ∧ UU ∧ UU) (by kernel_rfl) ⟨TT, TT, TT⟩) ?_
      refine awp_tail (fun o => match o with | .inl _ => (Exit.exit 0) | .inr _ => Exit.ret) (fun o => match o with | .inl _ => ⟨[(1, .ptr 1 0), (3, pI ((t0.cells.length : Int)))], [(1, .lit 35 [pI t0.role, pB t0.closed, .p (encL Cell.cs t0.cells)])]⟩ | .inr _ => ⟨[(2, pB false)], []⟩) hm (fun o h => ?_) ?_
      · refine awp_loop' (fun s => match s with | t28 => ⟨[(1, .ptr 1 0), (3, pI ((t0.cells.length : Int))), (26, .p (encL Cell.cs t0.cells)), (27, pI ((t0.cells.length : Int))), (28, pI t28)], [(1, .lit 35 [pI t0.role, pB t0.closed, .p (encL Cell.cs t0.cells)])]⟩) h (by kernel_rfl) (fun t28 out h => ?_)
        refine awp_seq ?_
        refine awp_regionD Try_mixed (orcs := []) (gs := [.keep [1, 3, 26, 27, 28, 29] [1]]) (s' := ⟨[(1, .ptr 1 0), (3, pI ((t0.cells.length : Int))), (26, .p (encL Cell.cs t0.cells)), (27, pI ((t0.cells.length : Int))), (28, pI t28), (29, pB (decide (t28 < (t0.cells.length : Int))))], [(1, .lit 35 [pI t0.role, pB t0.closed, .p (encL Cell.cs t0.cells)])]⟩) (by kernel_rfl) (holds_of ((UU ∧ UU) ∧ (UU ∧ UU)) (by kernel_rfl) ⟨⟨TT, TT⟩, ⟨TT, TT⟩⟩) ?_
        refine Done.mk (thenQ_n ?_)
        refine awp_seq ?_
        refine ifB_el h (fun k5 h => ?_) (fun k5 h => ?_)
        · refine awp_cond_t (b := decide (t28 < (t0.cells.length : Int))) (by kernel_rfl) k5 ?_
          refine doneSkip ?_
          refine Done.mk (thenQ_n ?_)
          refine awp_seq ?_
          refine awp_block ?_
          refine awp_seq ?_
          refine bind_el h (fun c k6 h => ?_)
          replace k6 := getI_el k6
          refine awp_regionD Try_mixed (orcs := [(2, tV (.agg [pI c.x, pI c.y]))]) (gs := [.keep [1, 3, 4, 5, 26, 27, 28] [1, 5]]) (s' := ⟨[(1, .ptr 1 0), (3, pI ((t0.cells.length : Int))), (4, pI t28), (5, .ptr 5 0), (26, .p (encL Cell.cs t0.cells)), (27, pI ((t0.cells.length : Int))), (28, pI t28)], [(1, .lit 35 [pI t0.role, pB t0.closed, .p (encL Cell.cs t0.cells)]), (5, .lit 37 [pI c.x, pI c.y])]⟩) (by kernel_rfl) (holds_of ((UU ∧ ((0 ≤ t28 ∧ t28 < (t0.cells.length : Int))) ∧ (rowHas (t0.cells.flatMap Cell.cs) (t28.toNat * 2) [pI c.x, pI c.y]) ∧ UU ∧ UU ∧ UU ∧ UU) ∧ (UU ∧ UU)) (by kernel_rfl) ⟨⟨TT, k6.2, row_has Cell.cs_len k6.1 (o := 0) (m := 2) (by omega) (by decide), TT, TT, TT, TT⟩, ⟨TT, TT⟩⟩) ?_
          refine Done.mk (thenQ_n ?_)
          refine awp_seq ?_
          refine bind_el h (fun t50 hm h => ?_)
          refine awp_tail (fun _ => Exit.normal) (fun o => match o with | t50 => ⟨[(1, .ptr 1 0), (3, pI ((t0.cells.length : Int))), (26, .p (encL Cell.cs t0.cells)), (27, pI ((t0.cells.length : Int))), (28, pI t28), (50, pB t50)], [(1, .lit 35 [pI t0.role, pB t0.closed, .p (encL Cell.cs t0.cells)])]⟩) hm (fun o h => ?_) ?_
          · refine bind_el h (fun b k7 h => ?_)
            refine ifB_el h (fun k8 h => ?_) (fun k8 h => ?_)
            · refine awp_regionD Try_mixed (orcs := [(1, tV (pB b)), (3, tB true)]) (gs := [.keep [1, 3, 26, 27, 28, 50] [1]]) (s' := ⟨[(1, .ptr 1 0), (3, pI ((t0.cells.length : Int))), (26, .p (encL Cell.cs t0.cells)), (27, pI ((t0.cells.length : Int))), (28, pI t28), (50, pB true)], [(1, .lit 35 [pI t0.role, pB t0.closed, .p (encL Cell.cs t0.cells)])]⟩) (by kernel_rfl) (holds_of ((UU ∧ (ASpec Try.prog 22 [.agg [pI c.x, pI c.y]] [] (pB b) []) ∧ UU ∧ ((UU ∧ some (pB (!b)) = some (pB true))) ∧ UU ∧ UU) ∧ (UU ∧ UU)) (by kernel_rfl) ⟨⟨TT, track_onGrid_ok k7, TT, ⟨TT, by rw [k8]⟩, TT, TT⟩, ⟨TT, TT⟩⟩) ?_
              refine Done.mk ?_
              obtain rfl := Option.some.inj h
              exact ⟨rfl, by kernel_rfl⟩
            · refine ifB_el h (fun k9 h => ?_) (fun k9 h => ?_)
              · refine chk_el h (fun k10 h => ?_)
                refine bind_el h (fun c1 k11 h => ?_)
                replace k11 := getI_el k11
                refine bind_el h (fun b1 k12 h => ?_)
                refine awp_regionD Try_mixed (orcs := [(1, tV (pB b)), (3, tB false), (6, tB true), (12, tV (.agg [pI c1.x, pI c1.y])), (14, tV (pB b1))]) (gs := [.keep [1, 3, 26, 27, 28, 50] [1]]) (s' := ⟨[(1, .ptr 1 0), (3, pI ((t0.cells.length : Int))), (26, .p (encL Cell.cs t0.cells)), (27, pI ((t0.cells.length : Int))), (28, pI t28), (50, pB (!b1))], [(1, .lit 35 [pI t0.role, pB t0.closed, .p (encL Cell.cs t0.cells)])]⟩) (by kernel_rfl) (holds_of ((UU ∧ (ASpec Try.prog 22 [.agg [pI c.x, pI c.y]] [] (pB b) []) ∧ UU ∧ ((UU ∧ some (pB (!b)) = some (pB false))) ∧ UU ∧ UU ∧ ((UU ∧ some (pB (decide (t28 > (0 : Int)))) = some (pB true))) ∧ UU ∧ UU ∧ UU ∧ (InR .i64 (t28 - 1 : Int)) ∧ ((0 ≤ (t28 - 1 : Int) ∧ (t28 - 1 : Int) < (t0.cells.length : Int))) ∧ (rowHas (t0.cells.flatMap Cell.cs) ((t28 - 1 : Int).toNat * 2) [pI c1.x, pI c1.y]) ∧ UU ∧ (ASpec Try.prog 23 [.agg [pI c1.x, pI c1.y], .agg [pI c.x, pI c.y]] [] (pB b1) []) ∧ UU ∧ UU ∧ UU ∧ UU) ∧ (UU ∧ UU)) (by kernel_rfl) ⟨⟨TT, track_onGrid_ok k7, TT, ⟨TT, by rw [k8]⟩, TT, TT, ⟨TT, by rw [k9]⟩, TT, TT, TT, k10, k11.2, row_has Cell.cs_len k11.1 (o := 0) (m := 2) (by omega) (by decide), TT, track_neighbors_ok k12, TT, TT, TT, TT⟩, ⟨TT, TT⟩⟩) ?_
                refine Done.mk ?_
                obtain rfl := Option.some.inj h
                exact ⟨rfl, by kernel_rfl⟩
              · refine awp_regionD Try_mixed (orcs := [(1, tV (pB b)), (3, tB false), (6, tB false)]) (gs := [.keep [1, 3, 26, 27, 28, 50] [1]]) (s' := ⟨[(1, .ptr 1 0), (3, pI ((t0.cells.length : Int))), (26, .p (encL Cell.cs t0.cells)), (27, pI ((t0.cells.length : Int))), (28, pI t28), (50, pB false)], [(1, .lit 35 [pI t0.role, pB t0.closed, .p (encL Cell.cs t0.cells)])]⟩) (by kernel_rfl) (holds_of ((UU ∧ (ASpec Try.prog 22 [.agg [pI c.x, pI c.y]] [] (pB b) []) ∧ UU ∧ ((UU ∧ some (pB (!b)) = some (pB false))) ∧ UU ∧ UU ∧ ((UU ∧ some (pB (decide (t28 > (0 : Int)))) = some (pB false))) ∧ UU ∧ UU ∧ UU) ∧ (UU ∧ UU)) (by kernel_rfl) ⟨⟨TT, track_onGrid_ok k7, TT, ⟨TT, by rw [k8]⟩, TT, TT, ⟨TT, by rw [k9]⟩, TT, TT, TT⟩, ⟨TT, TT⟩⟩) ?_
                refine Done.mk ?_
                obtain rfl := Option.some.inj h
                exact ⟨rfl, by kernel_rfl⟩
          · have _ := hm
            refine Done.as (e := Exit.normal) (s := ⟨[(1, .ptr 1 0), (3, pI ((t0.cells.length : Int))), (26, .p (encL Cell.cs t0.cells)), (27, pI ((t0.cells.length : Int))), (28, pI t28), (50, pB t50)], [(1, .lit 35 [pI t0.role, pB t0.closed, .p (encL Cell.cs t0.cells)])]⟩) rfl (by kernel_rfl) ?_
            refine Done.mk (thenQ_n ?_)
            refine ifB_el h (fun k13 h => ?_) (fun k13 h => ?_)
            · refine awp_cond_t (b := t50) (by kernel_rfl) k13 ?_
              refine awp_seq ?_
              refine awp_regionD Try_mixed (orcs := []) (gs := [.keep [2] []]) (s' := ⟨[(2, pB false)], []⟩) (by kernel_rfl) (holds_of ((UU ∧ UU) ∧ (UU ∧ UU)) (by kernel_rfl) ⟨⟨TT, TT⟩, ⟨TT, TT⟩⟩) ?_
              refine Done.mk (thenQ_n ?_)
              refine doneRet ?_
              refine Done.mk (inB_r (thenQ_r ?_))
              obtain rfl := Option.some.inj h
              exact ⟨fun q => (by cases q), fun q => (by subst q; exact ⟨rfl, by kernel_rfl⟩)⟩
            · refine awp_cond_f (b := t50) (by kernel_rfl) k13 ?_
              refine doneSkip ?_
              refine Done.mk (inB_n (thenQ_n ?_))
              refine chk_el h (fun k14 h => ?_)
              refine awp_regionD Try_mixed (orcs := []) (gs := [.keep [1, 3, 26, 27, 28] [1]]) (s' := ⟨[(1, .ptr 1 0), (3, pI ((t0.cells.length : Int))), (26, .p (encL Cell.cs t0.cells)), (27, pI ((t0.cells.length : Int))), (28, pI (t28 + 1))], [(1, .lit 35 [pI t0.role, pB t0.closed, .p (encL Cell.cs t0.cells)])]⟩) (by kernel_rfl) (holds_of (((InR .i64 (t28 + 1 : Int)) ∧ UU ∧ UU) ∧ (UU ∧ UU)) (by kernel_rfl) ⟨⟨k14, TT, TT⟩, ⟨TT, TT⟩⟩) ?_
              refine Done.mk ?_
              obtain rfl := Option.some.inj h
              exact ⟨rfl, by kernel_rfl⟩
        · refine awp_cond_f (b := decide (t28 < (t0.cells.length : Int))) (by kernel_rfl) k5 ?_
          refine doneExit ?_
          refine Done.gh [.keep [1, 3] [1], .keep [1, 3] [1]] (s' := ⟨[(1, .ptr 1 0), (3, pI ((t0.cells.length : Int)))], [(1, .lit 35 [pI t0.role, pB t0.closed, .p (encL Cell.cs t0.cells)])]⟩) (by kernel_rfl) (holds_of (UU ∧ UU ∧ UU) (by kernel_rfl) ⟨TT, TT, TT⟩) ?_
          refine Done.mk (thenQ_x ?_)
          obtain rfl := Option.some.inj h
          exact ⟨fun q => (by cases q), fun q => (by subst q; exact ⟨rfl, by kernel_rfl⟩)⟩
      · rcases o with _u | _u
        · refine Done.as (e := (Exit.exit 0)) (s := ⟨[(1, .ptr 1 0), (3, pI ((t0.cells.length : Int)))], [(1, .lit 35 [pI t0.role, pB t0.closed, .p (encL Cell.cs t0.cells)])]⟩) rfl (by kernel_rfl) ?_
          refine Done.mk (inB_hit (thenQ_n ?_))
          refine awp_seq ?_
          refine bind_el h (fun t2 hm h => ?_)
          refine awp_tail (fun _ => Exit.normal) (fun o => match o with | t2 => ⟨[(2, pB t2)], []⟩) hm (fun o h => ?_) ?_
          · refine ifB_el h (fun k15 h => ?_) (fun k15 h => ?_)
            · refine awp_regionD Try_mixed (orcs := [(3, tB true)]) (gs := [.keep [2] []]) (s' := ⟨[(2, pB true)], []⟩) (by kernel_rfl) (holds_of ((UU ∧ UU ∧ UU ∧ ((UU ∧ some (pB (!t0.closed)) = some (pB true))) ∧ UU ∧ UU ∧ UU ∧ UU ∧ UU) ∧ (UU ∧ UU)) (by kernel_rfl) ⟨⟨TT, TT, TT, ⟨TT, by rw [k15]⟩, TT, TT, TT, TT, TT⟩, ⟨TT, TT⟩⟩) ?_
              refine Done.mk ?_
              obtain rfl := Option.some.inj h
              exact ⟨rfl, by kernel_rfl⟩
            · refine ifB_el h (fun k16 h => ?_) (fun k16 h => ?_)
              · refine awp_regionD Try_mixed (orcs := [(3, tB false), (7, tB true)]) (gs := [.keep [2] []]) (s' := ⟨[(2, pB true)], []⟩) (by kernel_rfl) (holds_of ((UU ∧ UU ∧ UU ∧ ((UU ∧ some (pB (!t0.closed)) = some (pB false))) ∧ UU ∧ UU ∧ UU ∧ ((UU ∧ some (pB ((t0.cells.length : Int) == (1 : Int))) = some (pB true))) ∧ UU ∧ UU ∧ UU) ∧ (UU ∧ UU)) (by kernel_rfl) ⟨⟨TT, TT, TT, ⟨TT, by rw [k15]⟩, TT, TT, TT, ⟨TT, by rw [k16]⟩, TT, TT, TT⟩, ⟨TT, TT⟩⟩) ?_
                refine Done.mk ?_
                obtain rfl := Option.some.inj h
                exact ⟨rfl, by kernel_rfl⟩
              · refine chk_el h (fun k17 h => ?_)
                refine bind_el h (fun c2 k18 h => ?_)
                replace k18 := getI_el k18
                refine bind_el h (fun c3 k19 h => ?_)
                replace k19 := getI_el k19
                refine bind_el h (fun b2 k20 h => ?_)
                refine awp_regionD Try_mixed (orcs := [(3, tB false), (7, tB false), (13, tV (.agg [pI c2.x, pI c2.y])), (17, tV (.agg [pI c3.x, pI c3.y])), (18, tV (pB b2))]) (gs := [.keep [2] []]) (s' := ⟨[(2, pB b2)], []⟩) (by kernel_rfl) (holds_of ((UU ∧ UU ∧ UU ∧ ((UU ∧ some (pB (!t0.closed)) = some (pB false))) ∧ UU ∧ UU ∧ UU ∧ ((UU ∧ some (pB ((t0.cells.length : Int) == (1 : Int))) = some (pB false))) ∧ UU ∧ UU ∧ UU ∧ (InR .i64 (((t0.cells.length : Int)) - 1 : Int)) ∧ ((0 ≤ (((t0.cells.length : Int)) - 1 : Int) ∧ (((t0.cells.length : Int)) - 1 : Int) < (t0.cells.length : Int))) ∧ (rowHas (t0.cells.flatMap Cell.cs) ((((t0.cells.length : Int)) - 1 : Int).toNat * 2) [pI c2.x, pI c2.y]) ∧ UU ∧ UU ∧ ((0 ≤ (0 : Int) ∧ (0 : Int) < (t0.cells.length : Int))) ∧ (rowHas (t0.cells.flatMap Cell.cs) ((0 : Int).toNat * 2) [pI c3.x, pI c3.y]) ∧ (ASpec Try.prog 23 [.agg [pI c2.x, pI c2.y], .agg [pI c3.x, pI c3.y]] [] (pB b2) []) ∧ UU ∧ UU ∧ UU) ∧ (UU ∧ UU)) (by kernel_rfl) ⟨⟨TT, TT, TT, ⟨TT, by rw [k15]⟩, TT, TT, TT, ⟨TT, by rw [k16]⟩, TT, TT, TT, k17, k18.2, row_has Cell.cs_len k18.1 (o := 0) (m := 2) (by omega) (by decide), TT, TT, k19.2, row_has Cell.cs_len k19.1 (o := 0) (m := 2) (by omega) (by decide), track_neighbors_ok k20, TT, TT, TT⟩, ⟨TT, TT⟩⟩) ?_
                refine Done.mk ?_
                obtain rfl := Option.some.inj h
                exact ⟨rfl, by kernel_rfl⟩
          · have _ := hm
            refine Done.as (e := Exit.normal) (s := ⟨[(2, pB t2)], []⟩) rfl (by kernel_rfl) ?_
            refine Done.mk (thenQ_n ?_)
            refine doneRet ?_
            refine Done.mk ?_
            obtain rfl := Option.some.inj h
            exact ⟨Or.inr rfl, by kernel_rfl, by kernel_rfl⟩
        · refine Done.as (e := Exit.ret) (s := ⟨[(2, pB false)], []⟩) rfl (by kernel_rfl) ?_
          refine Done.mk (inB_r (thenQ_r ?_))
          obtain rfl := Option.some.inj h
          exact ⟨Or.inr rfl, by kernel_rfl, by kernel_rfl⟩
end
end Go.AM
end
section
namespace Go.AM
open Go Go.RowKit Go.Proofs
noncomputable section
noncomputable def ringwalk_sign (n : Int) : Option Int :=
  ifB (decide (n > (0 : Int)))
  (some 1)
  (ifB (decide (n < (0 : Int)))
    (some (-1))
    (some 0))
set_option maxRecDepth 100000 in
set_option maxHeartbeats 4000000 in
theorem ringwalk_sign_ok {n : Int} {r : Int} (h : ringwalk_sign n = some r) : ASpec Try.prog 55 [pI n] [] (pI r) [] := by
  refine aspec_of Try.func55 (c := _) rfl (by kernel_rfl) (by rw [Try.ntmps55]; exact Nat.le_of_ble_eq_true rfl) ?_
  refine awp_seq ?_
  refine awp_regionD Try_mixed (orcs := []) (gs := [.keep [0] []]) (s' := ⟨[(0, pI n)], []⟩) (by kernel_rfl) (holds_of ((UU ∧ UU) ∧ (UU ∧ UU)) (by kernel_rfl) ⟨⟨TT, TT⟩, ⟨TT, TT⟩⟩) ?_
  refine Done.mk (thenQ_n ?_)
  refine awp_seq ?_
  refine awp_block ?_
  refine awp_seq ?_
  refine awp_regionD Try_mixed (orcs := []) (gs := [.keep [0, 3] []]) (s' := ⟨[(0, pI n), (3, pB (decide (n > (0 : Int))))], []⟩) (by kernel_rfl) (holds_of ((UU ∧ UU ∧ UU ∧ UU) ∧ (UU ∧ UU)) (by kernel_rfl) ⟨⟨TT, TT, TT, TT⟩, ⟨TT, TT⟩⟩) ?_
  refine Done.mk (thenQ_n ?_)
  refine ifB_el h (fun k1 h => ?_) (fun k1 h => ?_)
  · refine awp_cond_t (b := decide (n > (0 : Int))) (by kernel_rfl) k1 ?_
    refine awp_seq ?_
    refine awp_regionD Try_mixed (orcs := []) (gs := [.keep [2] []]) (s' := ⟨[(2, pI 1)], []⟩) (by kernel_rfl) (holds_of ((UU ∧ UU) ∧ (UU ∧ UU)) (by kernel_rfl) ⟨⟨TT, TT⟩, ⟨TT, TT⟩⟩) ?_
    refine Done.mk (thenQ_n ?_)
    refine doneRet ?_
    refine Done.mk (inB_r (thenQ_r ?_))
    obtain rfl := Option.some.inj h
    exact ⟨Or.inr rfl, by kernel_rfl, by kernel_rfl⟩
  · refine awp_cond_f (b := decide (n > (0 : Int))) (by kernel_rfl) k1 ?_
    refine awp_seq ?_
    refine awp_regionD Try_mixed (orcs := []) (gs := [.keep [6] []]) (s' := ⟨[(6, pB (decide (n < (0 : Int))))], []⟩) (by kernel_rfl) (holds_of ((UU ∧ UU ∧ UU ∧ UU) ∧ (UU ∧ UU)) (by kernel_rfl) ⟨⟨TT, TT, TT, TT⟩, ⟨TT, TT⟩⟩) ?_
    refine Done.mk (thenQ_n ?_)
    refine ifB_el h (fun k2 h => ?_) (fun k2 h => ?_)
    · refine awp_cond_t (b := decide (n < (0 : Int))) (by kernel_rfl) k2 ?_
      refine awp_seq ?_
      refine awp_regionD Try_mixed (orcs := []) (gs := [.keep [2] []]) (s' := ⟨[(2, pI (-1))], []⟩) (by kernel_rfl) (holds_of ((UU ∧ UU) ∧ (UU ∧ UU)) (by kernel_rfl) ⟨⟨TT, TT⟩, ⟨TT, TT⟩⟩) ?_
      refine Done.mk (thenQ_n ?_)
      refine doneRet ?_
      refine Done.mk (inB_r (thenQ_r ?_))
      obtain rfl := Option.some.inj h
      exact ⟨Or.inr rfl, by kernel_rfl, by kernel_rfl⟩
    · refine awp_cond_f (b := decide (n < (0 : Int))) (by kernel_rfl) k2 ?_
      refine doneSkip ?_
      refine Done.mk (inB_n (thenQ_n ?_))
      refine awp_seq ?_
      refine awp_regionD Try_mixed (orcs := []) (gs := [.keep [2] []]) (s' := ⟨[(2, pI 0)], []⟩) (by kernel_rfl) (holds_of ((UU ∧ UU) ∧ (UU ∧ UU)) (by kernel_rfl) ⟨⟨TT, TT⟩, ⟨TT, TT⟩⟩) ?_
      refine Done.mk (thenQ_n ?_)
      refine doneRet ?_
      refine Done.mk ?_
      obtain rfl := Option.some.inj h
      exact ⟨Or.inr rfl, by kernel_rfl, by kernel_rfl⟩
end
end Go.AM
end
section
namespace Go.AM
open Go Go.RowKit Go.Proofs
noncomputable section
noncomputable def ringwalk_direction (a : Pt) (b : Pt) : Option Pt :=
  chk (InR .i64 (b.x - a.x : Int))
  ((ringwalk_sign (b.x - a.x)).bind fun n =>
  chk (InR .i64 (b.y - a.y : Int))
  ((ringwalk_sign (b.y - a.y)).bind fun n1 =>
  some (Pt.mk n n1)))
set_option maxRecDepth 100000 in
set_option maxHeartbeats 4000000 in
theorem ringwalk_direction_ok {a : Pt} {b : Pt} {r : Pt} (h : ringwalk_direction a b = some r) : ASpec Try.prog 34 [.agg [pI a.x, pI a.y], .agg [pI b.x, pI b.y]] [] (.agg [pI r.x, pI r.y]) [] := by
  refine aspec_of Try.func34 (c := _) rfl (by kernel_rfl) (by rw [Try.ntmps34]; exact Nat.le_of_ble_eq_true rfl) ?_
  refine awp_seq ?_
  refine awp_regionD Try_mixed (orcs := []) (gs := [.keep [2, 3, 4] [2, 3, 4]]) (s' := ⟨[(2, .ptr 2 0), (3, .ptr 3 0), (4, .ptr 4 0)], [(2, .lit 63 [pI a.x, pI a.y]), (3, .lit 63 [pI b.x, pI b.y]), (4, .lit 63 [pI 0, pI 0])]⟩) (by kernel_rfl) (holds_of ((UU ∧ UU ∧ UU ∧ UU) ∧ (UU ∧ UU)) (by kernel_rfl) ⟨⟨TT, TT, TT, TT⟩, ⟨TT, TT⟩⟩) ?_
  refine Done.mk (thenQ_n ?_)
  refine awp_seq ?_
  refine chk_el h (fun k1 h => ?_)
  refine bind_el h (fun n k2 h => ?_)
  refine chk_el h (fun k3 h => ?_)
  refine bind_el h (fun n1 k4 h => ?_)
  refine awp_regionD Try_mixed (orcs := [(5, tV (pI n)), (11, tV (pI n1))]) (gs := [.keep [4] [4]]) (s' := ⟨[(4, .ptr 4 0)], [(4, .lit 63 [pI n, pI n1])]⟩) (by kernel_rfl) (holds_of ((UU ∧ UU ∧ UU ∧ UU ∧ (InR .i64 (b.x - a.x : Int)) ∧ (ASpec Try.prog 55 [pI (b.x - a.x)] [] (pI n) []) ∧ UU ∧ UU ∧ UU ∧ UU ∧ (InR .i64 (b.y - a.y : Int)) ∧ (ASpec Try.prog 55 [pI (b.y - a.y)] [] (pI n1) []) ∧ UU ∧ UU ∧ UU) ∧ (UU ∧ UU)) (by kernel_rfl) ⟨⟨TT, TT, TT, TT, k1, ringwalk_sign_ok k2, TT, TT, TT, TT, k3, ringwalk_sign_ok k4, TT, TT, TT⟩, ⟨TT, TT⟩⟩) ?_
  refine Done.mk (thenQ_n ?_)
  refine doneRet ?_
  refine Done.mk ?_
  obtain rfl := Option.some.inj h
  exact ⟨Or.inr rfl, by kernel_rfl, by kernel_rfl⟩
end
end Go.AM
end
section
namespace Go.AM
open Go Go.RowKit Go.Proofs
noncomputable section
noncomputable def ringwalk_left (p_ : Pt) (d : Pt) : Option Cell :=
  ifB ((d.x == (1 : Int)) && ((d.y == (0 : Int)) && true))
  (some (Cell.mk p_.x p_.y))
  (ifB ((d.x == (0 : Int)) && ((d.y == (1 : Int)) && true))
    (chk (InR .i64 (p_.x - 1 : Int))
      (some (Cell.mk (p_.x - 1) p_.y)))
    (ifB ((d.x == (-1 : Int)) && ((d.y == (0 : Int)) && true))
      (chk (InR .i64 (p_.x - 1 : Int))
        (chk (InR .i64 (p_.y - 1 : Int))
        (some (Cell.mk (p_.x - 1) (p_.y - 1)))))
      (chk (InR .i64 (p_.y - 1 : Int))
        (some (Cell.mk p_.x (p_.y - 1))))))
set_option maxRecDepth 100000 in
set_option maxHeartbeats 4000000 in
theorem ringwalk_left_ok {p_ : Pt} {d : Pt} {r : Cell} (h : ringwalk_left p_ d = some r) : ASpec Try.prog 36 [.agg [pI p_.x, pI p_.y], .agg [pI d.x, pI d.y]] [] (.agg [pI r.x, pI r.y]) [] := by
  refine aspec_of Try.func36 (c := _) rfl (by kernel_rfl) (by rw [Try.ntmps36]; exact Nat.le_of_ble_eq_true rfl) ?_
  refine awp_seq ?_
  refine awp_regionD Try_mixed (orcs := []) (gs := [.keep [2, 3, 4] [2, 3, 4]]) (s' := ⟨[(2, .ptr 2 0), (3, .ptr 3 0), (4, .ptr 4 0)], [(2, .lit 63 [pI p_.x, pI p_.y]), (3, .lit 63 [pI d.x, pI d.y]), (4, .lit 37 [pI 0, pI 0])]⟩) (by kernel_rfl) (holds_of ((UU ∧ UU ∧ UU ∧ UU) ∧ (UU ∧ UU)) (by kernel_rfl) ⟨⟨TT, TT, TT, TT⟩, ⟨TT, TT⟩⟩) ?_
  refine Done.mk (thenQ_n ?_)
  refine awp_seq ?_
  refine awp_seq ?_
  refine awp_regionD Try_mixed (orcs := []) (gs := [.keep [2, 4, 5] [2, 4]]) (s' := ⟨[(2, .ptr 2 0), (4, .ptr 4 0), (5, .agg [pI d.x, pI d.y])], [(2, .lit 63 [pI p_.x, pI p_.y]), (4, .lit 37 [pI 0, pI 0])]⟩) (by kernel_rfl) (holds_of ((UU ∧ UU) ∧ (UU ∧ UU)) (by kernel_rfl) ⟨⟨TT, TT⟩, ⟨TT, TT⟩⟩) ?_
  refine Done.mk (thenQ_n ?_)
  refine awp_block ?_
  refine awp_seq ?_
  refine awp_regionD Try_mixed (orcs := []) (gs := [.keep [2, 4, 5, 6] [2, 4]]) (s' := ⟨[(2, .ptr 2 0), (4, .ptr 4 0), (5, .agg [pI d.x, pI d.y]), (6, pB ((d.x == (1 : Int)) && ((d.y == (0 : Int)) && true)))], [(2, .lit 63 [pI p_.x, pI p_.y]), (4, .lit 37 [pI 0, pI 0])]⟩) (by kernel_rfl) (holds_of ((UU ∧ UU ∧ UU ∧ UU) ∧ (UU ∧ UU)) (by kernel_rfl) ⟨⟨TT, TT, TT, TT⟩, ⟨TT, TT⟩⟩) ?_
  refine Done.mk (thenQ_n ?_)
  refine ifB_el h (fun k1 h => ?_) (fun k1 h => ?_)
  · refine awp_cond_t (b := (d.x == (1 : Int)) && ((d.y == (0 : Int)) && true)) (by kernel_rfl) k1 ?_
    refine awp_seq ?_
    refine awp_regionD Try_mixed (orcs := []) (gs := [.keep [4] [4]]) (s' := ⟨[(4, .ptr 4 0)], [(4, .lit 37 [pI p_.x, pI p_.y])]⟩) (by kernel_rfl) (holds_of ((UU ∧ UU ∧ UU ∧ UU ∧ UU ∧ UU ∧ UU) ∧ (UU ∧ UU)) (by kernel_rfl) ⟨⟨TT, TT, TT, TT, TT, TT, TT⟩, ⟨TT, TT⟩⟩) ?_
    refine Done.mk (thenQ_n ?_)
    refine doneRet ?_
    refine Done.mk (inB_r (thenQ_r ?_))
    obtain rfl := Option.some.inj h
    exact ⟨Or.inr rfl, by kernel_rfl, by kernel_rfl⟩
  · refine awp_cond_f (b := (d.x == (1 : Int)) && ((d.y == (0 : Int)) && true)) (by kernel_rfl) k1 ?_
    refine awp_seq ?_
    refine awp_regionD Try_mixed (orcs := []) (gs := [.keep [2, 4, 5, 14] [2, 4]]) (s' := ⟨[(2, .ptr 2 0), (4, .ptr 4 0), (5, .agg [pI d.x, pI d.y]), (14, pB ((d.x == (0 : Int)) && ((d.y == (1 : Int)) && true)))], [(2, .lit 63 [pI p_.x, pI p_.y]), (4, .lit 37 [pI 0, pI 0])]⟩) (by kernel_rfl) (holds_of ((UU ∧ UU ∧ UU ∧ UU) ∧ (UU ∧ UU)) (by kernel_rfl) ⟨⟨TT, TT, TT, TT⟩, ⟨TT, TT⟩⟩) ?_
    refine Done.mk (thenQ_n ?_)
    refine ifB_el h (fun k2 h => ?_) (fun k2 h => ?_)
    · refine awp_cond_t (b := (d.x == (0 : Int)) && ((d.y == (1 : Int)) && true)) (by kernel_rfl) k2 ?_
      refine awp_seq ?_
      refine chk_el h (fun k3 h => ?_)
      refine awp_regionD Try_mixed (orcs := []) (gs := [.keep [4] [4]]) (s' := ⟨[(4, .ptr 4 0)], [(4, .lit 37 [pI (p_.x - 1), pI p_.y])]⟩) (by kernel_rfl) (holds_of ((UU ∧ UU ∧ (InR .i64 (p_.x - 1 : Int)) ∧ UU ∧ UU ∧ UU ∧ UU ∧ UU) ∧ (UU ∧ UU)) (by kernel_rfl) ⟨⟨TT, TT, k3, TT, TT, TT, TT, TT⟩, ⟨TT, TT⟩⟩) ?_
      refine Done.mk (thenQ_n ?_)
      refine doneRet ?_
      refine Done.mk (inB_r (thenQ_r ?_))
      obtain rfl := Option.some.inj h
      exact ⟨Or.inr rfl, by kernel_rfl, by kernel_rfl⟩
    · refine awp_cond_f (b := (d.x == (0 : Int)) && ((d.y == (1 : Int)) && true)) (by kernel_rfl) k2 ?_
      refine awp_seq ?_
      refine awp_regionD Try_mixed (orcs := []) (gs := [.keep [2, 4, 23] [2, 4]]) (s' := ⟨[(2, .ptr 2 0), (4, .ptr 4 0), (23, pB ((d.x == (-1 : Int)) && ((d.y == (0 : Int)) && true)))], [(2, .lit 63 [pI p_.x, pI p_.y]), (4, .lit 37 [pI 0, pI 0])]⟩) (by kernel_rfl) (holds_of ((UU ∧ UU ∧ UU ∧ UU) ∧ (UU ∧ UU)) (by kernel_rfl) ⟨⟨TT, TT, TT, TT⟩, ⟨TT, TT⟩⟩) ?_
      refine Done.mk (thenQ_n ?_)
      refine ifB_el h (fun k4 h => ?_) (fun k4 h => ?_)
      · refine awp_cond_t (b := (d.x == (-1 : Int)) && ((d.y == (0 : Int)) && true)) (by kernel_rfl) k4 ?_
        refine awp_seq ?_
        refine chk_el h (fun k5 h => ?_)
        refine chk_el h (fun k6 h => ?_)
        refine awp_regionD Try_mixed (orcs := []) (gs := [.keep [4] [4]]) (s' := ⟨[(4, .ptr 4 0)], [(4, .lit 37 [pI (p_.x - 1), pI (p_.y - 1)])]⟩) (by kernel_rfl) (holds_of ((UU ∧ UU ∧ (InR .i64 (p_.x - 1 : Int)) ∧ UU ∧ UU ∧ (InR .i64 (p_.y - 1 : Int)) ∧ UU ∧ UU ∧ UU) ∧ (UU ∧ UU)) (by kernel_rfl) ⟨⟨TT, TT, k5, TT, TT, k6, TT, TT, TT⟩, ⟨TT, TT⟩⟩) ?_
        refine Done.mk (thenQ_n ?_)
        refine doneRet ?_
        refine Done.mk (inB_r (thenQ_r ?_))
        obtain rfl := Option.some.inj h
        exact ⟨Or.inr rfl, by kernel_rfl, by kernel_rfl⟩
      · refine awp_cond_f (b := (d.x == (-1 : Int)) && ((d.y == (0 : Int)) && true)) (by kernel_rfl) k4 ?_
        refine doneSkip ?_
        refine Done.mk (inB_n (thenQ_n ?_))
        refine awp_seq ?_
        refine chk_el h (fun k7 h => ?_)
        refine awp_regionD Try_mixed (orcs := []) (gs := [.keep [4] [4]]) (s' := ⟨[(4, .ptr 4 0)], [(4, .lit 37 [pI p_.x, pI (p_.y - 1)])]⟩) (by kernel_rfl) (holds_of ((UU ∧ UU ∧ UU ∧ UU ∧ (InR .i64 (p_.y - 1 : Int)) ∧ UU ∧ UU ∧ UU) ∧ (UU ∧ UU)) (by kernel_rfl) ⟨⟨TT, TT, TT, TT, k7, TT, TT, TT⟩, ⟨TT, TT⟩⟩) ?_
        refine Done.mk (thenQ_n ?_)
        refine doneRet ?_
        refine Done.mk ?_
        obtain rfl := Option.some.inj h
        exact ⟨Or.inr rfl, by kernel_rfl, by kernel_rfl⟩
end
end Go.AM
end
section
namespace Go.AM
open Go Go.RowKit Go.Proofs
noncomputable section
def ringwalk_add_j1 (l : (List Cell)) (c : Cell) : Option (Bool) :=
    ifB (decide ((l.length : Int) > (0 : Int)))
    (chk (InR .i64 (((l.length : Int)) - 1 : Int))
      ((getI l (((l.length : Int)) - 1 : Int)).bind fun c1 =>
      some ((c1.x == c.x) && ((c1.y == c.y) && true))))
    (some false)
noncomputable def ringwalk_add (l : (List Cell)) (c : Cell) : Option (List Cell) :=
  (ringwalk_add_j1 l c).bind fun t17 =>
  ifB (t17)
  (some l)
  (chk (l.length + ([c]).length ≤ 1099511627776)
    (some (l ++ ([c]))))
set_option maxRecDepth 100000 in
set_option maxHeartbeats 4000000 in
theorem ringwalk_add_ok {l : (List Cell)} {c : Cell} {r : (List Cell)} (h : ringwalk_add l c = some r) : ASpec Try.prog 35 [.own 0 0 l.length 2, .agg [pI c.x, pI c.y]] [(0, .row 37 (l.flatMap Cell.cs))] (.own 6000 0 r.length 2) [(6000, .row 37 (r.flatMap Cell.cs))] := by
  refine aspec_of Try.func35 (c := _) rfl (by kernel_rfl) (by rw [Try.ntmps35]; exact Nat.le_of_ble_eq_true rfl) ?_
  refine awp_seq ?_
  refine awp_regionD Try_mixed (orcs := []) (gs := [.keep [0, 3] [0, 3]]) (s' := ⟨[(0, .own 0 0 l.length 2), (3, .ptr 3 0)], [(0, .row 37 (l.flatMap Cell.cs)), (3, .lit 37 [pI c.x, pI c.y])]⟩) (by kernel_rfl) (holds_of ((UU ∧ UU ∧ UU) ∧ (UU ∧ UU)) (by kernel_rfl) ⟨⟨TT, TT, TT⟩, ⟨TT, TT⟩⟩) ?_
  refine Done.mk (thenQ_n ?_)
  refine awp_seq ?_
  refine awp_seq ?_
  refine bind_el h (fun t17 hm h => ?_)
  refine awp_tail (fun _ => Exit.normal) (fun o => match o with | t17 => ⟨[(0, .own 0 0 l.length 2), (3, .ptr 3 0), (17, pB t17)], [(0, .row 37 (l.flatMap Cell.cs)), (3, .lit 37 [pI c.x, pI c.y])]⟩) hm (fun o h => ?_) ?_
  · refine ifB_el h (fun k1 h => ?_) (fun k1 h => ?_)
    · refine chk_el h (fun k2 h => ?_)
      refine bind_el h (fun c1 k3 h => ?_)
      replace k3 := getI_el k3
      refine awp_regionD Try_mixed (orcs := [(3, tB true), (9, tV (.agg [pI c1.x, pI c1.y]))]) (gs := [.keep [0, 3, 17] [0, 3]]) (s' := ⟨[(0, .own 0 0 l.length 2), (3, .ptr 3 0), (17, pB ((c1.x == c.x) && ((c1.y == c.y) && true)))], [(0, .row 37 (l.flatMap Cell.cs)), (3, .lit 37 [pI c.x, pI c.y])]⟩) (by kernel_rfl) (holds_of ((UU ∧ UU ∧ UU ∧ ((UU ∧ some (pB (decide ((l.length : Int) > (0 : Int)))) = some (pB true))) ∧ UU ∧ UU ∧ UU ∧ (InR .i64 (((l.length : Int)) - 1 : Int)) ∧ ((0 ≤ (((l.length : Int)) - 1 : Int) ∧ (((l.length : Int)) - 1 : Int) < (l.length : Int))) ∧ (rowHas (l.flatMap Cell.cs) (0 + (((l.length : Int)) - 1 : Int).toNat * 2) [pI c1.x, pI c1.y]) ∧ UU ∧ UU ∧ UU ∧ UU) ∧ (UU ∧ UU)) (by kernel_rfl) ⟨⟨TT, TT, TT, ⟨TT, by rw [k1]⟩, TT, TT, TT, k2, k3.2, row_has Cell.cs_len k3.1 (o := 0) (m := 2) (by omega) (by decide), TT, TT, TT, TT⟩, ⟨TT, TT⟩⟩) ?_
      refine Done.mk ?_
      obtain rfl := Option.some.inj h
      exact ⟨rfl, by kernel_rfl⟩
    · refine awp_regionD Try_mixed (orcs := [(3, tB false)]) (gs := [.keep [0, 3, 17] [0, 3]]) (s' := ⟨[(0, .own 0 0 l.length 2), (3, .ptr 3 0), (17, pB false)], [(0, .row 37 (l.flatMap Cell.cs)), (3, .lit 37 [pI c.x, pI c.y])]⟩) (by kernel_rfl) (holds_of ((UU ∧ UU ∧ UU ∧ ((UU ∧ some (pB (decide ((l.length : Int) > (0 : Int)))) = some (pB false))) ∧ UU ∧ UU) ∧ (UU ∧ UU)) (by kernel_rfl) ⟨⟨TT, TT, TT, ⟨TT, by rw [k1]⟩, TT, TT⟩, ⟨TT, TT⟩⟩) ?_
      refine Done.mk ?_
      obtain rfl := Option.some.inj h
      exact ⟨rfl, by kernel_rfl⟩
  · have _ := hm
    refine Done.as (e := Exit.normal) (s := ⟨[(0, .own 0 0 l.length 2), (3, .ptr 3 0), (17, pB t17)], [(0, .row 37 (l.flatMap Cell.cs)), (3, .lit 37 [pI c.x, pI c.y])]⟩) rfl (by kernel_rfl) ?_
    refine Done.mk (thenQ_n ?_)
    refine ifB_el h (fun k4 h => ?_) (fun k4 h => ?_)
    · refine awp_cond_t (b := t17) (by kernel_rfl) k4 ?_
      refine awp_seq ?_
      refine awp_regionD Try_mixed (orcs := []) (gs := [.keep [4] [0]]) (s' := ⟨[(4, .own 0 0 l.length 2)], [(0, .row 37 (l.flatMap Cell.cs))]⟩) (by kernel_rfl) (holds_of ((UU ∧ UU ∧ UU) ∧ (UU ∧ UU)) (by kernel_rfl) ⟨⟨TT, TT, TT⟩, ⟨TT, TT⟩⟩) ?_
      refine Done.mk (thenQ_n ?_)
      refine doneRet ?_
      refine Done.gh [.ren 0 6000, .keep [4] [6000]] (s' := ⟨[(4, .own 6000 0 l.length 2)], [(6000, .row 37 (l.flatMap Cell.cs))]⟩) (by kernel_rfl) (holds_of (UU ∧ UU ∧ UU) (by kernel_rfl) ⟨TT, TT, TT⟩) ?_
      refine Done.mk (thenQ_r ?_)
      obtain rfl := Option.some.inj h
      exact ⟨Or.inr rfl, by kernel_rfl, by kernel_rfl⟩
    · refine awp_cond_f (b := t17) (by kernel_rfl) k4 ?_
      refine doneSkip ?_
      refine Done.mk (thenQ_n ?_)
      refine awp_seq ?_
      refine chk_el h (fun k5 h => ?_)
      refine awp_regionD Try_mixed (orcs := [(3, tV (.own 22 0 (l ++ ([c])).length 2))]) (gs := [.castB 22 (.row 37 ((l ++ ([c])).flatMap Cell.cs)), .keep [4] [22]]) (s' := ⟨[(4, .own 22 0 (l ++ ([c])).length 2)], [(22, .row 37 ((l ++ ([c])).flatMap Cell.cs))]⟩) (by kernel_rfl) (holds_of ((UU ∧ UU ∧ UU ∧ ((((l.flatMap Cell.cs).length = l.length * 2 ∧ (([c]).flatMap Cell.cs).length = ([c]).length * 2 ∧ (l.length + ([c]).length) * 16 ≤ 140737488355328 ∧ l.length + ([c]).length ≤ 9223372036854775807) ∧ some (AV.own 22 0 (l.length + ([c]).length) 2) = some (AV.own 22 0 (l ++ ([c])).length 2))) ∧ UU ∧ UU) ∧ ((some (ABlk.row 37 (l.flatMap Cell.cs ++ ([c]).flatMap Cell.cs)) = some (ABlk.row 37 ((l ++ ([c])).flatMap Cell.cs))) ∧ UU ∧ UU)) (by kernel_rfl) ⟨⟨TT, TT, TT, ⟨⟨flat_len Cell.cs_len _, flat_len Cell.cs_len _, by omega, by omega⟩, app_len _ _ _ _⟩, TT, TT⟩, ⟨(app_row Cell.cs _ _ _), TT, TT⟩⟩) ?_
      refine Done.mk (thenQ_n ?_)
      refine doneRet ?_
      refine Done.gh [.ren 22 6000, .keep [4] [6000]] (s' := ⟨[(4, .own 6000 0 (l ++ ([c])).length 2)], [(6000, .row 37 ((l ++ ([c])).flatMap Cell.cs))]⟩) (by kernel_rfl) (holds_of (UU ∧ UU ∧ UU) (by kernel_rfl) ⟨TT, TT, TT⟩) ?_
      refine Done.mk ?_
      obtain rfl := Option.some.inj h
      exact ⟨Or.inr rfl, by kernel_rfl, by kernel_rfl⟩
end
end Go.AM
end
