/- Proved: at every region and every two numbers the law RingwalkMoves of the package additivelaw24 returns true, without a panic, and leaves its arguments as they were. Conditions: those of the given statement alone. -/
import Derived.Test.YtijdlphadhpabaaProg
import Derived.Test.YtijdlphadhpabaaA3
import Derived.Test.YtijdlphadhpabaaA1
import Derived.Test.YtijdlphadhpabaaA9
import Derived.Test.YtijdlphadhpabaaA4
import Derived.Test.YtijdlphadhpabaaA2
import Derived.Test.YtijdlphadhpabaaA8
import Derived.Test.YtijdlphadhpabaaA6
import Derived.Test.YtijdlphadhpabaaA5
import Derived.Test.YtijdlphadhpabaaA7
import Derived.Test.YtijdlphadhpabaaF1
import Derived.Test.YtijdlphadhpabaaF6
import Derived.Test.YtijdlphadhpabaaF7
import Derived.Test.YtijdlphadhpabaaF8
import Derived.Test.YtijdlphadhpabaaP5
section
namespace Go.AM
open Go Go.RowKit Go.Proofs
noncomputable section
def L24_RingwalkMoves_j1 (v : (Region × Int)) : Option (Bool) :=
    ifB (v.2 != (0 : Int))
    (some true)
    (some ((v.1.rows.length : Int) == (0 : Int)))
def L24_RingwalkMoves_l2 (v1 : (List Track)) (t11 : Int) (v2 : (List Track)) (t1 : Int) (t2 : Int) (s : Int) : Option ((Int) ⊕ ((Unit) ⊕ (Unit))) :=
  match s with
  | t12 =>
    (getI v1 t11).bind fun t4 =>
    ifB (decide (t12 < (t4.cells.length : Int)))
    ((getI v2 t11).bind fun t5 =>
      (getI t5.cells t12).bind fun c =>
      (getI t4.cells t12).bind fun c1 =>
      chk (InR .i64 (c1.x + t1 : Int))
      (chk (InR .i64 (c1.y + t2 : Int))
      (ifB (!((c.x == (c1.x + t1 : Int)) && ((c.y == (c1.y + t2 : Int)) && true)))
      (some (.inr (.inr ())))
      (chk (InR .i64 (t12 + 1 : Int))
        (some (.inl (t12 + 1)))))))
    (some (.inr (.inl ())))
def L24_RingwalkMoves_l3 (v1 : (List Track)) (v2 : (List Track)) (t1 : Int) (t2 : Int) (s : Int) : Option ((Int) ⊕ ((Unit) ⊕ (Unit))) :=
  match s with
  | t11 =>
    ifB (decide (t11 < (v1.length : Int)))
    ((getI v1 t11).bind fun t =>
      (getI v2 t11).bind fun t3 =>
      ifB ((t.cells.length : Int) != (t3.cells.length : Int))
      (some (.inr (.inr ())))
      ((loopP (L24_RingwalkMoves_l2 v1 t11 v2 t1 t2) 0).bind fun o => match o with
        | .inl _ => chk (InR .i64 (t11 + 1 : Int))
          (some (.inl (t11 + 1)))
        | .inr _ => some (.inr (.inr ()))))
    (some (.inr (.inl ())))
noncomputable def L24_RingwalkMoves (t0 : Region) (t1 : Int) (t2 : Int) : Option Bool :=
  (L18_Small t0).bind fun b =>
  ifB (!b)
  ((L24_awake).bind fun b1 =>
    some b1)
  ((region_Shift t0 t1 t2).bind fun v =>
    (L24_RingwalkMoves_j1 v).bind fun t31 =>
    ifB (t31)
    ((L24_awake).bind fun b2 =>
      some b2)
    ((ringwalk_Walk t0).bind fun v1 =>
      (ringwalk_Walk (Region.mk v.1.rows)).bind fun v2 =>
      ifB ((v1.length : Int) != (v2.length : Int))
      (some false)
      ((loopP (L24_RingwalkMoves_l3 v1 v2 t1 t2) 0).bind fun o => match o with
        | .inl _ => (L24_awake).bind fun b3 =>
          some b3
        | .inr _ => some false)))
end
end Go.AM
end
section
namespace Go.AM
open Go Go.RowKit Go.Proofs
noncomputable section
set_option maxRecDepth 100000 in
set_option maxHeartbeats 4000000 in
theorem L24_RingwalkMoves_ok {t0 : Region} {t1 : Int} {t2 : Int} {r : Bool} (h : L24_RingwalkMoves t0 t1 t2 = some r) : ASpec Try.prog 6 [.agg [.p (encL Row.cs t0.rows)], pI t1, pI t2] [] (pB r) [] := by
  refine aspec_of Try.func6 (c := _) rfl (by kernel_rfl) (by rw [Try.ntmps6]; exact Nat.le_of_ble_eq_true rfl) ?_
  refine awp_seq ?_
  refine awp_regionD Try_mixed (orcs := []) (gs := [.keep [1, 2, 3] [3]]) (s' := ⟨[(1, pI t1), (2, pI t2), (3, .ptr 3 0)], [(3, .lit 24 [.p (encL Row.cs t0.rows)])]⟩) (by kernel_rfl) (holds_of ((UU ∧ UU ∧ UU) ∧ (UU ∧ UU)) (by kernel_rfl) ⟨⟨TT, TT, TT⟩, ⟨TT, TT⟩⟩) ?_
  refine Done.mk (thenQ_n ?_)
  refine awp_seq ?_
  refine awp_seq ?_
  refine bind_el h (fun b k1 h => ?_)
  refine awp_regionD Try_mixed (orcs := [(1, tV (pB b))]) (gs := [.keep [1, 2, 3, 15] [3]]) (s' := ⟨[(1, pI t1), (2, pI t2), (3, .ptr 3 0), (15, pB (!b))], [(3, .lit 24 [.p (encL Row.cs t0.rows)])]⟩) (by kernel_rfl) (holds_of ((UU ∧ (ASpec Try.prog 7 [.agg [.p (encL Row.cs t0.rows)]] [] (pB b) []) ∧ UU ∧ UU) ∧ (UU ∧ UU)) (by kernel_rfl) ⟨⟨TT, L18_Small_ok k1, TT, TT⟩, ⟨TT, TT⟩⟩) ?_
  refine Done.mk (thenQ_n ?_)
  refine ifB_el h (fun k2 h => ?_) (fun k2 h => ?_)
  · refine awp_cond_t (b := !b) (by kernel_rfl) k2 ?_
    refine awp_seq ?_
    refine bind_el h (fun b1 k3 h => ?_)
    refine awp_regionD Try_mixed (orcs := [(0, tV (pB b1))]) (gs := [.keep [6] []]) (s' := ⟨[(6, pB b1)], []⟩) (by kernel_rfl) (holds_of (((ASpec Try.prog 8 [] [] (pB b1) []) ∧ UU ∧ UU) ∧ (UU ∧ UU)) (by kernel_rfl) ⟨⟨L24_awake_ok k3, TT, TT⟩, ⟨TT, TT⟩⟩) ?_
    refine Done.mk (thenQ_n ?_)
    refine doneRet ?_
    refine Done.mk (thenQ_r ?_)
    obtain rfl := Option.some.inj h
    exact ⟨Or.inr rfl, by kernel_rfl, by kernel_rfl⟩
  · refine awp_cond_f (b := !b) (by kernel_rfl) k2 ?_
    refine doneSkip ?_
    refine Done.mk (thenQ_n ?_)
    refine awp_seq ?_
    refine bind_el h (fun v k4 h => ?_)
    refine awp_regionD Try_mixed (orcs := [(3, tV (.tup [.agg [.p (encL Row.cs v.1.rows)], pI v.2]))]) (gs := [.keep [1, 2, 3, 7, 8] [3, 7]]) (s' := ⟨[(1, pI t1), (2, pI t2), (3, .ptr 3 0), (7, .ptr 7 0), (8, pI v.2)], [(3, .lit 24 [.p (encL Row.cs t0.rows)]), (7, .lit 24 [.p (encL Row.cs v.1.rows)])]⟩) (by kernel_rfl) (holds_of ((UU ∧ UU ∧ UU ∧ (ASpec Try.prog 15 [.agg [.p (encL Row.cs t0.rows)], pI t1, pI t2] [] (.tup [.agg [.p (encL Row.cs v.1.rows)], pI v.2]) []) ∧ UU ∧ UU ∧ UU ∧ UU ∧ UU ∧ UU ∧ UU) ∧ (UU ∧ UU)) (by kernel_rfl) ⟨⟨TT, TT, TT, region_Shift_ok k4, TT, TT, TT, TT, TT, TT, TT⟩, ⟨TT, TT⟩⟩) ?_
    refine Done.mk (thenQ_n ?_)
    refine awp_seq ?_
    refine awp_seq ?_
    refine bind_el h (fun t31 hm h => ?_)
    refine awp_tail (fun _ => Exit.normal) (fun o => match o with | t31 => ⟨[(1, pI t1), (2, pI t2), (3, .ptr 3 0), (7, .ptr 7 0), (31, pB t31)], [(3, .lit 24 [.p (encL Row.cs t0.rows)]), (7, .lit 24 [.p (encL Row.cs v.1.rows)])]⟩) hm (fun o h => ?_) ?_
    · refine ifB_el h (fun k5 h => ?_) (fun k5 h => ?_)
      · refine awp_regionD Try_mixed (orcs := [(2, tB true)]) (gs := [.keep [1, 2, 3, 7, 31] [3, 7]]) (s' := ⟨[(1, pI t1), (2, pI t2), (3, .ptr 3 0), (7, .ptr 7 0), (31, pB true)], [(3, .lit 24 [.p (encL Row.cs t0.rows)]), (7, .lit 24 [.p (encL Row.cs v.1.rows)])]⟩) (by kernel_rfl) (holds_of ((UU ∧ UU ∧ ((UU ∧ some (pB (v.2 != (0 : Int))) = some (pB true))) ∧ UU ∧ UU) ∧ (UU ∧ UU)) (by kernel_rfl) ⟨⟨TT, TT, ⟨TT, by rw [k5]⟩, TT, TT⟩, ⟨TT, TT⟩⟩) ?_
        refine Done.mk ?_
        obtain rfl := Option.some.inj h
        exact ⟨rfl, by kernel_rfl⟩
      · refine awp_regionD Try_mixed (orcs := [(2, tB false)]) (gs := [.keep [1, 2, 3, 7, 31] [3, 7]]) (s' := ⟨[(1, pI t1), (2, pI t2), (3, .ptr 3 0), (7, .ptr 7 0), (31, pB ((v.1.rows.length : Int) == (0 : Int)))], [(3, .lit 24 [.p (encL Row.cs t0.rows)]), (7, .lit 24 [.p (encL Row.cs v.1.rows)])]⟩) (by kernel_rfl) (holds_of ((UU ∧ UU ∧ ((UU ∧ some (pB (v.2 != (0 : Int))) = some (pB false))) ∧ UU ∧ UU ∧ UU ∧ UU ∧ UU ∧ UU) ∧ (UU ∧ UU)) (by kernel_rfl) ⟨⟨TT, TT, ⟨TT, by rw [k5]⟩, TT, TT, TT, TT, TT, TT⟩, ⟨TT, TT⟩⟩) ?_
        refine Done.mk ?_
        obtain rfl := Option.some.inj h
        exact ⟨rfl, by kernel_rfl⟩
    · have _ := hm
      refine Done.as (e := Exit.normal) (s := ⟨[(1, pI t1), (2, pI t2), (3, .ptr 3 0), (7, .ptr 7 0), (31, pB t31)], [(3, .lit 24 [.p (encL Row.cs t0.rows)]), (7, .lit 24 [.p (encL Row.cs v.1.rows)])]⟩) rfl (by kernel_rfl) ?_
      refine Done.mk (thenQ_n ?_)
      refine ifB_el h (fun k6 h => ?_) (fun k6 h => ?_)
      · refine awp_cond_t (b := t31) (by kernel_rfl) k6 ?_
        refine awp_seq ?_
        refine bind_el h (fun b2 k7 h => ?_)
        refine awp_regionD Try_mixed (orcs := [(0, tV (pB b2))]) (gs := [.keep [6] []]) (s' := ⟨[(6, pB b2)], []⟩) (by kernel_rfl) (holds_of (((ASpec Try.prog 8 [] [] (pB b2) []) ∧ UU ∧ UU) ∧ (UU ∧ UU)) (by kernel_rfl) ⟨⟨L24_awake_ok k7, TT, TT⟩, ⟨TT, TT⟩⟩) ?_
        refine Done.mk (thenQ_n ?_)
        refine doneRet ?_
        refine Done.mk (thenQ_r ?_)
        obtain rfl := Option.some.inj h
        exact ⟨Or.inr rfl, by kernel_rfl, by kernel_rfl⟩
      · refine awp_cond_f (b := t31) (by kernel_rfl) k6 ?_
        refine doneSkip ?_
        refine Done.mk (thenQ_n ?_)
        refine awp_seq ?_
        refine bind_el h (fun v1 k8 h => ?_)
        refine bind_el h (fun v2 k9 h => ?_)
        refine awp_regionD Try_mixed (orcs := [(1, tV (.p (encL Track.cs v1))), (3, tV (.p (encL Track.cs v2)))]) (gs := [.keep [1, 2, 9, 10] []]) (s' := ⟨[(1, pI t1), (2, pI t2), (9, .p (encL Track.cs v1)), (10, .p (encL Track.cs v2))], []⟩) (by kernel_rfl) (holds_of ((UU ∧ (ASpec Try.prog 10 [.agg [.p (encL Row.cs t0.rows)]] [] (.p (encL Track.cs v1)) []) ∧ UU ∧ (ASpec Try.prog 10 [.agg [.p (encL Row.cs v.1.rows)]] [] (.p (encL Track.cs v2)) []) ∧ UU ∧ UU ∧ UU) ∧ (UU ∧ UU)) (by kernel_rfl) ⟨⟨TT, ringwalk_Walk_ok k8, TT, ringwalk_Walk_ok k9, TT, TT, TT⟩, ⟨TT, TT⟩⟩) ?_
        refine Done.mk (thenQ_n ?_)
        refine awp_seq ?_
        refine awp_seq ?_
        refine awp_regionD Try_mixed (orcs := []) (gs := [.keep [1, 2, 9, 10, 41] []]) (s' := ⟨[(1, pI t1), (2, pI t2), (9, .p (encL Track.cs v1)), (10, .p (encL Track.cs v2)), (41, pB ((v1.length : Int) != (v2.length : Int)))], []⟩) (by kernel_rfl) (holds_of ((UU ∧ UU ∧ UU ∧ UU ∧ UU ∧ UU) ∧ (UU ∧ UU)) (by kernel_rfl) ⟨⟨TT, TT, TT, TT, TT, TT⟩, ⟨TT, TT⟩⟩) ?_
        refine Done.mk (thenQ_n ?_)
        refine ifB_el h (fun k10 h => ?_) (fun k10 h => ?_)
        · refine awp_cond_t (b := (v1.length : Int) != (v2.length : Int)) (by kernel_rfl) k10 ?_
          refine awp_seq ?_
          refine awp_regionD Try_mixed (orcs := []) (gs := [.keep [6] []]) (s' := ⟨[(6, pB false)], []⟩) (by kernel_rfl) (holds_of ((UU ∧ UU) ∧ (UU ∧ UU)) (by kernel_rfl) ⟨⟨TT, TT⟩, ⟨TT, TT⟩⟩) ?_
          refine Done.mk (thenQ_n ?_)
          refine doneRet ?_
          refine Done.mk (thenQ_r ?_)
          obtain rfl := Option.some.inj h
          exact ⟨Or.inr rfl, by kernel_rfl, by kernel_rfl⟩
        · refine awp_cond_f (b := (v1.length : Int) != (v2.length : Int)) (by kernel_rfl) k10 ?_
          refine doneSkip ?_
          refine Done.mk (thenQ_n ?_)
          refine awp_seq ?_
          refine awp_seq ?_
          refine awp_regionD Try_mixed (orcs := []) (gs := [.keep [1, 2, 9, 10, 11] []]) (s' := ⟨[(1, pI t1), (2, pI t2), (9, .p (encL Track.cs v1)), (10, .p (encL Track.cs v2)), (11, pI 0)], []⟩) (by kernel_rfl) (holds_of ((UU ∧ UU) ∧ (UU ∧ UU)) (by kernel_rfl) ⟨⟨TT, TT⟩, ⟨TT, TT⟩⟩) ?_
          refine Done.mk (thenQ_n ?_)
          refine awp_block ?_
          refine bind_el h (fun o hm h => ?_)
          refine awp_gh [.keep [1, 2, 9, 10, 11] [], .keep [1, 2, 9, 10, 11] []] (s' := ⟨[(1, pI t1), (2, pI t2), (9, .p (encL Track.cs v1)), (10, .p (encL Track.cs v2)), (11, pI 0)], []⟩) (by kernel_rfl) (holds_of (UU ∧ UU ∧ UU) (by kernel_rfl) ⟨TT, TT, TT⟩) ?_
          refine awp_tail (fun o => match o with | .inl _ => (Exit.exit 0) | .inr _ => Exit.ret) (fun o => match o with | .inl _ => ⟨[], []⟩ | .inr _ => ⟨[(6, pB false)], []⟩) hm (fun o h => ?_) ?_
          · refine awp_loop' (fun s => match s with | t11 => ⟨[(1, pI t1), (2, pI t2), (9, .p (encL Track.cs v1)), (10, .p (encL Track.cs v2)), (11, pI t11)], []⟩) h (by kernel_rfl) (fun t11 out h => ?_)
            refine awp_seq ?_
            refine awp_seq ?_
            refine awp_regionD Try_mixed (orcs := []) (gs := [.keep [1, 2, 9, 10, 11, 45] []]) (s' := ⟨[(1, pI t1), (2, pI t2), (9, .p (encL Track.cs v1)), (10, .p (encL Track.cs v2)), (11, pI t11), (45, pB (decide (t11 < (v1.length : Int))))], []⟩) (by kernel_rfl) (holds_of ((UU ∧ UU ∧ UU ∧ UU ∧ UU) ∧ (UU ∧ UU)) (by kernel_rfl) ⟨⟨TT, TT, TT, TT, TT⟩, ⟨TT, TT⟩⟩) ?_
            refine Done.mk (thenQ_n ?_)
            refine ifB_el h (fun k11 h => ?_) (fun k11 h => ?_)
            · refine awp_cond_t (b := decide (t11 < (v1.length : Int))) (by kernel_rfl) k11 ?_
              refine doneSkip ?_
              refine Done.mk (thenQ_n ?_)
              refine awp_seq ?_
              refine awp_block ?_
              refine awp_seq ?_
              refine awp_seq ?_
              refine bind_el h (fun t k12 h => ?_)
              replace k12 := getI_el k12
              refine bind_el h (fun t3 k13 h => ?_)
              replace k13 := getI_el k13
              refine awp_regionD Try_mixed (orcs := [(4, tV (.p (encL Cell.cs t.cells))), (10, tV (.p (encL Cell.cs t3.cells)))]) (gs := [.keep [1, 2, 9, 10, 11, 60] []]) (s' := ⟨[(1, pI t1), (2, pI t2), (9, .p (encL Track.cs v1)), (10, .p (encL Track.cs v2)), (11, pI t11), (60, pB ((t.cells.length : Int) != (t3.cells.length : Int)))], []⟩) (by kernel_rfl) (holds_of ((UU ∧ UU ∧ ((0 ≤ t11 ∧ t11 < (v1.length : Int))) ∧ UU ∧ ((v1.flatMap Track.cs)[t11.toNat * 3 + 2]? = some (encL Cell.cs t.cells)) ∧ UU ∧ UU ∧ UU ∧ ((0 ≤ t11 ∧ t11 < (v2.length : Int))) ∧ UU ∧ ((v2.flatMap Track.cs)[t11.toNat * 3 + 2]? = some (encL Cell.cs t3.cells)) ∧ UU ∧ UU ∧ UU) ∧ (UU ∧ UU)) (by kernel_rfl) ⟨⟨TT, TT, k12.2, TT, row_at Track.cs_len k12.1 (j := 2) (by omega) (by decide), TT, TT, TT, k13.2, TT, row_at Track.cs_len k13.1 (j := 2) (by omega) (by decide), TT, TT, TT⟩, ⟨TT, TT⟩⟩) ?_
              refine Done.mk (thenQ_n ?_)
              refine ifB_el h (fun k14 h => ?_) (fun k14 h => ?_)
              · refine awp_cond_t (b := (t.cells.length : Int) != (t3.cells.length : Int)) (by kernel_rfl) k14 ?_
                refine awp_seq ?_
                refine awp_regionD Try_mixed (orcs := []) (gs := [.keep [6] []]) (s' := ⟨[(6, pB false)], []⟩) (by kernel_rfl) (holds_of ((UU ∧ UU) ∧ (UU ∧ UU)) (by kernel_rfl) ⟨⟨TT, TT⟩, ⟨TT, TT⟩⟩) ?_
                refine Done.mk (thenQ_n ?_)
                refine doneRet ?_
                refine Done.mk (thenQ_r (inB_r (thenQ_r ?_)))
                obtain rfl := Option.some.inj h
                exact ⟨fun q => (by cases q), fun q => (by subst q; exact ⟨rfl, by kernel_rfl⟩)⟩
              · refine awp_cond_f (b := (t.cells.length : Int) != (t3.cells.length : Int)) (by kernel_rfl) k14 ?_
                refine doneSkip ?_
                refine Done.mk (thenQ_n ?_)
                refine awp_seq ?_
                refine awp_regionD Try_mixed (orcs := []) (gs := [.keep [1, 2, 9, 10, 11, 12] []]) (s' := ⟨[(1, pI t1), (2, pI t2), (9, .p (encL Track.cs v1)), (10, .p (encL Track.cs v2)), (11, pI t11), (12, pI 0)], []⟩) (by kernel_rfl) (holds_of ((UU ∧ UU) ∧ (UU ∧ UU)) (by kernel_rfl) ⟨⟨TT, TT⟩, ⟨TT, TT⟩⟩) ?_
                refine Done.mk (thenQ_n ?_)
                refine awp_block ?_
                refine bind_el h (fun o hm h => ?_)
                refine awp_gh [.keep [1, 2, 9, 10, 11, 12] [], .keep [1, 2, 9, 10, 11, 12] []] (s' := ⟨[(1, pI t1), (2, pI t2), (9, .p (encL Track.cs v1)), (10, .p (encL Track.cs v2)), (11, pI t11), (12, pI 0)], []⟩) (by kernel_rfl) (holds_of (UU ∧ UU ∧ UU) (by kernel_rfl) ⟨TT, TT, TT⟩) ?_
                refine awp_tail (fun o => match o with | .inl _ => (Exit.exit 2) | .inr _ => Exit.ret) (fun o => match o with | .inl _ => ⟨[(1, pI t1), (2, pI t2), (9, .p (encL Track.cs v1)), (10, .p (encL Track.cs v2)), (11, pI t11)], []⟩ | .inr _ => ⟨[(6, pB false)], []⟩) hm (fun o h => ?_) ?_
                · refine awp_loop' (fun s => match s with | t12 => ⟨[(1, pI t1), (2, pI t2), (9, .p (encL Track.cs v1)), (10, .p (encL Track.cs v2)), (11, pI t11), (12, pI t12)], []⟩) h (by kernel_rfl) (fun t12 out h => ?_)
                  refine awp_seq ?_
                  refine awp_seq ?_
                  refine bind_el h (fun t4 k15 h => ?_)
                  replace k15 := getI_el k15
                  refine awp_regionD Try_mixed (orcs := [(5, tV (.p (encL Cell.cs t4.cells)))]) (gs := [.keep [1, 2, 9, 10, 11, 12, 68] []]) (s' := ⟨[(1, pI t1), (2, pI t2), (9, .p (encL Track.cs v1)), (10, .p (encL Track.cs v2)), (11, pI t11), (12, pI t12), (68, pB (decide (t12 < (t4.cells.length : Int))))], []⟩) (by kernel_rfl) (holds_of ((UU ∧ UU ∧ UU ∧ ((0 ≤ t11 ∧ t11 < (v1.length : Int))) ∧ UU ∧ ((v1.flatMap Track.cs)[t11.toNat * 3 + 2]? = some (encL Cell.cs t4.cells)) ∧ UU ∧ UU ∧ UU) ∧ (UU ∧ UU)) (by kernel_rfl) ⟨⟨TT, TT, TT, k15.2, TT, row_at Track.cs_len k15.1 (j := 2) (by omega) (by decide), TT, TT, TT⟩, ⟨TT, TT⟩⟩) ?_
                  refine Done.mk (thenQ_n ?_)
                  refine ifB_el h (fun k16 h => ?_) (fun k16 h => ?_)
                  · refine awp_cond_t (b := decide (t12 < (t4.cells.length : Int))) (by kernel_rfl) k16 ?_
                    refine doneSkip ?_
                    refine Done.mk (thenQ_n ?_)
                    refine awp_seq ?_
                    refine awp_block ?_
                    refine awp_seq ?_
                    refine bind_el h (fun t5 k17 h => ?_)
                    replace k17 := getI_el k17
                    refine bind_el h (fun c k18 h => ?_)
                    replace k18 := getI_el k18
                    refine bind_el h (fun c1 k19 h => ?_)
                    replace k19 := getI_el k19
                    refine chk_el h (fun k20 h => ?_)
                    refine chk_el h (fun k21 h => ?_)
                    refine awp_regionD Try_mixed (orcs := [(4, tV (.p (encL Cell.cs t5.cells))), (7, tV (.agg [pI c.x, pI c.y])), (12, tV (.p (encL Cell.cs t4.cells))), (16, tV (pI c1.x)), (23, tV (.p (encL Cell.cs t4.cells))), (27, tV (pI c1.y))]) (gs := [.keep [1, 2, 9, 10, 11, 12, 102] []]) (s' := ⟨[(1, pI t1), (2, pI t2), (9, .p (encL Track.cs v1)), (10, .p (encL Track.cs v2)), (11, pI t11), (12, pI t12), (102, pB (!((c.x == (c1.x + t1 : Int)) && ((c.y == (c1.y + t2 : Int)) && true))))], []⟩) (by kernel_rfl) (holds_of ((UU ∧ UU ∧ ((0 ≤ t11 ∧ t11 < (v2.length : Int))) ∧ UU ∧ ((v2.flatMap Track.cs)[t11.toNat * 3 + 2]? = some (encL Cell.cs t5.cells)) ∧ UU ∧ ((0 ≤ t12 ∧ t12 < (t5.cells.length : Int))) ∧ (rowHas (t5.cells.flatMap Cell.cs) (t12.toNat * 2) [pI c.x, pI c.y]) ∧ UU ∧ UU ∧ ((0 ≤ t11 ∧ t11 < (v1.length : Int))) ∧ UU ∧ ((v1.flatMap Track.cs)[t11.toNat * 3 + 2]? = some (encL Cell.cs t4.cells)) ∧ UU ∧ ((0 ≤ t12 ∧ t12 < (t4.cells.length : Int))) ∧ UU ∧ ((t4.cells.flatMap Cell.cs)[t12.toNat * 2]? = some (vI c1.x)) ∧ UU ∧ (InR .i64 (c1.x + t1 : Int)) ∧ UU ∧ UU ∧ ((0 ≤ t11 ∧ t11 < (v1.length : Int))) ∧ UU ∧ ((v1.flatMap Track.cs)[t11.toNat * 3 + 2]? = some (encL Cell.cs t4.cells)) ∧ UU ∧ ((0 ≤ t12 ∧ t12 < (t4.cells.length : Int))) ∧ UU ∧ ((t4.cells.flatMap Cell.cs)[t12.toNat * 2 + 1]? = some (vI c1.y)) ∧ UU ∧ (InR .i64 (c1.y + t2 : Int)) ∧ UU ∧ UU ∧ UU) ∧ (UU ∧ UU)) (by kernel_rfl) ⟨⟨TT, TT, k17.2, TT, row_at Track.cs_len k17.1 (j := 2) (by omega) (by decide), TT, k18.2, row_has Cell.cs_len k18.1 (o := 0) (m := 2) (by omega) (by decide), TT, TT, k15.2, TT, row_at Track.cs_len k15.1 (j := 2) (by omega) (by decide), TT, k19.2, TT, row_at Cell.cs_len k19.1 (j := 0) (by omega) (by decide), TT, k20, TT, TT, k15.2, TT, row_at Track.cs_len k15.1 (j := 2) (by omega) (by decide), TT, k19.2, TT, row_at Cell.cs_len k19.1 (j := 1) (by omega) (by decide), TT, k21, TT, TT, TT⟩, ⟨TT, TT⟩⟩) ?_
                    refine Done.mk (thenQ_n ?_)
                    refine ifB_el h (fun k22 h => ?_) (fun k22 h => ?_)
                    · refine awp_cond_t (b := !((c.x == (c1.x + t1 : Int)) && ((c.y == (c1.y + t2 : Int)) && true))) (by kernel_rfl) k22 ?_
                      refine awp_seq ?_
                      refine awp_regionD Try_mixed (orcs := []) (gs := [.keep [6] []]) (s' := ⟨[(6, pB false)], []⟩) (by kernel_rfl) (holds_of ((UU ∧ UU) ∧ (UU ∧ UU)) (by kernel_rfl) ⟨⟨TT, TT⟩, ⟨TT, TT⟩⟩) ?_
                      refine Done.mk (thenQ_n ?_)
                      refine doneRet ?_
                      refine Done.mk (inB_r (thenQ_r ?_))
                      obtain rfl := Option.some.inj h
                      exact ⟨fun q => (by cases q), fun q => (by subst q; exact ⟨rfl, by kernel_rfl⟩)⟩
                    · refine awp_cond_f (b := !((c.x == (c1.x + t1 : Int)) && ((c.y == (c1.y + t2 : Int)) && true))) (by kernel_rfl) k22 ?_
                      refine doneSkip ?_
                      refine Done.mk (inB_n (thenQ_n ?_))
                      refine chk_el h (fun k23 h => ?_)
                      refine awp_regionD Try_mixed (orcs := []) (gs := [.keep [1, 2, 9, 10, 11, 12] []]) (s' := ⟨[(1, pI t1), (2, pI t2), (9, .p (encL Track.cs v1)), (10, .p (encL Track.cs v2)), (11, pI t11), (12, pI (t12 + 1))], []⟩) (by kernel_rfl) (holds_of ((UU ∧ (InR .i64 (t12 + 1 : Int)) ∧ UU ∧ UU) ∧ (UU ∧ UU)) (by kernel_rfl) ⟨⟨TT, k23, TT, TT⟩, ⟨TT, TT⟩⟩) ?_
                      refine Done.mk ?_
                      obtain rfl := Option.some.inj h
                      exact ⟨rfl, by kernel_rfl⟩
                  · refine awp_cond_f (b := decide (t12 < (t4.cells.length : Int))) (by kernel_rfl) k16 ?_
                    refine doneExit ?_
                    refine Done.gh [.keep [1, 2, 9, 10, 11] [], .keep [1, 2, 9, 10, 11] []] (s' := ⟨[(1, pI t1), (2, pI t2), (9, .p (encL Track.cs v1)), (10, .p (encL Track.cs v2)), (11, pI t11)], []⟩) (by kernel_rfl) (holds_of (UU ∧ UU ∧ UU) (by kernel_rfl) ⟨TT, TT, TT⟩) ?_
                    refine Done.mk (thenQ_x ?_)
                    obtain rfl := Option.some.inj h
                    exact ⟨fun q => (by cases q), fun q => (by subst q; exact ⟨rfl, by kernel_rfl⟩)⟩
                · rcases o with _u | _u
                  · refine Done.as (e := (Exit.exit 2)) (s := ⟨[(1, pI t1), (2, pI t2), (9, .p (encL Track.cs v1)), (10, .p (encL Track.cs v2)), (11, pI t11)], []⟩) rfl (by kernel_rfl) ?_
                    refine Done.mk (inB_hit (inB_n (thenQ_n ?_)))
                    refine chk_el h (fun k24 h => ?_)
                    refine awp_regionD Try_mixed (orcs := []) (gs := [.keep [1, 2, 9, 10, 11] []]) (s' := ⟨[(1, pI t1), (2, pI t2), (9, .p (encL Track.cs v1)), (10, .p (encL Track.cs v2)), (11, pI (t11 + 1))], []⟩) (by kernel_rfl) (holds_of ((UU ∧ (InR .i64 (t11 + 1 : Int)) ∧ UU ∧ UU) ∧ (UU ∧ UU)) (by kernel_rfl) ⟨⟨TT, k24, TT, TT⟩, ⟨TT, TT⟩⟩) ?_
                    refine Done.mk ?_
                    obtain rfl := Option.some.inj h
                    exact ⟨rfl, by kernel_rfl⟩
                  · refine Done.as (e := Exit.ret) (s := ⟨[(6, pB false)], []⟩) rfl (by kernel_rfl) ?_
                    refine Done.mk (inB_r (inB_r (thenQ_r ?_)))
                    obtain rfl := Option.some.inj h
                    exact ⟨fun q => (by cases q), fun q => (by subst q; exact ⟨rfl, by kernel_rfl⟩)⟩
            · refine awp_cond_f (b := decide (t11 < (v1.length : Int))) (by kernel_rfl) k11 ?_
              refine doneExit ?_
              refine Done.gh [.keep [] [], .keep [] []] (s' := ⟨[], []⟩) (by kernel_rfl) (holds_of (UU ∧ UU ∧ UU) (by kernel_rfl) ⟨TT, TT, TT⟩) ?_
              refine Done.mk (thenQ_x ?_)
              obtain rfl := Option.some.inj h
              exact ⟨fun q => (by cases q), fun q => (by subst q; exact ⟨rfl, by kernel_rfl⟩)⟩
          · rcases o with _u | _u
            · refine Done.as (e := (Exit.exit 0)) (s := ⟨[], []⟩) rfl (by kernel_rfl) ?_
              refine Done.mk (inB_hit (thenQ_n ?_))
              refine awp_seq ?_
              refine bind_el h (fun b3 k25 h => ?_)
              refine awp_regionD Try_mixed (orcs := [(0, tV (pB b3))]) (gs := [.keep [6] []]) (s' := ⟨[(6, pB b3)], []⟩) (by kernel_rfl) (holds_of (((ASpec Try.prog 8 [] [] (pB b3) []) ∧ UU ∧ UU) ∧ (UU ∧ UU)) (by kernel_rfl) ⟨⟨L24_awake_ok k25, TT, TT⟩, ⟨TT, TT⟩⟩) ?_
              refine Done.mk (thenQ_n ?_)
              refine doneRet ?_
              refine Done.mk ?_
              obtain rfl := Option.some.inj h
              exact ⟨Or.inr rfl, by kernel_rfl, by kernel_rfl⟩
            · refine Done.as (e := Exit.ret) (s := ⟨[(6, pB false)], []⟩) rfl (by kernel_rfl) ?_
              refine Done.mk (inB_r (thenQ_r ?_))
              obtain rfl := Option.some.inj h
              exact ⟨Or.inr rfl, by kernel_rfl, by kernel_rfl⟩
end
end Go.AM
end
section
namespace Go.AM
open Go Go.RowKit Go.Proofs Go.Proofs.Ytijdlphadhpabaa Go.ChangeShapes Go.WideShapes
set_option maxRecDepth 100000 in
theorem moves_contract (hT : ∀ (r : Region) (dx dy : Int), r.Ok → In64 dx → In64 dy → L24_RingwalkMoves r dx dy = some true) (H : Type) (enc : TypeId × Value → H) (W : World) (base : Nat) (args : Array Value) (ds gs : List (DataW H)) (before : List MemPlace)
    (hval : ∀ (j : Nat) t v, Try.f6.params[j]? = some t → args[j]? = some v → Value.okWide Try.prog W .any base t v)
    (hW : DataW.Whole enc Try.prog Try.f6.params.toList Rows.ringwalkMovesSpec.vars false W args.toList ds gs before) :
    Calls Try.prog 6 args W fun e W' => ∃ v, e = .returned v ∧ Rows.ringwalkMovesSpec.post enc Try.prog Try.f6 false true false false W args v W' := by
  have hW' := hW
  obtain ⟨p, q, hA0, hV, rfl, hfz, hnd⟩ := hW
  have hA : DataW.TrodAll enc Try.prog W 0 (fun _ => true) true Try.f6.params.toList args.toList ds p := hA0
  rw [Try.params6] at hA hval
  obtain ⟨v0, vs0, d0, ds0, p0, q0, hargs, rfl, rfl, h0, r0⟩ := trodAll_cons hA
  obtain ⟨v1, vs1, d1, ds1, p1, q1, rfl, rfl, rfl, h1, r1⟩ := trodAll_cons r0
  obtain ⟨v2, vs2, d2, ds2, p2, q2, rfl, rfl, rfl, h2, r2⟩ := trodAll_cons r1
  obtain ⟨rfl, rfl, rfl⟩ := trodAll_nil r2
  obtain rfl : args = #[v0, v1, v2] := by cases args; simp_all
  obtain ⟨r, hr⟩ := vr_agg (φ := fun _ => none) rdRegion Try.underlying24 (hval 0 24 v0 rfl rfl) h0
  obtain ⟨dx, hx⟩ := vr_one (φ := fun _ => none) rdInt h1 (by obtain ⟨n, rfl⟩ := okWide_int Try.underlying3 (hval 1 3 v1 rfl rfl); rfl)
  obtain ⟨dy, hy⟩ := vr_one (φ := fun _ => none) rdInt h2 (by obtain ⟨n, rfl⟩ := okWide_int Try.underlying3 (hval 2 3 v2 rfl rfl); rfl)
  have hx := hx _ rfl
  have hy := hy _ rfl
  refine (law_calls (L24_RingwalkMoves_ok (hT r dx dy (Region.ok_vr hr) (int_ok_vr hx) (int_ok_vr hy))) W (vs := [v0, v1, v2]) (by rw [VRs]; exact ⟨_, _, rfl, hr, by rw [VRs]; exact ⟨_, _, rfl, hx, by rw [VRs]; exact ⟨_, _, rfl, hy, by rw [VRs]⟩⟩⟩)).mono ?_
  rintro e W' ⟨rfl, hb⟩
  exact ⟨_, rfl, law_post Try_laid Try.underlying4 rfl rfl (by decide +kernel) hW' rfl rfl rfl hb⟩
set_option maxRecDepth 100000 in
theorem moves_lifted (hT : ∀ (r : Region) (dx dy : Int), r.Ok → In64 dx → In64 dy → L24_RingwalkMoves r dx dy = some true) (os : Os) (started : os.Started) (H : Type) (enc : TypeId × Value → H) :
    ReturnsInHanded {} Try.checked os 6 .any (Rows.ringwalkMovesSpec.pre6 enc Try.prog Try.f6 Rows.ringwalkMovesRow.domain false) (Rows.ringwalkMovesSpec.post enc Try.prog Try.f6 false true false false) := by
  refine returnsInHanded_of_change (C := Try.checked) Try_own started (by kernel_rfl) Try.func6
    (ChangeSpec.witness6 (enc := enc) (C := Try.checked) false ⟨#[], #[.agg #[.slice none 0 0], .int .i64 0, .int .i64 0], []⟩ 8 (by kernel_rfl) (by kernel_rfl) (by kernel_rfl) (by kernel_rfl)) ?_
  intro W base args ds gs before hval hW _ _
  exact moves_contract hT H enc W base args ds gs before hval hW
theorem moves_row (hT : ∀ (r : Region) (dx dy : Int), r.Ok → In64 dx → In64 dy → L24_RingwalkMoves r dx dy = some true) : Rows.RingwalkMovesSaid :=
  OpenClaim.holds_of_wide 6 Try.f6 rfl rfl rfl rfl rfl rfl rfl ⟨rfl, rfl, rfl, rfl, rfl⟩ rfl rfl rfl rfl rfl (by kernel_rfl) Try.func6 (by kernel_rfl)
    (of_decide_eq_true (by kernel_rfl)) (by unfold Func.isWrapper; first | (rw [if_pos (by decide +kernel)]; kernel_rfl) | (rw [if_neg (by decide +kernel)]; exact ⟨rfl, rfl⟩))
    (fun os started H enc _ => moves_lifted hT os started H enc)
end Go.AM
end
section
namespace Go.AM
open Go
noncomputable section
def mvRun (d : Int) (x : Run) : Run := ⟨x.frm + d, x.to + d⟩
def mvRow (dx dy : Int) (w : Row) : Row := ⟨w.y + dy, w.runs.map (mvRun dx)⟩
def mvR (dx dy : Int) (r : Region) : Region := ⟨r.rows.map (mvRow dx dy)⟩
theorem sorted_ends {l : List Run} (h1 : ∀ x ∈ l, RunIn 4096 x) (h2 : l.Pairwise (fun x y => x.to < y.frm)) (h0 : 0 < l.length) {x : Run} (hx : x ∈ l) : (l[0]).frm ≤ x.frm ∧ x.to ≤ (l[l.length - 1]).to := by
  obtain ⟨j, hj, rfl⟩ := List.getElem_of_mem hx
  have hs := List.pairwise_iff_getElem.1 h2
  have a := h1 _ (List.getElem_mem h0)
  have b := h1 _ (List.getElem_mem hj)
  have c := h1 _ (List.getElem_mem (show l.length - 1 < l.length by omega))
  unfold RunIn at a b c
  constructor
  · rcases Nat.eq_zero_or_pos j with h | h
    · subst h; omega
    · have := hs 0 j h0 hj h; omega
  · rcases Nat.lt_or_ge j (l.length - 1) with h | h
    · have := hs j (l.length - 1) hj (by omega) h; omega
    · have : j = l.length - 1 := by omega
      subst this; omega
theorem runs_few4 {l : List Run} (h1 : ∀ x ∈ l, RunIn 4096 x) (h2 : l.Pairwise (fun x y => x.to < y.frm)) : l.length ≤ 8192 := by
  have key : ∀ (j : Nat) (hj : j < l.length), -4096 + (j : Int) ≤ (l[j]).frm := by
    intro j
    induction j with
    | zero => intro hj; have := h1 _ (List.getElem_mem hj); unfold RunIn at this; omega
    | succ j ih =>
      intro hj
      have a := ih (by omega)
      have b := h1 _ (List.getElem_mem (show j < l.length by omega))
      have c := List.pairwise_iff_getElem.1 h2 j (j + 1) (by omega) hj (by omega)
      unfold RunIn at b; omega
  rcases Nat.eq_zero_or_pos l.length with h | h
  · omega
  · have a := key (l.length - 1) (by omega)
    have b := h1 _ (List.getElem_mem (show l.length - 1 < l.length by omega))
    unfold RunIn at b; omega
theorem rows_few4 {r : Region} (hV : VReg r) : r.rows.length ≤ 8192 := by
  have key : ∀ (j : Nat) (hj : j < r.rows.length), -4096 + (j : Int) ≤ (r.rows[j]).y := by
    intro j
    induction j with
    | zero => intro hj; have := hV.1 _ (List.getElem_mem hj); have := this.1; omega
    | succ j ih =>
      intro hj
      have a := ih (by omega)
      have c := List.pairwise_iff_getElem.1 hV.2 j (j + 1) (by omega) hj (by omega)
      omega
  rcases Nat.eq_zero_or_pos r.rows.length with h | h
  · omega
  · have a := key (r.rows.length - 1) (by omega)
    have b := (hV.1 _ (List.getElem_mem (show r.rows.length - 1 < r.rows.length by omega))).2.1
    omega
theorem set_step {l : List Run} {d : Int} {k : Nat} (hk : k < l.length) : ((l.take k).map (mvRun d) ++ List.replicate (l.length - k) (Run.mk 0 0)).set k (mvRun d l[k]) = (l.take (k + 1)).map (mvRun d) ++ List.replicate (l.length - (k + 1)) (Run.mk 0 0) := by
  have hlen : ((l.take k).map (mvRun d)).length = k := by rw [List.length_map, List.length_take]; omega
  rw [List.set_append_right k _ (by omega), hlen, Nat.sub_self, show l.length - k = (l.length - (k + 1)) + 1 by omega, List.replicate_succ, List.set_cons_zero, List.take_succ_eq_append_getElem hk, List.map_append, List.append_assoc]
  rfl
theorem runs_Shift_eq (l : List Run) (hl : l.length ≤ maxLen) (h1 : ∀ x ∈ l, RunIn 4096 x) (h2 : l.Pairwise (fun x y => x.to < y.frm)) (h0 : l ≠ []) {d : Int} (hd : -8192 ≤ d ∧ d ≤ 8192) : runs_Shift l d = some (l.map (mvRun d), 0) := by
  have hp : 0 < l.length := List.length_pos_iff.2 h0
  have hm := runs_few4 h1 h2
  refine Ret.eq ?_
  unfold runs_Shift
  refine Ret.bindE (runs_Valid_eq l hl) ?_
  have hv : runsV 1048576 none l = true := runsV_none.2 ⟨fun x hx => by have := h1 x hx; unfold RunIn at *; omega, h2⟩
  rw [hv]
  refine Ret.ifF rfl (Ret.ifF (by rw [beq_eq_false_iff_ne]; omega) (Ret.bindE (x := false) (Ret.eq ?_) (Ret.ifF rfl (Ret.chk ⟨by omega, by omega, by omega, by omega⟩ ?_))))
  · unfold runs_Shift_j1
    have a := h1 _ (List.getElem_mem hp)
    have b := h1 _ (List.getElem_mem (show l.length - 1 < l.length by omega))
    unfold RunIn at a b
    exact Ret.ifF (by rw [decide_eq_false_iff_not]; omega) (Ret.ifF (by rw [decide_eq_false_iff_not]; omega) (Ret.getI (k := 0) rfl hp (Ret.chk (inR (by omega) (by omega)) (Ret.ifF (by rw [decide_eq_false_iff_not]; omega) (Ret.chk (inR (by omega) (by omega)) (Ret.getI (k := l.length - 1) (by omega) (by omega) (Ret.chk (inR (by omega) (by omega)) (Ret.mk (by rw [decide_eq_false_iff_not]; omega)))))))))
  · refine Ret.bind (Q' := fun o => o = l.map (mvRun d)) ?_ (fun o ho => Ret.mk (by rw [ho]))
    refine Ret.loop (I := fun s : List Run × Int => ∃ k : Nat, s.2 = k ∧ k ≤ l.length ∧ s.1 = (l.take k).map (mvRun d) ++ List.replicate (l.length - k) (Run.mk 0 0)) (μ := fun s : List Run × Int => l.length - s.2.toNat) (fun s hs => ?_) ⟨0, rfl, Nat.zero_le _, by simp⟩
    obtain ⟨t, i⟩ := s
    obtain ⟨k, rfl, hk, rfl⟩ := hs
    unfold runs_Shift_l2
    refine Ret.ifB (fun hlt => ?_) (fun hge => ?_)
    · rw [decide_eq_true_eq] at hlt
      have hk' : k < l.length := by omega
      have a := h1 _ (List.getElem_mem hk')
      unfold RunIn at a
      refine Ret.getI rfl hk' (Ret.chk (inR (by omega) (by omega)) (Ret.chk (inR (by omega) (by omega)) (Ret.getI (k := k) rfl (by rw [List.length_append, List.length_map, List.length_take, List.length_replicate]; omega) (Ret.chk (inR (by omega) (by omega)) (Ret.mk ⟨⟨k + 1, by simp, by omega, ?_⟩, by simp only; omega⟩)))))
      simp only [Int.toNat_natCast]
      exact set_step hk'
    · rw [decide_eq_false_iff_not] at hge
      have : k = l.length := by omega
      subst this
      exact Ret.mk (by simp)
theorem near_eq (d : Int) : region_near d = some (decide (-8192 ≤ d ∧ d ≤ 8192)) := by
  refine Ret.eq ?_
  unfold region_near
  refine Ret.bind (Q' := fun b => b = decide (-8192 ≤ d ∧ d ≤ 8192)) ?_ (fun b hb => Ret.mk hb)
  unfold region_near_j1
  refine Ret.ifB (fun h => Ret.mk ?_) (fun h => Ret.mk ?_)
  · rw [decide_eq_true_eq] at h
    exact decide_eq_decide.2 (by omega)
  · rw [decide_eq_false_iff_not] at h
    rw [eq_comm, decide_eq_false_iff_not]; omega
structure InBox (r : Region) (x0 x1 : Int) : Prop where
  a : -4096 ≤ x0 ∧ x0 ≤ 4096
  b : -4096 ≤ x1 ∧ x1 ≤ 4096
  all : ∀ w ∈ r.rows, ∀ x ∈ w.runs, x0 ≤ x.frm ∧ x.to - 1 ≤ x1
theorem Box_ret (r : Region) (hr : r.Ok) : Ret (region_Box r) fun v => (∀ h : VReg r ∧ 0 < r.rows.length, v.2.2 = true ∧ v.1.y = (r.rows[0]'h.2).y ∧ v.2.1.y = (r.rows[r.rows.length - 1]'(by have := h.2; omega)).y ∧ InBox r v.1.x v.2.1.x) ∧ (¬ (VReg r ∧ 0 < r.rows.length) → v.2.2 = false) := by
  unfold region_Box
  refine Ret.bind (Q' := fun b => b = false ↔ (VReg r ∧ 0 < r.rows.length)) ?_ (fun b hb => ?_)
  · unfold region_Box_j1
    refine Ret.bindE (region_Valid_eq r hr) (Ret.ifB (fun h => Ret.mk ?_) (fun h => Ret.mk ?_))
    · rw [Bool.not_eq_true'] at h
      exact ⟨fun e => (by cases e), fun k => (by rw [validB_iff.2 k.1] at h; cases h)⟩
    · rw [Bool.not_eq_false'] at h
      have hV := validB_iff.1 h
      rw [beq_eq_false_iff_ne]
      exact ⟨fun h => ⟨hV, by omega⟩, fun h => by omega⟩
  by_cases hh : VReg r ∧ 0 < r.rows.length
  · have hb := hb.2 hh
    obtain ⟨hV, h0⟩ := hh
    have hl := rows_few4 hV
    subst hb
    refine Ret.ifF rfl (Ret.getI (k := 0) rfl h0 (Ret.chk (inR (by omega) (by omega)) (Ret.getI (k := r.rows.length - 1) (by omega) (by omega) ?_)))
    refine Ret.bind (Q' := fun o => InBox r o.1 o.2) ?_ (fun o ho => ?_)
    · refine Ret.loop (I := fun s : Int × Int × Int => ∃ k : Nat, s.1 = k ∧ k ≤ r.rows.length ∧ (-4096 ≤ s.2.1 ∧ s.2.1 ≤ 4096) ∧ (-4096 ≤ s.2.2 ∧ s.2.2 ≤ 4096) ∧ ∀ w ∈ r.rows.take k, ∀ x ∈ w.runs, s.2.1 ≤ x.frm ∧ x.to - 1 ≤ s.2.2) (μ := fun s : Int × Int × Int => r.rows.length - s.1.toNat) (fun s hs => ?_) ⟨0, rfl, Nat.zero_le _, by simp, by simp, fun w hw => by simp at hw⟩
      obtain ⟨i, a, b⟩ := s
      obtain ⟨k, rfl, hk, ha, hb, hall⟩ := hs
      simp only at ha hb hall
      unfold region_Box_l2
      refine Ret.ifB (fun hlt => ?_) (fun hge => ?_)
      · rw [decide_eq_true_eq] at hlt
        have hk' : k < r.rows.length := by omega
        have hw := hV.1 _ (List.getElem_mem hk')
        obtain ⟨_, _, hne, hin, hpw⟩ := hw
        have hp := List.length_pos_iff.2 hne
        have hrl := runs_few4 hin hpw
        have q1 := hin _ (List.getElem_mem hp)
        have q2 := hin _ (List.getElem_mem (show (r.rows[k]).runs.length - 1 < (r.rows[k]).runs.length by omega))
        unfold RunIn at q1 q2
        refine Ret.getI rfl hk' (Ret.getI (k := 0) rfl hp (Ret.chk (inR (by omega) (by omega)) (Ret.getI (k := (r.rows[k]).runs.length - 1) (by omega) (by omega) (Ret.chk (inR (by omega) (by omega)) (Ret.chk (inR (by omega) (by omega)) (Ret.mk ⟨⟨k + 1, by simp, by omega, by simp only; omega, by simp only; omega, fun w hw x hx => ?_⟩, by simp only; omega⟩))))))
        simp only
        rw [List.take_succ_eq_append_getElem hk', List.mem_append, List.mem_singleton] at hw
        rcases hw with hw | rfl
        · have := hall w hw x hx; omega
        · have := sorted_ends hin hpw hp hx; omega
      · rw [decide_eq_false_iff_not] at hge
        have : k = r.rows.length := by omega
        subst this
        rw [List.take_length] at hall
        exact Ret.mk ⟨ha, hb, hall⟩
    · obtain ⟨a, b⟩ := o
      refine Ret.mk ?_
      exact ⟨fun _ => ⟨rfl, rfl, rfl, ho⟩, fun k => absurd ⟨hV, h0⟩ k⟩
  · have hb : b = true := by cases b with
      | true => rfl
      | false => exact absurd (hb.1 rfl) hh
    exact Ret.ifT hb (Ret.mk ⟨fun k => absurd k hh, fun _ => rfl⟩)
theorem mv_valid {r : Region} (hr : r.Ok) (hV : VReg r) (h0 : 0 < r.rows.length) {dx dy x0 x1 : Int} (hB : InBox r x0 x1) (hx : -4096 ≤ x0 + dx ∧ x1 + dx < 4096) (hy : -4096 ≤ (r.rows[0]).y + dy ∧ (r.rows[r.rows.length - 1]).y + dy < 4096) : (mvR dx dy r).Ok ∧ VReg (mvR dx dy r) := by
  have hmem : ∀ v ∈ (mvR dx dy r).rows, ∃ w ∈ r.rows, v = mvRow dx dy w := fun v hv => by
    obtain ⟨w, hw, rfl⟩ := List.mem_map.1 hv; exact ⟨w, hw, rfl⟩
  have hrow : ∀ w ∈ r.rows, -4096 ≤ w.y + dy ∧ w.y + dy < 4096 := fun w hw => by
    obtain ⟨j, hj, rfl⟩ := List.getElem_of_mem hw
    have hs := List.pairwise_iff_getElem.1 hV.2
    constructor
    · rcases Nat.eq_zero_or_pos j with h | h
      · subst h; omega
      · have := hs 0 j h0 hj h; omega
    · rcases Nat.lt_or_ge j (r.rows.length - 1) with h | h
      · have := hs j (r.rows.length - 1) hj (by omega) h; omega
      · have : j = r.rows.length - 1 := by omega
        subst this; omega
  have hrun : ∀ w ∈ r.rows, ∀ x ∈ w.runs, RunIn 4096 (mvRun dx x) := fun w hw x hx => by
    have q1 := hB.all w hw x hx
    have q2 := (hV.1 w hw).2.2.2.1 x hx
    unfold RunIn mvRun at *; simp only; omega
  refine ⟨⟨by unfold mvR; rw [List.length_map]; exact hr.1, fun v hv => ?_⟩, fun v hv => ?_, ?_⟩
  · obtain ⟨w, hw, rfl⟩ := hmem v hv
    have := hrow w hw
    refine ⟨by unfold mvRow In64; simp only; omega, by unfold mvRow; rw [List.length_map]; exact (hr.2 w hw).2.1, fun z hz => ?_⟩
    obtain ⟨x, hx, rfl⟩ := List.mem_map.1 hz
    have := hrun w hw x hx
    unfold RunIn at this
    unfold Run.Ok In64; omega
  · obtain ⟨w, hw, rfl⟩ := hmem v hv
    have q := hrow w hw
    have q2 := hV.1 w hw
    refine ⟨q.1, q.2, fun h => q2.2.2.1 (List.map_eq_nil_iff.1 h), fun z hz => ?_, ?_⟩
    · obtain ⟨x, hx, rfl⟩ := List.mem_map.1 hz
      exact hrun w hw x hx
    · unfold mvRow
      rw [List.pairwise_map]
      exact q2.2.2.2.2.imp fun h => by unfold mvRun; simp only; omega
  · unfold mvR
    rw [List.pairwise_map]
    exact hV.2.imp fun h => by unfold mvRow; simp only; omega
def Moved (r : Region) (dx dy : Int) (v : Region × Int) : Prop := VReg r ∧ (-8192 ≤ dx ∧ dx ≤ 8192) ∧ (-8192 ≤ dy ∧ dy ≤ 8192) ∧ v.1 = mvR dx dy r ∧ v.1.Ok ∧ VReg v.1
theorem Shift_ret (r : Region) (hr : r.Ok) (dx dy : Int) : Ret (region_Shift r dx dy) fun v => v.2 ≠ 0 ∨ v.1.rows = [] ∨ Moved r dx dy v := by
  unfold region_Shift
  refine Ret.bind (Box_ret r hr) fun v hv => Ret.bindE (region_Valid_eq r hr) ?_
  refine Ret.ifB (fun h => Ret.mk (.inl (by decide))) (fun h => ?_)
  rw [Bool.not_eq_false'] at h
  have hV := validB_iff.1 h
  refine Ret.ifB (fun h => Ret.mk (.inr (.inl rfl))) (fun h2 => ?_)
  rw [Bool.not_eq_false'] at h2
  by_cases hh : VReg r ∧ 0 < r.rows.length
  · obtain ⟨_, hy0, hy1, hB⟩ := hv.1 hh
    have hl := rows_few4 hV
    have h0 := hh.2
    have r0 := hV.1 _ (List.getElem_mem h0)
    have r1 := hV.1 _ (List.getElem_mem (show r.rows.length - 1 < r.rows.length by omega))
    have b1 := hB.a
    have b2 := hB.b
    have y0 : -4096 ≤ v.1.y ∧ v.1.y < 4096 := by rw [hy0]; exact ⟨r0.1, r0.2.1⟩
    have y1 : -4096 ≤ v.2.1.y ∧ v.2.1.y < 4096 := by rw [hy1]; exact ⟨r1.1, r1.2.1⟩
    refine Ret.bind (Q' := fun b => b = false → (-8192 ≤ dx ∧ dx ≤ 8192) ∧ (-8192 ≤ dy ∧ dy ≤ 8192) ∧ (-4096 ≤ v.1.x + dx ∧ v.1.x + dx < 4096) ∧ (-4096 ≤ v.2.1.x + dx ∧ v.2.1.x + dx < 4096) ∧ (-4096 ≤ v.1.y + dy ∧ v.1.y + dy < 4096) ∧ (-4096 ≤ v.2.1.y + dy ∧ v.2.1.y + dy < 4096)) ?_ (fun b hb => ?_)
    · unfold region_Shift_j1
      refine Ret.bindE (near_eq dx) (Ret.ifB (fun h => Ret.mk (fun e => by cases e)) (fun n1 => ?_))
      rw [Bool.not_eq_false', decide_eq_true_eq] at n1
      refine Ret.bindE (near_eq dy) (Ret.ifB (fun h => Ret.mk (fun e => by cases e)) (fun n2 => ?_))
      rw [Bool.not_eq_false', decide_eq_true_eq] at n2
      refine Ret.chk (inR (by omega) (by omega)) (Ret.bindE (region_ok_eq _) (Ret.ifB (fun h => Ret.mk (fun e => by cases e)) (fun n3 => ?_)))
      rw [Bool.not_eq_false', decide_eq_true_eq] at n3
      refine Ret.chk (inR (by omega) (by omega)) (Ret.bindE (region_ok_eq _) (Ret.ifB (fun h => Ret.mk (fun e => by cases e)) (fun n4 => ?_)))
      rw [Bool.not_eq_false', decide_eq_true_eq] at n4
      refine Ret.chk (inR (by omega) (by omega)) (Ret.bindE (region_ok_eq _) (Ret.ifB (fun h => Ret.mk (fun e => by cases e)) (fun n5 => ?_)))
      rw [Bool.not_eq_false', decide_eq_true_eq] at n5
      refine Ret.chk (inR (by omega) (by omega)) (Ret.bindE (region_ok_eq _) (Ret.mk (fun n6 => ?_)))
      rw [Bool.not_eq_false', decide_eq_true_eq] at n6
      exact ⟨n1, n2, n3, n4, n5, n6⟩
    · refine Ret.ifB (fun h => Ret.mk (.inl (by show (8 : Int) ≠ 0; decide))) (fun h3 => ?_)
      obtain ⟨n1, n2, n3, n4, n5, n6⟩ := hb h3
      rw [hy0] at n5
      rw [hy1] at n6
      obtain ⟨m1, m2⟩ := mv_valid hr hV h0 hB (dx := dx) (dy := dy) ⟨n3.1, n4.2⟩ ⟨n5.1, n6.2⟩
      refine Ret.bind (Q' := fun o => o = (mvR dx dy r).rows) ?_ (fun o ho => Ret.mk (.inr (.inr ⟨hV, n1, n2, by rw [ho], by rw [ho]; exact m1, by rw [ho]; exact m2⟩)))
      refine Ret.loop (I := fun s : Int × List Row => ∃ k : Nat, s.1 = k ∧ k ≤ r.rows.length ∧ s.2 = (r.rows.take k).map (mvRow dx dy)) (μ := fun s : Int × List Row => r.rows.length - s.1.toNat) (fun s hs => ?_) ⟨0, rfl, Nat.zero_le _, by simp⟩
      obtain ⟨i, t⟩ := s
      obtain ⟨k, rfl, hk, rfl⟩ := hs
      unfold region_Shift_l2
      refine Ret.ifB (fun hlt => ?_) (fun hge => ?_)
      · rw [decide_eq_true_eq] at hlt
        have hk' : k < r.rows.length := by omega
        have hw := hV.1 _ (List.getElem_mem hk')
        obtain ⟨w1, w2, hne, hin, hpw⟩ := hw
        refine Ret.getI rfl hk' (Ret.bindE (runs_Shift_eq _ (hr.2 _ (List.getElem_mem hk')).2.1 hin hpw hne n1) (Ret.chk (inR (by omega) (by omega)) (Ret.chk (by rw [List.length_map, List.length_take]; simp; omega) (Ret.chk (inR (by omega) (by omega)) (Ret.mk ⟨⟨k + 1, by simp, by omega, ?_⟩, by simp only; omega⟩)))))
        simp only
        rw [List.take_succ_eq_append_getElem hk', List.map_append]; rfl
      · rw [decide_eq_false_iff_not] at hge
        have : k = r.rows.length := by omega
        subst this
        exact Ret.mk (by rw [List.take_length]; rfl)
  · rw [hv.2 hh] at h2; cases h2
theorem inG_mv (r : Region) (dx dy : Int) : inG (mvR dx dy r) = mvS dx dy (inG r) := by
  funext a b
  refine propext ?_
  unfold inG mvR mvS inRuns
  constructor
  · rintro ⟨v, hv, e, z, hz, h1, h2⟩
    obtain ⟨w, hw, rfl⟩ := List.mem_map.1 hv
    obtain ⟨x, hx, rfl⟩ := List.mem_map.1 hz
    unfold mvRow at e
    unfold mvRun at h1 h2
    simp only at e h1 h2
    exact ⟨w, hw, by omega, x, hx, by omega, by omega⟩
  · rintro ⟨w, hw, e, x, hx, h1, h2⟩
    exact ⟨mvRow dx dy w, List.mem_map.2 ⟨w, hw, rfl⟩, by unfold mvRow; simp only; omega, mvRun dx x, List.mem_map.2 ⟨x, hx, rfl⟩, by unfold mvRun; simp only; omega, by unfold mvRun; simp only; omega⟩
theorem RingwalkMoves_true (r : Region) (dx dy : Int) (hr : r.Ok) (_hx : In64 dx) (_hy : In64 dy) : L24_RingwalkMoves r dx dy = some true := by
  unfold L24_RingwalkMoves
  rw [Small_eq r hr, Option.bind_some]
  by_cases hs : smallB r = true
  · rw [hs]
    refine Ret.eq ?_
    refine Ret.ifF rfl (Ret.bind (Shift_ret r hr dx dy) fun v hv => ?_)
    refine Ret.bind (Q' := fun b => b = false → v.2 = 0 ∧ v.1.rows ≠ []) ?_ (fun b hb => ?_)
    · unfold L24_RingwalkMoves_j1
      refine Ret.ifB (fun h => Ret.mk (fun e => by cases e)) (fun h => Ret.mk (fun e => ?_))
      simp only [bne_eq_false_iff_eq] at h
      rw [beq_eq_false_iff_ne] at e
      exact ⟨h, fun k => by rw [k] at e; exact e rfl⟩
    · refine Ret.ifB (fun h => Ret.bindE awake_eq (Ret.mk rfl)) (fun h => ?_)
      obtain ⟨hv0, hvne⟩ := hb h
      rcases hv with hv | hv | ⟨hV, nx, ny, he, hok, hV2⟩
      · exact absurd hv0 hv
      · exact absurd hv hvne
      · obtain ⟨ps, hl, _, w1, _, t1, _⟩ := Walk_both r hr
        obtain ⟨qs, _, _, w2, _, t2, _⟩ := Walk_both v.1 hok
        have t1 := t1 hV
        have t2 := t2 hV2
        have hq := sq_inG hV
        have hq2 := sq_inG hV2
        rw [he, inG_mv] at t2 hq2
        have e := t2.uniq (traces_mv t1)
        have hwk : ∀ P ∈ ps, wk (mvPoly dx dy P) = (wk P).map (mvC dx dy) := fun P hP => wk_mv hq hq2 ((t1.mem P).1 hP)
        rw [e, walks_mv hwk] at w2
        have hcell : ∀ t ∈ walksOf ps, t.cells.length ≤ 65536 ∧ ∀ c ∈ t.cells, -4096 ≤ c.x ∧ c.x < 4096 ∧ -4096 ≤ c.y ∧ c.y < 4096 := fun t ht => by
          refine ⟨walksOf_cells t ht, fun c hc => ?_⟩
          unfold walksOf at ht
          rw [List.mem_map] at ht
          obtain ⟨P, hP, rfl⟩ := ht
          have := (wk_poly hV hs ((t1.mem P).1 (List.mem_filter.1 hP).1)).1.mem c hc
          exact hq _ _ this
        have hwl : (walksOf ps).length ≤ 67125249 := by
          unfold walksOf
          rw [List.length_map]
          exact Nat.le_trans (List.length_filter_le _ _) hl
        generalize walksOf ps = ws at w1 w2 hcell hwl
        refine Ret.bindE w1 (Ret.bindE (show ringwalk_Walk (Region.mk v.1.rows) = some (ws.map (mvT dx dy)) from w2) (Ret.ifF (by simp) ?_))
        refine Ret.bind (Q' := fun o => o = .inl ()) ?_ (fun o ho => by subst ho; exact Ret.bindE awake_eq (Ret.mk rfl))
        refine Ret.loop (I := fun i : Int => ∃ k : Nat, i = k ∧ k ≤ ws.length) (μ := fun i : Int => ws.length - i.toNat) (fun i hi => ?_) ⟨0, rfl, Nat.zero_le _⟩
        obtain ⟨k, rfl, hk⟩ := hi
        unfold L24_RingwalkMoves_l3
        refine Ret.ifB (fun hlt => ?_) (fun hge => Ret.mk rfl)
        rw [decide_eq_true_eq] at hlt
        have hk' : k < ws.length := by omega
        have hk2 : k < (ws.map (mvT dx dy)).length := by rw [List.length_map]; exact hk'
        obtain ⟨c1, c2⟩ := hcell _ (List.getElem_mem hk')
        have hg : (ws.map (mvT dx dy))[k] = mvT dx dy ws[k] := List.getElem_map _
        have hgl : ((ws.map (mvT dx dy))[k]).cells.length = (ws[k]).cells.length := by rw [hg]; unfold mvT; exact List.length_map _
        refine Ret.getI rfl hk' (Ret.getI rfl hk2 (Ret.ifF (by rw [hgl]; simp) ?_))
        refine Ret.bind (Q' := fun o => o = .inl ()) ?_ (fun o ho => by subst ho; exact Ret.chk (inR (by omega) (by omega)) (Ret.mk ⟨⟨k + 1, by omega, by omega⟩, by omega⟩))
        refine Ret.loop (I := fun i : Int => ∃ j : Nat, i = j ∧ j ≤ (ws[k]).cells.length) (μ := fun i : Int => (ws[k]).cells.length - i.toNat) (fun i hi => ?_) ⟨0, rfl, Nat.zero_le _⟩
        obtain ⟨j, rfl, hj⟩ := hi
        unfold L24_RingwalkMoves_l2
        refine Ret.getI rfl hk' (Ret.ifB (fun hlt => ?_) (fun hge => Ret.mk rfl))
        rw [decide_eq_true_eq] at hlt
        have hj' : j < (ws[k]).cells.length := by omega
        have hj2 : j < ((ws.map (mvT dx dy))[k]).cells.length := by rw [hgl]; exact hj'
        have hc := c2 _ (List.getElem_mem hj')
        have hgc : (((ws.map (mvT dx dy))[k]).cells)[j] = mvC dx dy ((ws[k]).cells[j]) := by simp [mvT]
        refine Ret.getI rfl hk2 (Ret.getI rfl hj2 (Ret.getI rfl hj' (Ret.chk (inR (by omega) (by omega)) (Ret.chk (inR (by omega) (by omega)) (Ret.ifF (by rw [hgc]; simp [mvC]) (Ret.chk (inR (by omega) (by omega)) (Ret.mk ⟨⟨j + 1, by omega, by omega⟩, by omega⟩)))))))
  · rw [Bool.not_eq_true] at hs
    rw [hs, awake_eq]
    rfl
end
end Go.AM
end
section
namespace Go.Proofs.Ytijdlphadhpabaa
theorem moves_holds : Rows.RingwalkMovesSaid := Go.AM.moves_row Go.AM.RingwalkMoves_true
end Go.Proofs.Ytijdlphadhpabaa
end
