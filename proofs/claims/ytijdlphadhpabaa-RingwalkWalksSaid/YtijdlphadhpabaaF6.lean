/- Models of functions, and that their calls do what the models say. Printed by gen.py. -/
import Derived.Test.YtijdlphadhpabaaProg
import Derived.Test.YtijdlphadhpabaaF5
section
namespace Go.AM
open Go Go.RowKit Go.Proofs
noncomputable section
def R23_SameAll_l1 (a : (List Track)) (b : (List Track)) (s : Int) : Option ((Int) ⊕ ((Unit) ⊕ (Unit))) :=
  match s with
  | t13 =>
    ifB (decide (t13 < (a.length : Int)))
    ((getI a t13).bind fun t =>
      (getI b t13).bind fun t1 =>
      (R23_Same t t1).bind fun b1 =>
      ifB (!b1)
      (some (.inr (.inr ())))
      (chk (InR .i64 (t13 + 1 : Int))
        (some (.inl (t13 + 1)))))
    (some (.inr (.inl ())))
noncomputable def R23_SameAll (a : (List Track)) (b : (List Track)) : Option Bool :=
  ifB ((a.length : Int) != (b.length : Int))
  (some false)
  ((loopP (R23_SameAll_l1 a b) 0).bind fun o => match o with
    | .inl _ => some true
    | .inr _ => some false)
set_option maxRecDepth 100000 in
set_option maxHeartbeats 4000000 in
theorem R23_SameAll_ok {a : (List Track)} {b : (List Track)} {r : Bool} (h : R23_SameAll a b = some r) : ASpec Try.prog 9 [.p (encL Track.cs a), .p (encL Track.cs b)] [] (pB r) [] := by
  refine aspec_of Try.func9 (c := _) rfl (by kernel_rfl) (by rw [Try.ntmps9]; exact Nat.le_of_ble_eq_true rfl) ?_
  refine awp_seq ?_
  refine awp_regionD Try_mixed (orcs := []) (gs := [.keep [0, 1] []]) (s' := ⟨[(0, .p (encL Track.cs a)), (1, .p (encL Track.cs b))], []⟩) (by kernel_rfl) (holds_of ((UU ∧ UU) ∧ (UU ∧ UU)) (by kernel_rfl) ⟨⟨TT, TT⟩, ⟨TT, TT⟩⟩) ?_
  refine Done.mk (thenQ_n ?_)
  refine awp_seq ?_
  refine awp_seq ?_
  refine awp_regionD Try_mixed (orcs := []) (gs := [.keep [0, 1, 10] []]) (s' := ⟨[(0, .p (encL Track.cs a)), (1, .p (encL Track.cs b)), (10, pB ((a.length : Int) != (b.length : Int)))], []⟩) (by kernel_rfl) (holds_of ((UU ∧ UU ∧ UU ∧ UU ∧ UU ∧ UU) ∧ (UU ∧ UU)) (by kernel_rfl) ⟨⟨TT, TT, TT, TT, TT, TT⟩, ⟨TT, TT⟩⟩) ?_
  refine Done.mk (thenQ_n ?_)
  refine ifB_el h (fun k1 h => ?_) (fun k1 h => ?_)
  · refine awp_cond_t (b := (a.length : Int) != (b.length : Int)) (by kernel_rfl) k1 ?_
    refine awp_seq ?_
    refine awp_regionD Try_mixed (orcs := []) (gs := [.keep [4] []]) (s' := ⟨[(4, pB false)], []⟩) (by kernel_rfl) (holds_of ((UU ∧ UU) ∧ (UU ∧ UU)) (by kernel_rfl) ⟨⟨TT, TT⟩, ⟨TT, TT⟩⟩) ?_
    refine Done.mk (thenQ_n ?_)
    refine doneRet ?_
    refine Done.mk (thenQ_r ?_)
    obtain rfl := Option.some.inj h
    exact ⟨Or.inr rfl, by kernel_rfl, by kernel_rfl⟩
  · refine awp_cond_f (b := (a.length : Int) != (b.length : Int)) (by kernel_rfl) k1 ?_
    refine doneSkip ?_
    refine Done.mk (thenQ_n ?_)
    refine awp_seq ?_
    refine awp_seq ?_
    refine awp_regionD Try_mixed (orcs := []) (gs := [.keep [0, 1, 12, 13] []]) (s' := ⟨[(0, .p (encL Track.cs a)), (1, .p (encL Track.cs b)), (12, pI ((a.length : Int))), (13, pI 0)], []⟩) (by kernel_rfl) (holds_of ((UU ∧ UU ∧ UU ∧ UU) ∧ (UU ∧ UU)) (by kernel_rfl) ⟨⟨TT, TT, TT, TT⟩, ⟨TT, TT⟩⟩) ?_
    refine Done.mk (thenQ_n ?_)
    refine awp_block ?_
    refine bind_el h (fun o hm h => ?_)
    refine awp_gh [.keep [0, 1, 12, 13] [], .keep [0, 1, 12, 13] []] (s' := ⟨[(0, .p (encL Track.cs a)), (1, .p (encL Track.cs b)), (12, pI ((a.length : Int))), (13, pI 0)], []⟩) (by kernel_rfl) (holds_of (UU ∧ UU ∧ UU) (by kernel_rfl) ⟨TT, TT, TT⟩) ?_
    refine awp_tail (fun o => match o with | .inl _ => (Exit.exit 0) | .inr _ => Exit.ret) (fun o => match o with | .inl _ => ⟨[], []⟩ | .inr _ => ⟨[(4, pB false)], []⟩) hm (fun o h => ?_) ?_
    · refine awp_loop' (fun s => match s with | t13 => ⟨[(0, .p (encL Track.cs a)), (1, .p (encL Track.cs b)), (12, pI ((a.length : Int))), (13, pI t13)], []⟩) h (by kernel_rfl) (fun t13 out h => ?_)
      refine awp_seq ?_
      refine awp_regionD Try_mixed (orcs := []) (gs := [.keep [0, 1, 12, 13, 14] []]) (s' := ⟨[(0, .p (encL Track.cs a)), (1, .p (encL Track.cs b)), (12, pI ((a.length : Int))), (13, pI t13), (14, pB (decide (t13 < (a.length : Int))))], []⟩) (by kernel_rfl) (holds_of ((UU ∧ UU) ∧ (UU ∧ UU)) (by kernel_rfl) ⟨⟨TT, TT⟩, ⟨TT, TT⟩⟩) ?_
      refine Done.mk (thenQ_n ?_)
      refine awp_seq ?_
      refine ifB_el h (fun k2 h => ?_) (fun k2 h => ?_)
      · refine awp_cond_t (b := decide (t13 < (a.length : Int))) (by kernel_rfl) k2 ?_
        refine doneSkip ?_
        refine Done.mk (thenQ_n ?_)
        refine awp_seq ?_
        refine awp_block ?_
        refine awp_seq ?_
        refine awp_regionD Try_mixed (orcs := []) (gs := [.keep [0, 1, 5, 12, 13] []]) (s' := ⟨[(0, .p (encL Track.cs a)), (1, .p (encL Track.cs b)), (5, pI t13), (12, pI ((a.length : Int))), (13, pI t13)], []⟩) (by kernel_rfl) (holds_of ((UU ∧ UU ∧ UU) ∧ (UU ∧ UU)) (by kernel_rfl) ⟨⟨TT, TT, TT⟩, ⟨TT, TT⟩⟩) ?_
        refine Done.mk (thenQ_n ?_)
        refine awp_seq ?_
        refine bind_el h (fun t k3 h => ?_)
        replace k3 := getI_el k3
        refine bind_el h (fun t1 k4 h => ?_)
        replace k4 := getI_el k4
        refine bind_el h (fun b1 k5 h => ?_)
        refine awp_regionD Try_mixed (orcs := [(3, tV (.agg [pI t.role, pB t.closed, .p (encL Cell.cs t.cells)])), (7, tV (.agg [pI t1.role, pB t1.closed, .p (encL Cell.cs t1.cells)])), (8, tV (pB b1))]) (gs := [.keep [0, 1, 12, 13, 25] []]) (s' := ⟨[(0, .p (encL Track.cs a)), (1, .p (encL Track.cs b)), (12, pI ((a.length : Int))), (13, pI t13), (25, pB (!b1))], []⟩) (by kernel_rfl) (holds_of ((UU ∧ UU ∧ ((0 ≤ t13 ∧ t13 < (a.length : Int))) ∧ (rowHas (a.flatMap Track.cs) (t13.toNat * 3) [pI t.role, pB t.closed, .p (encL Cell.cs t.cells)]) ∧ UU ∧ UU ∧ ((0 ≤ t13 ∧ t13 < (b.length : Int))) ∧ (rowHas (b.flatMap Track.cs) (t13.toNat * 3) [pI t1.role, pB t1.closed, .p (encL Cell.cs t1.cells)]) ∧ (ASpec Try.prog 17 [.agg [pI t.role, pB t.closed, .p (encL Cell.cs t.cells)], .agg [pI t1.role, pB t1.closed, .p (encL Cell.cs t1.cells)]] [] (pB b1) []) ∧ UU ∧ UU) ∧ (UU ∧ UU)) (by kernel_rfl) ⟨⟨TT, TT, k3.2, row_has Track.cs_len k3.1 (o := 0) (m := 3) (by omega) (by decide), TT, TT, k4.2, row_has Track.cs_len k4.1 (o := 0) (m := 3) (by omega) (by decide), R23_Same_ok k5, TT, TT⟩, ⟨TT, TT⟩⟩) ?_
        refine Done.mk (thenQ_n ?_)
        refine ifB_el h (fun k6 h => ?_) (fun k6 h => ?_)
        · refine awp_cond_t (b := !b1) (by kernel_rfl) k6 ?_
          refine awp_seq ?_
          refine awp_regionD Try_mixed (orcs := []) (gs := [.keep [4] []]) (s' := ⟨[(4, pB false)], []⟩) (by kernel_rfl) (holds_of ((UU ∧ UU) ∧ (UU ∧ UU)) (by kernel_rfl) ⟨⟨TT, TT⟩, ⟨TT, TT⟩⟩) ?_
          refine Done.mk (thenQ_n ?_)
          refine doneRet ?_
          refine Done.mk (inB_r (thenQ_r ?_))
          obtain rfl := Option.some.inj h
          exact ⟨fun q => (by cases q), fun q => (by subst q; exact ⟨rfl, by kernel_rfl⟩)⟩
        · refine awp_cond_f (b := !b1) (by kernel_rfl) k6 ?_
          refine doneSkip ?_
          refine Done.mk (inB_n (thenQ_n ?_))
          refine chk_el h (fun k7 h => ?_)
          refine awp_regionD Try_mixed (orcs := []) (gs := [.keep [0, 1, 12, 13] []]) (s' := ⟨[(0, .p (encL Track.cs a)), (1, .p (encL Track.cs b)), (12, pI ((a.length : Int))), (13, pI (t13 + 1))], []⟩) (by kernel_rfl) (holds_of (((InR .i64 (t13 + 1 : Int)) ∧ UU ∧ UU) ∧ (UU ∧ UU)) (by kernel_rfl) ⟨⟨k7, TT, TT⟩, ⟨TT, TT⟩⟩) ?_
          refine Done.mk ?_
          obtain rfl := Option.some.inj h
          exact ⟨rfl, by kernel_rfl⟩
      · refine awp_cond_f (b := decide (t13 < (a.length : Int))) (by kernel_rfl) k2 ?_
        refine doneExit ?_
        refine Done.gh [.keep [] [], .keep [] []] (s' := ⟨[], []⟩) (by kernel_rfl) (holds_of (UU ∧ UU ∧ UU) (by kernel_rfl) ⟨TT, TT, TT⟩) ?_
        refine Done.mk (thenQ_x ?_)
        obtain rfl := Option.some.inj h
        exact ⟨fun q => (by cases q), fun q => (by subst q; exact ⟨rfl, by kernel_rfl⟩)⟩
    · rcases o with _u | _u
      · refine Done.as (e := (Exit.exit 0)) (s := ⟨[], []⟩) rfl (by kernel_rfl) ?_
        refine Done.mk (inB_hit (thenQ_n ?_))
        refine awp_seq ?_
        refine awp_regionD Try_mixed (orcs := []) (gs := [.keep [4] []]) (s' := ⟨[(4, pB true)], []⟩) (by kernel_rfl) (holds_of ((UU ∧ UU) ∧ (UU ∧ UU)) (by kernel_rfl) ⟨⟨TT, TT⟩, ⟨TT, TT⟩⟩) ?_
        refine Done.mk (thenQ_n ?_)
        refine doneRet ?_
        refine Done.mk ?_
        obtain rfl := Option.some.inj h
        exact ⟨Or.inr rfl, by kernel_rfl, by kernel_rfl⟩
      · refine Done.as (e := Exit.ret) (s := ⟨[(4, pB false)], []⟩) rfl (by kernel_rfl) ?_
        refine Done.mk (inB_r (thenQ_r ?_))
        obtain rfl := Option.some.inj h
        exact ⟨Or.inr rfl, by kernel_rfl, by kernel_rfl⟩
end
end Go.AM
end
section
namespace Go.AM
open Go Go.RowKit Go.Proofs
noncomputable section
def region_near_j1 (d : Int) : Option (Bool) :=
    ifB (decide (d ≥ (-8192 : Int)))
    (some (decide (d ≤ (8192 : Int))))
    (some false)
noncomputable def region_near (d : Int) : Option Bool :=
  (region_near_j1 d).bind fun t2 =>
  some t2
set_option maxRecDepth 100000 in
set_option maxHeartbeats 4000000 in
theorem region_near_ok {d : Int} {r : Bool} (h : region_near d = some r) : ASpec Try.prog 30 [pI d] [] (pB r) [] := by
  refine aspec_of Try.func30 (c := _) rfl (by kernel_rfl) (by rw [Try.ntmps30]; exact Nat.le_of_ble_eq_true rfl) ?_
  refine awp_seq ?_
  refine awp_regionD Try_mixed (orcs := []) (gs := [.keep [0] []]) (s' := ⟨[(0, pI d)], []⟩) (by kernel_rfl) (holds_of ((UU ∧ UU) ∧ (UU ∧ UU)) (by kernel_rfl) ⟨⟨TT, TT⟩, ⟨TT, TT⟩⟩) ?_
  refine Done.mk (thenQ_n ?_)
  refine awp_seq ?_
  refine bind_el h (fun t2 hm h => ?_)
  refine awp_tail (fun _ => Exit.normal) (fun o => match o with | t2 => ⟨[(2, pB t2)], []⟩) hm (fun o h => ?_) ?_
  · refine ifB_el h (fun k1 h => ?_) (fun k1 h => ?_)
    · refine awp_regionD Try_mixed (orcs := [(2, tB true)]) (gs := [.keep [2] []]) (s' := ⟨[(2, pB (decide (d ≤ (8192 : Int))))], []⟩) (by kernel_rfl) (holds_of ((UU ∧ UU ∧ ((UU ∧ some (pB (decide (d ≥ (-8192 : Int)))) = some (pB true))) ∧ UU ∧ UU ∧ UU ∧ UU ∧ UU) ∧ (UU ∧ UU)) (by kernel_rfl) ⟨⟨TT, TT, ⟨TT, by rw [k1]⟩, TT, TT, TT, TT, TT⟩, ⟨TT, TT⟩⟩) ?_
      refine Done.mk ?_
      obtain rfl := Option.some.inj h
      exact ⟨rfl, by kernel_rfl⟩
    · refine awp_regionD Try_mixed (orcs := [(2, tB false)]) (gs := [.keep [2] []]) (s' := ⟨[(2, pB false)], []⟩) (by kernel_rfl) (holds_of ((UU ∧ UU ∧ ((UU ∧ some (pB (decide (d ≥ (-8192 : Int)))) = some (pB false))) ∧ UU ∧ UU ∧ UU) ∧ (UU ∧ UU)) (by kernel_rfl) ⟨⟨TT, TT, ⟨TT, by rw [k1]⟩, TT, TT, TT⟩, ⟨TT, TT⟩⟩) ?_
      refine Done.mk ?_
      obtain rfl := Option.some.inj h
      exact ⟨rfl, by kernel_rfl⟩
  · have _ := hm
    refine Done.as (e := Exit.normal) (s := ⟨[(2, pB t2)], []⟩) rfl (by kernel_rfl) ?_
    refine Done.mk (thenQ_n ?_)
    refine doneRet ?_
    refine Done.mk ?_
    obtain rfl := Option.some.inj h
    exact ⟨Or.inr rfl, by kernel_rfl, by kernel_rfl⟩
end
end Go.AM
end
section
namespace Go.AM
open Go Go.RowKit Go.Proofs
noncomputable section
def region_Box_j1 (t0 : Region) : Option (Bool) :=
    (region_Valid t0).bind fun b =>
    ifB (!b)
    (some true)
    (some ((t0.rows.length : Int) == (0 : Int)))
def region_Box_l2 (t0 : Region) (s : Int × Int × Int) : Option ((Int × Int × Int) ⊕ (Int × Int)) :=
  match s with
  | (t39, t5X, t6X) =>
    ifB (decide (t39 < (t0.rows.length : Int)))
    ((getI t0.rows t39).bind fun r_2 =>
      (getI r_2.runs (0 : Int)).bind fun r_3 =>
      chk (InR .i64 (((r_2.runs.length : Int)) - 1 : Int))
      ((getI r_2.runs (((r_2.runs.length : Int)) - 1 : Int)).bind fun r_4 =>
      chk (InR .i64 (r_4.to - 1 : Int))
      (chk (InR .i64 (t39 + 1 : Int))
      (some (.inl (t39 + 1, min t5X r_3.frm, max t6X (r_4.to - 1 : Int)))))))
    (some (.inr (t5X, t6X)))
noncomputable def region_Box (t0 : Region) : Option (Cell × Cell × Bool) :=
  (region_Box_j1 t0).bind fun t17 =>
  ifB (t17)
  (some (Cell.mk 0 0, Cell.mk 0 0, false))
  ((getI t0.rows (0 : Int)).bind fun r_ =>
    chk (InR .i64 (((t0.rows.length : Int)) - 1 : Int))
    ((getI t0.rows (((t0.rows.length : Int)) - 1 : Int)).bind fun r_1 =>
    (loopP (region_Box_l2 t0) (0, 4096, -4096)).bind fun (t5X1, t6X1) =>
    some (Cell.mk t5X1 r_.y, Cell.mk t6X1 r_1.y, true)))
set_option maxRecDepth 100000 in
set_option maxHeartbeats 4000000 in
theorem region_Box_ok {t0 : Region} {r : (Cell × Cell × Bool)} (h : region_Box t0 = some r) : ASpec Try.prog 29 [.agg [.p (encL Row.cs t0.rows)]] [] (.tup [.agg [pI r.1.x, pI r.1.y], .agg [pI r.2.1.x, pI r.2.1.y], pB r.2.2]) [] := by
  refine aspec_of Try.func29 (c := _) rfl (by kernel_rfl) (by rw [Try.ntmps29]; exact Nat.le_of_ble_eq_true rfl) ?_
  refine awp_seq ?_
  refine awp_regionD Try_mixed (orcs := []) (gs := [.keep [1, 2, 3] [1, 2, 3]]) (s' := ⟨[(1, .ptr 1 0), (2, .ptr 2 0), (3, .ptr 3 0)], [(1, .lit 24 [.p (encL Row.cs t0.rows)]), (2, .lit 37 [pI 0, pI 0]), (3, .lit 37 [pI 0, pI 0])]⟩) (by kernel_rfl) (holds_of ((UU ∧ UU ∧ UU ∧ UU ∧ UU) ∧ (UU ∧ UU)) (by kernel_rfl) ⟨⟨TT, TT, TT, TT, TT⟩, ⟨TT, TT⟩⟩) ?_
  refine Done.mk (thenQ_n ?_)
  refine awp_seq ?_
  refine awp_seq ?_
  refine bind_el h (fun t17 hm h => ?_)
  refine awp_tail (fun _ => Exit.normal) (fun o => match o with | t17 => ⟨[(1, .ptr 1 0), (2, .ptr 2 0), (3, .ptr 3 0), (17, pB t17)], [(1, .lit 24 [.p (encL Row.cs t0.rows)]), (2, .lit 37 [pI 0, pI 0]), (3, .lit 37 [pI 0, pI 0])]⟩) hm (fun o h => ?_) ?_
  · refine bind_el h (fun b k1 h => ?_)
    refine ifB_el h (fun k2 h => ?_) (fun k2 h => ?_)
    · refine awp_regionD Try_mixed (orcs := [(1, tV (pB b)), (3, tB true)]) (gs := [.keep [1, 2, 3, 17] [1, 2, 3]]) (s' := ⟨[(1, .ptr 1 0), (2, .ptr 2 0), (3, .ptr 3 0), (17, pB true)], [(1, .lit 24 [.p (encL Row.cs t0.rows)]), (2, .lit 37 [pI 0, pI 0]), (3, .lit 37 [pI 0, pI 0])]⟩) (by kernel_rfl) (holds_of ((UU ∧ (ASpec Try.prog 24 [.agg [.p (encL Row.cs t0.rows)]] [] (pB b) []) ∧ UU ∧ ((UU ∧ some (pB (!b)) = some (pB true))) ∧ UU ∧ UU) ∧ (UU ∧ UU)) (by kernel_rfl) ⟨⟨TT, region_Valid_ok k1, TT, ⟨TT, by rw [k2]⟩, TT, TT⟩, ⟨TT, TT⟩⟩) ?_
      refine Done.mk ?_
      obtain rfl := Option.some.inj h
      exact ⟨rfl, by kernel_rfl⟩
    · refine awp_regionD Try_mixed (orcs := [(1, tV (pB b)), (3, tB false)]) (gs := [.keep [1, 2, 3, 17] [1, 2, 3]]) (s' := ⟨[(1, .ptr 1 0), (2, .ptr 2 0), (3, .ptr 3 0), (17, pB ((t0.rows.length : Int) == (0 : Int)))], [(1, .lit 24 [.p (encL Row.cs t0.rows)]), (2, .lit 37 [pI 0, pI 0]), (3, .lit 37 [pI 0, pI 0])]⟩) (by kernel_rfl) (holds_of ((UU ∧ (ASpec Try.prog 24 [.agg [.p (encL Row.cs t0.rows)]] [] (pB b) []) ∧ UU ∧ ((UU ∧ some (pB (!b)) = some (pB false))) ∧ UU ∧ UU ∧ UU ∧ UU ∧ UU ∧ UU) ∧ (UU ∧ UU)) (by kernel_rfl) ⟨⟨TT, region_Valid_ok k1, TT, ⟨TT, by rw [k2]⟩, TT, TT, TT, TT, TT, TT⟩, ⟨TT, TT⟩⟩) ?_
      refine Done.mk ?_
      obtain rfl := Option.some.inj h
      exact ⟨rfl, by kernel_rfl⟩
  · have _ := hm
    refine Done.as (e := Exit.normal) (s := ⟨[(1, .ptr 1 0), (2, .ptr 2 0), (3, .ptr 3 0), (17, pB t17)], [(1, .lit 24 [.p (encL Row.cs t0.rows)]), (2, .lit 37 [pI 0, pI 0]), (3, .lit 37 [pI 0, pI 0])]⟩) rfl (by kernel_rfl) ?_
    refine Done.mk (thenQ_n ?_)
    refine ifB_el h (fun k3 h => ?_) (fun k3 h => ?_)
    · refine awp_cond_t (b := t17) (by kernel_rfl) k3 ?_
      refine awp_seq ?_
      refine awp_regionD Try_mixed (orcs := []) (gs := [.keep [2, 3, 4] [2, 3]]) (s' := ⟨[(2, .ptr 2 0), (3, .ptr 3 0), (4, pB false)], [(2, .lit 37 [pI 0, pI 0]), (3, .lit 37 [pI 0, pI 0])]⟩) (by kernel_rfl) (holds_of ((UU ∧ UU ∧ UU ∧ UU ∧ UU ∧ UU) ∧ (UU ∧ UU)) (by kernel_rfl) ⟨⟨TT, TT, TT, TT, TT, TT⟩, ⟨TT, TT⟩⟩) ?_
      refine Done.mk (thenQ_n ?_)
      refine doneRet ?_
      refine Done.mk (thenQ_r ?_)
      obtain rfl := Option.some.inj h
      exact ⟨Or.inr rfl, by kernel_rfl, by kernel_rfl⟩
    · refine awp_cond_f (b := t17) (by kernel_rfl) k3 ?_
      refine doneSkip ?_
      refine Done.mk (thenQ_n ?_)
      refine awp_seq ?_
      refine bind_el h (fun r_ k4 h => ?_)
      replace k4 := getI_el k4
      refine awp_regionD Try_mixed (orcs := [(4, tV (pI r_.y))]) (gs := [.keep [1, 2, 3, 5] [1, 2, 3, 5]]) (s' := ⟨[(1, .ptr 1 0), (2, .ptr 2 0), (3, .ptr 3 0), (5, .ptr 5 0)], [(1, .lit 24 [.p (encL Row.cs t0.rows)]), (2, .lit 37 [pI 0, pI 0]), (3, .lit 37 [pI 0, pI 0]), (5, .lit 37 [pI 4096, pI r_.y])]⟩) (by kernel_rfl) (holds_of ((UU ∧ UU ∧ ((0 ≤ (0 : Int) ∧ (0 : Int) < (t0.rows.length : Int))) ∧ UU ∧ ((t0.rows.flatMap Row.cs)[(0 : Int).toNat * 2]? = some (vI r_.y)) ∧ UU ∧ UU ∧ UU ∧ UU) ∧ (UU ∧ UU)) (by kernel_rfl) ⟨⟨TT, TT, k4.2, TT, row_at Row.cs_len k4.1 (j := 0) (by omega) (by decide), TT, TT, TT, TT⟩, ⟨TT, TT⟩⟩) ?_
      refine Done.mk (thenQ_n ?_)
      refine awp_seq ?_
      refine chk_el h (fun k5 h => ?_)
      refine bind_el h (fun r_1 k6 h => ?_)
      replace k6 := getI_el k6
      refine awp_regionD Try_mixed (orcs := [(8, tV (pI r_1.y))]) (gs := [.keep [1, 2, 3, 5, 6] [1, 2, 3, 5, 6]]) (s' := ⟨[(1, .ptr 1 0), (2, .ptr 2 0), (3, .ptr 3 0), (5, .ptr 5 0), (6, .ptr 6 0)], [(1, .lit 24 [.p (encL Row.cs t0.rows)]), (2, .lit 37 [pI 0, pI 0]), (3, .lit 37 [pI 0, pI 0]), (5, .lit 37 [pI 4096, pI r_.y]), (6, .lit 37 [pI (-4096), pI r_1.y])]⟩) (by kernel_rfl) (holds_of ((UU ∧ UU ∧ UU ∧ UU ∧ UU ∧ (InR .i64 (((t0.rows.length : Int)) - 1 : Int)) ∧ ((0 ≤ (((t0.rows.length : Int)) - 1 : Int) ∧ (((t0.rows.length : Int)) - 1 : Int) < (t0.rows.length : Int))) ∧ UU ∧ ((t0.rows.flatMap Row.cs)[(((t0.rows.length : Int)) - 1 : Int).toNat * 2]? = some (vI r_1.y)) ∧ UU ∧ UU ∧ UU ∧ UU) ∧ (UU ∧ UU)) (by kernel_rfl) ⟨⟨TT, TT, TT, TT, TT, k5, k6.2, TT, row_at Row.cs_len k6.1 (j := 0) (by omega) (by decide), TT, TT, TT, TT⟩, ⟨TT, TT⟩⟩) ?_
      refine Done.mk (thenQ_n ?_)
      refine awp_seq ?_
      refine awp_seq ?_
      refine awp_regionD Try_mixed (orcs := []) (gs := [.keep [2, 3, 5, 6, 37, 38, 39] [2, 3, 5, 6]]) (s' := ⟨[(2, .ptr 2 0), (3, .ptr 3 0), (5, .ptr 5 0), (6, .ptr 6 0), (37, .p (encL Row.cs t0.rows)), (38, pI ((t0.rows.length : Int))), (39, pI 0)], [(2, .lit 37 [pI 0, pI 0]), (3, .lit 37 [pI 0, pI 0]), (5, .lit 37 [pI 4096, pI r_.y]), (6, .lit 37 [pI (-4096), pI r_1.y])]⟩) (by kernel_rfl) (holds_of ((UU ∧ UU ∧ UU ∧ UU ∧ UU) ∧ (UU ∧ UU)) (by kernel_rfl) ⟨⟨TT, TT, TT, TT, TT⟩, ⟨TT, TT⟩⟩) ?_
      refine Done.mk (thenQ_n ?_)
      refine awp_block ?_
      refine bind_el h (fun o hm h => ?_)
      refine awp_gh [.keep [2, 3, 5, 6, 37, 38, 39] [2, 3, 5, 6], .keep [2, 3, 5, 6, 37, 38, 39] [2, 3, 5, 6]] (s' := ⟨[(2, .ptr 2 0), (3, .ptr 3 0), (5, .ptr 5 0), (6, .ptr 6 0), (37, .p (encL Row.cs t0.rows)), (38, pI ((t0.rows.length : Int))), (39, pI 0)], [(2, .lit 37 [pI 0, pI 0]), (3, .lit 37 [pI 0, pI 0]), (5, .lit 37 [pI 4096, pI r_.y]), (6, .lit 37 [pI (-4096), pI r_1.y])]⟩) (by kernel_rfl) (holds_of (UU ∧ UU ∧ UU) (by kernel_rfl) ⟨TT, TT, TT⟩) ?_
      refine awp_tail (fun _ => (Exit.exit 0)) (fun o => match o with | (t5X1, t6X1) => ⟨[(2, .ptr 2 0), (3, .ptr 3 0), (5, .ptr 5 0), (6, .ptr 6 0)], [(2, .lit 37 [pI 0, pI 0]), (3, .lit 37 [pI 0, pI 0]), (5, .lit 37 [pI t5X1, pI r_.y]), (6, .lit 37 [pI t6X1, pI r_1.y])]⟩) hm (fun o h => ?_) ?_
      · refine awp_loop' (fun s => match s with | (t39, t5X, t6X) => ⟨[(2, .ptr 2 0), (3, .ptr 3 0), (5, .ptr 5 0), (6, .ptr 6 0), (37, .p (encL Row.cs t0.rows)), (38, pI ((t0.rows.length : Int))), (39, pI t39)], [(2, .lit 37 [pI 0, pI 0]), (3, .lit 37 [pI 0, pI 0]), (5, .lit 37 [pI t5X, pI r_.y]), (6, .lit 37 [pI t6X, pI r_1.y])]⟩) h (by kernel_rfl) (fun s out h => ?_)
        obtain ⟨t39, t5X, t6X⟩ := s
        refine awp_seq ?_
        refine awp_regionD Try_mixed (orcs := []) (gs := [.keep [2, 3, 5, 6, 37, 38, 39, 40] [2, 3, 5, 6]]) (s' := ⟨[(2, .ptr 2 0), (3, .ptr 3 0), (5, .ptr 5 0), (6, .ptr 6 0), (37, .p (encL Row.cs t0.rows)), (38, pI ((t0.rows.length : Int))), (39, pI t39), (40, pB (decide (t39 < (t0.rows.length : Int))))], [(2, .lit 37 [pI 0, pI 0]), (3, .lit 37 [pI 0, pI 0]), (5, .lit 37 [pI t5X, pI r_.y]), (6, .lit 37 [pI t6X, pI r_1.y])]⟩) (by kernel_rfl) (holds_of ((UU ∧ UU) ∧ (UU ∧ UU)) (by kernel_rfl) ⟨⟨TT, TT⟩, ⟨TT, TT⟩⟩) ?_
        refine Done.mk (thenQ_n ?_)
        refine awp_seq ?_
        refine ifB_el h (fun k7 h => ?_) (fun k7 h => ?_)
        · refine awp_cond_t (b := decide (t39 < (t0.rows.length : Int))) (by kernel_rfl) k7 ?_
          refine doneSkip ?_
          refine Done.mk (thenQ_n ?_)
          refine awp_seq ?_
          refine awp_block ?_
          refine awp_seq ?_
          refine bind_el h (fun r_2 k8 h => ?_)
          replace k8 := getI_el k8
          refine awp_regionD Try_mixed (orcs := [(1, tV (.agg [pI r_2.y, .p (encL Run.cs r_2.runs)]))]) (gs := [.keep [2, 3, 5, 6, 8, 37, 38, 39] [2, 3, 5, 6, 8]]) (s' := ⟨[(2, .ptr 2 0), (3, .ptr 3 0), (5, .ptr 5 0), (6, .ptr 6 0), (8, .ptr 8 0), (37, .p (encL Row.cs t0.rows)), (38, pI ((t0.rows.length : Int))), (39, pI t39)], [(2, .lit 37 [pI 0, pI 0]), (3, .lit 37 [pI 0, pI 0]), (5, .lit 37 [pI t5X, pI r_.y]), (6, .lit 37 [pI t6X, pI r_1.y]), (8, .lit 48 [pI r_2.y, .p (encL Run.cs r_2.runs)])]⟩) (by kernel_rfl) (holds_of ((((0 ≤ t39 ∧ t39 < (t0.rows.length : Int))) ∧ (rowHas (t0.rows.flatMap Row.cs) (t39.toNat * 2) [pI r_2.y, .p (encL Run.cs r_2.runs)]) ∧ UU ∧ UU ∧ UU) ∧ (UU ∧ UU)) (by kernel_rfl) ⟨⟨k8.2, row_has Row.cs_len k8.1 (o := 0) (m := 2) (by omega) (by decide), TT, TT, TT⟩, ⟨TT, TT⟩⟩) ?_
          refine Done.mk (thenQ_n ?_)
          refine awp_seq ?_
          refine bind_el h (fun r_3 k9 h => ?_)
          replace k9 := getI_el k9
          refine awp_regionD Try_mixed (orcs := [(6, tV (pI r_3.frm))]) (gs := [.keep [2, 3, 5, 6, 8, 37, 38, 39] [2, 3, 5, 6, 8]]) (s' := ⟨[(2, .ptr 2 0), (3, .ptr 3 0), (5, .ptr 5 0), (6, .ptr 6 0), (8, .ptr 8 0), (37, .p (encL Row.cs t0.rows)), (38, pI ((t0.rows.length : Int))), (39, pI t39)], [(2, .lit 37 [pI 0, pI 0]), (3, .lit 37 [pI 0, pI 0]), (5, .lit 37 [pI (min t5X r_3.frm), pI r_.y]), (6, .lit 37 [pI t6X, pI r_1.y]), (8, .lit 48 [pI r_2.y, .p (encL Run.cs r_2.runs)])]⟩) (by kernel_rfl) (holds_of ((UU ∧ UU ∧ UU ∧ UU ∧ ((0 ≤ (0 : Int) ∧ (0 : Int) < (r_2.runs.length : Int))) ∧ UU ∧ ((r_2.runs.flatMap Run.cs)[(0 : Int).toNat * 2]? = some (vI r_3.frm)) ∧ UU ∧ UU ∧ UU ∧ UU) ∧ (UU ∧ UU)) (by kernel_rfl) ⟨⟨TT, TT, TT, TT, k9.2, TT, row_at Run.cs_len k9.1 (j := 0) (by omega) (by decide), TT, TT, TT, TT⟩, ⟨TT, TT⟩⟩) ?_
          refine Done.mk (thenQ_n ?_)
          refine chk_el h (fun k10 h => ?_)
          refine bind_el h (fun r_4 k11 h => ?_)
          replace k11 := getI_el k11
          refine chk_el h (fun k12 h => ?_)
          refine awp_regionD Try_mixed (orcs := [(10, tV (pI r_4.to))]) (gs := [.keep [2, 3, 5, 6, 37, 38, 39] [2, 3, 5, 6]]) (s' := ⟨[(2, .ptr 2 0), (3, .ptr 3 0), (5, .ptr 5 0), (6, .ptr 6 0), (37, .p (encL Row.cs t0.rows)), (38, pI ((t0.rows.length : Int))), (39, pI t39)], [(2, .lit 37 [pI 0, pI 0]), (3, .lit 37 [pI 0, pI 0]), (5, .lit 37 [pI (min t5X r_3.frm), pI r_.y]), (6, .lit 37 [pI (max t6X (r_4.to - 1 : Int)), pI r_1.y])]⟩) (by kernel_rfl) (holds_of ((UU ∧ UU ∧ UU ∧ UU ∧ UU ∧ UU ∧ UU ∧ (InR .i64 (((r_2.runs.length : Int)) - 1 : Int)) ∧ ((0 ≤ (((r_2.runs.length : Int)) - 1 : Int) ∧ (((r_2.runs.length : Int)) - 1 : Int) < (r_2.runs.length : Int))) ∧ UU ∧ ((r_2.runs.flatMap Run.cs)[(((r_2.runs.length : Int)) - 1 : Int).toNat * 2 + 1]? = some (vI r_4.to)) ∧ (InR .i64 (r_4.to - 1 : Int)) ∧ UU ∧ UU ∧ UU ∧ UU) ∧ (UU ∧ UU)) (by kernel_rfl) ⟨⟨TT, TT, TT, TT, TT, TT, TT, k10, k11.2, TT, row_at Run.cs_len k11.1 (j := 1) (by omega) (by decide), k12, TT, TT, TT, TT⟩, ⟨TT, TT⟩⟩) ?_
          refine Done.mk (inB_n (thenQ_n ?_))
          refine chk_el h (fun k13 h => ?_)
          refine awp_regionD Try_mixed (orcs := []) (gs := [.keep [2, 3, 5, 6, 37, 38, 39] [2, 3, 5, 6]]) (s' := ⟨[(2, .ptr 2 0), (3, .ptr 3 0), (5, .ptr 5 0), (6, .ptr 6 0), (37, .p (encL Row.cs t0.rows)), (38, pI ((t0.rows.length : Int))), (39, pI (t39 + 1))], [(2, .lit 37 [pI 0, pI 0]), (3, .lit 37 [pI 0, pI 0]), (5, .lit 37 [pI (min t5X r_3.frm), pI r_.y]), (6, .lit 37 [pI (max t6X (r_4.to - 1 : Int)), pI r_1.y])]⟩) (by kernel_rfl) (holds_of (((InR .i64 (t39 + 1 : Int)) ∧ UU ∧ UU) ∧ (UU ∧ UU)) (by kernel_rfl) ⟨⟨k13, TT, TT⟩, ⟨TT, TT⟩⟩) ?_
          refine Done.mk ?_
          obtain rfl := Option.some.inj h
          exact ⟨rfl, by kernel_rfl⟩
        · refine awp_cond_f (b := decide (t39 < (t0.rows.length : Int))) (by kernel_rfl) k7 ?_
          refine doneExit ?_
          refine Done.gh [.keep [2, 3, 5, 6] [2, 3, 5, 6], .keep [2, 3, 5, 6] [2, 3, 5, 6]] (s' := ⟨[(2, .ptr 2 0), (3, .ptr 3 0), (5, .ptr 5 0), (6, .ptr 6 0)], [(2, .lit 37 [pI 0, pI 0]), (3, .lit 37 [pI 0, pI 0]), (5, .lit 37 [pI t5X, pI r_.y]), (6, .lit 37 [pI t6X, pI r_1.y])]⟩) (by kernel_rfl) (holds_of (UU ∧ UU ∧ UU) (by kernel_rfl) ⟨TT, TT, TT⟩) ?_
          refine Done.mk (thenQ_x ?_)
          obtain rfl := Option.some.inj h
          exact ⟨fun q => (by cases q), fun q => (by subst q; exact ⟨rfl, by kernel_rfl⟩)⟩
      · obtain ⟨t5X1, t6X1⟩ := o
        refine Done.as (e := (Exit.exit 0)) (s := ⟨[(2, .ptr 2 0), (3, .ptr 3 0), (5, .ptr 5 0), (6, .ptr 6 0)], [(2, .lit 37 [pI 0, pI 0]), (3, .lit 37 [pI 0, pI 0]), (5, .lit 37 [pI t5X1, pI r_.y]), (6, .lit 37 [pI t6X1, pI r_1.y])]⟩) rfl (by kernel_rfl) ?_
        refine Done.mk (inB_hit (thenQ_n ?_))
        refine awp_seq ?_
        refine awp_regionD Try_mixed (orcs := []) (gs := [.keep [2, 3, 4] [2, 3]]) (s' := ⟨[(2, .ptr 2 0), (3, .ptr 3 0), (4, pB true)], [(2, .lit 37 [pI t5X1, pI r_.y]), (3, .lit 37 [pI t6X1, pI r_1.y])]⟩) (by kernel_rfl) (holds_of ((UU ∧ UU ∧ UU ∧ UU ∧ UU ∧ UU) ∧ (UU ∧ UU)) (by kernel_rfl) ⟨⟨TT, TT, TT, TT, TT, TT⟩, ⟨TT, TT⟩⟩) ?_
        refine Done.mk (thenQ_n ?_)
        refine doneRet ?_
        refine Done.mk ?_
        obtain rfl := Option.some.inj h
        exact ⟨Or.inr rfl, by kernel_rfl, by kernel_rfl⟩
end
end Go.AM
end
section
namespace Go.AM
open Go Go.RowKit Go.Proofs
noncomputable section
def runs_Shift_j1 (t1 : Int) (t0 : (List Run)) : Option (Bool) :=
    ifB (decide (t1 < (-2097152 : Int)))
    (some true)
    (ifB (decide (t1 > (2097152 : Int)))
      (some true)
      ((getI t0 (0 : Int)).bind fun r_ =>
        chk (InR .i64 (r_.frm + t1 : Int))
        (ifB (decide ((r_.frm + t1 : Int) < (-1048576 : Int)))
        (some true)
        (chk (InR .i64 (((t0.length : Int)) - 1 : Int))
          ((getI t0 (((t0.length : Int)) - 1 : Int)).bind fun r_1 =>
          chk (InR .i64 (r_1.to + t1 : Int))
          (some (decide ((r_1.to + t1 : Int) > (1048576 : Int)))))))))
def runs_Shift_l2 (t0 : (List Run)) (t1 : Int) (s : (List Run) × Int) : Option (((List Run) × Int) ⊕ ((List Run))) :=
  match s with
  | (t6, t50) =>
    ifB (decide (t50 < (t0.length : Int)))
    ((getI t0 t50).bind fun r_2 =>
      chk (InR .i64 (r_2.frm + t1 : Int))
      (chk (InR .i64 (r_2.to + t1 : Int))
      ((getI t6 t50).bind fun _ =>
      chk (InR .i64 (t50 + 1 : Int))
      (some (.inl (t6.set t50.toNat (Run.mk (r_2.frm + t1) (r_2.to + t1)), t50 + 1))))))
    (some (.inr t6))
noncomputable def runs_Shift (t0 : (List Run)) (t1 : Int) : Option ((List Run) × Int) :=
  (runs_Valid t0).bind fun b =>
  ifB (!b)
  (some (([] : (List Run)), 1))
  (ifB ((t0.length : Int) == (0 : Int))
    (some (([] : (List Run)), 0))
    ((runs_Shift_j1 t1 t0).bind fun t17 =>
      ifB (t17)
      (some (([] : (List Run)), 8))
      (chk ((0 ≤ (t0.length : Int) ∧ (t0.length : Int) ≤ (t0.length : Int) ∧ (16 : Int) * (t0.length : Int) ≤ 281474976710656 ∧ (t0.length : Int) ≤ 9223372036854775807))
        ((loopP (runs_Shift_l2 t0 t1) (List.replicate (t0.length : Int).toNat (Run.mk 0 0), 0)).bind fun t61 =>
        some (t61, 0)))))
set_option maxRecDepth 100000 in
set_option maxHeartbeats 4000000 in
theorem runs_Shift_ok {t0 : (List Run)} {t1 : Int} {r : ((List Run) × Int)} (h : runs_Shift t0 t1 = some r) : ASpec Try.prog 32 [.p (encL Run.cs t0), pI t1] [] (.tup [.p (encL Run.cs r.1), pI r.2]) [] := by
  refine aspec_of Try.func32 (c := _) rfl (by kernel_rfl) (by rw [Try.ntmps32]; exact Nat.le_of_ble_eq_true rfl) ?_
  refine awp_seq ?_
  refine awp_regionD Try_mixed (orcs := []) (gs := [.keep [0, 1] []]) (s' := ⟨[(0, .p (encL Run.cs t0)), (1, pI t1)], []⟩) (by kernel_rfl) (holds_of ((UU ∧ UU ∧ UU) ∧ (UU ∧ UU)) (by kernel_rfl) ⟨⟨TT, TT, TT⟩, ⟨TT, TT⟩⟩) ?_
  refine Done.mk (thenQ_n ?_)
  refine awp_seq ?_
  refine awp_block ?_
  refine awp_seq ?_
  refine bind_el h (fun b k1 h => ?_)
  refine awp_regionD Try_mixed (orcs := [(1, tV (pB b))]) (gs := [.keep [0, 1, 9] []]) (s' := ⟨[(0, .p (encL Run.cs t0)), (1, pI t1), (9, pB (!b))], []⟩) (by kernel_rfl) (holds_of ((UU ∧ (ASpec Try.prog 43 [.p (encL Run.cs t0)] [] (pB b) []) ∧ UU ∧ UU ∧ UU) ∧ (UU ∧ UU)) (by kernel_rfl) ⟨⟨TT, runs_Valid_ok k1, TT, TT, TT⟩, ⟨TT, TT⟩⟩) ?_
  refine Done.mk (thenQ_n ?_)
  refine ifB_el h (fun k2 h => ?_) (fun k2 h => ?_)
  · refine awp_cond_t (b := !b) (by kernel_rfl) k2 ?_
    refine awp_seq ?_
    refine awp_regionD Try_mixed (orcs := []) (gs := [.keep [4, 5] []]) (s' := ⟨[(4, .nils), (5, pI 1)], []⟩) (by kernel_rfl) (holds_of ((UU ∧ UU ∧ UU) ∧ (UU ∧ UU)) (by kernel_rfl) ⟨⟨TT, TT, TT⟩, ⟨TT, TT⟩⟩) ?_
    refine Done.mk (thenQ_n ?_)
    refine doneRet ?_
    refine Done.gh [.pureT 4, .keep [4, 5] []] (s' := ⟨[(4, .p (.sl [] 0)), (5, pI 1)], []⟩) (by kernel_rfl) (holds_of (UU ∧ UU ∧ UU) (by kernel_rfl) ⟨TT, TT, TT⟩) ?_
    refine Done.mk (inB_r (thenQ_r ?_))
    obtain rfl := Option.some.inj h
    exact ⟨Or.inr rfl, by kernel_rfl, by kernel_rfl⟩
  · refine awp_cond_f (b := !b) (by kernel_rfl) k2 ?_
    refine awp_seq ?_
    refine awp_regionD Try_mixed (orcs := []) (gs := [.keep [0, 1, 13] []]) (s' := ⟨[(0, .p (encL Run.cs t0)), (1, pI t1), (13, pB ((t0.length : Int) == (0 : Int)))], []⟩) (by kernel_rfl) (holds_of ((UU ∧ UU ∧ UU ∧ UU ∧ UU) ∧ (UU ∧ UU)) (by kernel_rfl) ⟨⟨TT, TT, TT, TT, TT⟩, ⟨TT, TT⟩⟩) ?_
    refine Done.mk (thenQ_n ?_)
    refine ifB_el h (fun k3 h => ?_) (fun k3 h => ?_)
    · refine awp_cond_t (b := (t0.length : Int) == (0 : Int)) (by kernel_rfl) k3 ?_
      refine awp_seq ?_
      refine awp_regionD Try_mixed (orcs := []) (gs := [.keep [4, 5] []]) (s' := ⟨[(4, .nils), (5, pI 0)], []⟩) (by kernel_rfl) (holds_of ((UU ∧ UU ∧ UU) ∧ (UU ∧ UU)) (by kernel_rfl) ⟨⟨TT, TT, TT⟩, ⟨TT, TT⟩⟩) ?_
      refine Done.mk (thenQ_n ?_)
      refine doneRet ?_
      refine Done.gh [.pureT 4, .keep [4, 5] []] (s' := ⟨[(4, .p (.sl [] 0)), (5, pI 0)], []⟩) (by kernel_rfl) (holds_of (UU ∧ UU ∧ UU) (by kernel_rfl) ⟨TT, TT, TT⟩) ?_
      refine Done.mk (inB_r (thenQ_r ?_))
      obtain rfl := Option.some.inj h
      exact ⟨Or.inr rfl, by kernel_rfl, by kernel_rfl⟩
    · refine awp_cond_f (b := (t0.length : Int) == (0 : Int)) (by kernel_rfl) k3 ?_
      refine awp_seq ?_
      refine bind_el h (fun t17 hm h => ?_)
      refine awp_tail (fun _ => Exit.normal) (fun o => match o with | t17 => ⟨[(0, .p (encL Run.cs t0)), (1, pI t1), (17, pB t17)], []⟩) hm (fun o h => ?_) ?_
      · refine ifB_el h (fun k4 h => ?_) (fun k4 h => ?_)
        · refine awp_regionD Try_mixed (orcs := [(2, tB true)]) (gs := [.keep [0, 1, 17] []]) (s' := ⟨[(0, .p (encL Run.cs t0)), (1, pI t1), (17, pB true)], []⟩) (by kernel_rfl) (holds_of ((UU ∧ UU ∧ ((UU ∧ some (pB (decide (t1 < (-2097152 : Int)))) = some (pB true))) ∧ UU ∧ UU ∧ UU ∧ UU ∧ UU ∧ UU ∧ UU) ∧ (UU ∧ UU)) (by kernel_rfl) ⟨⟨TT, TT, ⟨TT, by rw [k4]⟩, TT, TT, TT, TT, TT, TT, TT⟩, ⟨TT, TT⟩⟩) ?_
          refine Done.mk ?_
          obtain rfl := Option.some.inj h
          exact ⟨rfl, by kernel_rfl⟩
        · refine ifB_el h (fun k5 h => ?_) (fun k5 h => ?_)
          · refine awp_regionD Try_mixed (orcs := [(2, tB false), (6, tB true)]) (gs := [.keep [0, 1, 17] []]) (s' := ⟨[(0, .p (encL Run.cs t0)), (1, pI t1), (17, pB true)], []⟩) (by kernel_rfl) (holds_of ((UU ∧ UU ∧ ((UU ∧ some (pB (decide (t1 < (-2097152 : Int)))) = some (pB false))) ∧ UU ∧ UU ∧ UU ∧ ((UU ∧ some (pB (decide (t1 > (2097152 : Int)))) = some (pB true))) ∧ UU ∧ UU ∧ UU ∧ UU ∧ UU) ∧ (UU ∧ UU)) (by kernel_rfl) ⟨⟨TT, TT, ⟨TT, by rw [k4]⟩, TT, TT, TT, ⟨TT, by rw [k5]⟩, TT, TT, TT, TT, TT⟩, ⟨TT, TT⟩⟩) ?_
            refine Done.mk ?_
            obtain rfl := Option.some.inj h
            exact ⟨rfl, by kernel_rfl⟩
          · refine bind_el h (fun r_ k6 h => ?_)
            replace k6 := getI_el k6
            refine chk_el h (fun k7 h => ?_)
            refine ifB_el h (fun k8 h => ?_) (fun k8 h => ?_)
            · refine awp_regionD Try_mixed (orcs := [(2, tB false), (6, tB false), (10, tV (pI r_.frm)), (15, tB true)]) (gs := [.keep [0, 1, 17] []]) (s' := ⟨[(0, .p (encL Run.cs t0)), (1, pI t1), (17, pB true)], []⟩) (by kernel_rfl) (holds_of ((UU ∧ UU ∧ ((UU ∧ some (pB (decide (t1 < (-2097152 : Int)))) = some (pB false))) ∧ UU ∧ UU ∧ UU ∧ ((UU ∧ some (pB (decide (t1 > (2097152 : Int)))) = some (pB false))) ∧ UU ∧ ((0 ≤ (0 : Int) ∧ (0 : Int) < (t0.length : Int))) ∧ UU ∧ ((t0.flatMap Run.cs)[(0 : Int).toNat * 2]? = some (vI r_.frm)) ∧ UU ∧ (InR .i64 (r_.frm + t1 : Int)) ∧ UU ∧ UU ∧ ((UU ∧ some (pB (decide ((r_.frm + t1 : Int) < (-1048576 : Int)))) = some (pB true))) ∧ UU ∧ UU ∧ UU) ∧ (UU ∧ UU)) (by kernel_rfl) ⟨⟨TT, TT, ⟨TT, by rw [k4]⟩, TT, TT, TT, ⟨TT, by rw [k5]⟩, TT, k6.2, TT, row_at Run.cs_len k6.1 (j := 0) (by omega) (by decide), TT, k7, TT, TT, ⟨TT, by rw [k8]⟩, TT, TT, TT⟩, ⟨TT, TT⟩⟩) ?_
              refine Done.mk ?_
              obtain rfl := Option.some.inj h
              exact ⟨rfl, by kernel_rfl⟩
            · refine chk_el h (fun k9 h => ?_)
              refine bind_el h (fun r_1 k10 h => ?_)
              replace k10 := getI_el k10
              refine chk_el h (fun k11 h => ?_)
              refine awp_regionD Try_mixed (orcs := [(2, tB false), (6, tB false), (10, tV (pI r_.frm)), (15, tB false), (22, tV (pI r_1.to))]) (gs := [.keep [0, 1, 17] []]) (s' := ⟨[(0, .p (encL Run.cs t0)), (1, pI t1), (17, pB (decide ((r_1.to + t1 : Int) > (1048576 : Int))))], []⟩) (by kernel_rfl) (holds_of ((UU ∧ UU ∧ ((UU ∧ some (pB (decide (t1 < (-2097152 : Int)))) = some (pB false))) ∧ UU ∧ UU ∧ UU ∧ ((UU ∧ some (pB (decide (t1 > (2097152 : Int)))) = some (pB false))) ∧ UU ∧ ((0 ≤ (0 : Int) ∧ (0 : Int) < (t0.length : Int))) ∧ UU ∧ ((t0.flatMap Run.cs)[(0 : Int).toNat * 2]? = some (vI r_.frm)) ∧ UU ∧ (InR .i64 (r_.frm + t1 : Int)) ∧ UU ∧ UU ∧ ((UU ∧ some (pB (decide ((r_.frm + t1 : Int) < (-1048576 : Int)))) = some (pB false))) ∧ UU ∧ UU ∧ UU ∧ (InR .i64 (((t0.length : Int)) - 1 : Int)) ∧ ((0 ≤ (((t0.length : Int)) - 1 : Int) ∧ (((t0.length : Int)) - 1 : Int) < (t0.length : Int))) ∧ UU ∧ ((t0.flatMap Run.cs)[(((t0.length : Int)) - 1 : Int).toNat * 2 + 1]? = some (vI r_1.to)) ∧ UU ∧ (InR .i64 (r_1.to + t1 : Int)) ∧ UU ∧ UU ∧ UU ∧ UU) ∧ (UU ∧ UU)) (by kernel_rfl) ⟨⟨TT, TT, ⟨TT, by rw [k4]⟩, TT, TT, TT, ⟨TT, by rw [k5]⟩, TT, k6.2, TT, row_at Run.cs_len k6.1 (j := 0) (by omega) (by decide), TT, k7, TT, TT, ⟨TT, by rw [k8]⟩, TT, TT, TT, k9, k10.2, TT, row_at Run.cs_len k10.1 (j := 1) (by omega) (by decide), TT, k11, TT, TT, TT, TT⟩, ⟨TT, TT⟩⟩) ?_
              refine Done.mk ?_
              obtain rfl := Option.some.inj h
              exact ⟨rfl, by kernel_rfl⟩
      · have _ := hm
        refine Done.as (e := Exit.normal) (s := ⟨[(0, .p (encL Run.cs t0)), (1, pI t1), (17, pB t17)], []⟩) rfl (by kernel_rfl) ?_
        refine Done.mk (thenQ_n ?_)
        refine ifB_el h (fun k12 h => ?_) (fun k12 h => ?_)
        · refine awp_cond_t (b := t17) (by kernel_rfl) k12 ?_
          refine awp_seq ?_
          refine awp_regionD Try_mixed (orcs := []) (gs := [.keep [4, 5] []]) (s' := ⟨[(4, .nils), (5, pI 8)], []⟩) (by kernel_rfl) (holds_of ((UU ∧ UU ∧ UU) ∧ (UU ∧ UU)) (by kernel_rfl) ⟨⟨TT, TT, TT⟩, ⟨TT, TT⟩⟩) ?_
          refine Done.mk (thenQ_n ?_)
          refine doneRet ?_
          refine Done.gh [.pureT 4, .keep [4, 5] []] (s' := ⟨[(4, .p (.sl [] 0)), (5, pI 8)], []⟩) (by kernel_rfl) (holds_of (UU ∧ UU ∧ UU) (by kernel_rfl) ⟨TT, TT, TT⟩) ?_
          refine Done.mk (inB_r (thenQ_r ?_))
          obtain rfl := Option.some.inj h
          exact ⟨Or.inr rfl, by kernel_rfl, by kernel_rfl⟩
        · refine awp_cond_f (b := t17) (by kernel_rfl) k12 ?_
          refine doneSkip ?_
          refine Done.mk (inB_n (thenQ_n ?_))
          refine awp_seq ?_
          refine chk_el h (fun k13 h => ?_)
          refine awp_regionD Try_mixed (orcs := [(2, tV (.own 47 0 (List.replicate (t0.length : Int).toNat (Run.mk 0 0)).length 2))]) (gs := [.castB 47 (.row 57 ((List.replicate (t0.length : Int).toNat (Run.mk 0 0)).flatMap Run.cs)), .keep [0, 1, 6] [47]]) (s' := ⟨[(0, .p (encL Run.cs t0)), (1, pI t1), (6, .own 47 0 (List.replicate (t0.length : Int).toNat (Run.mk 0 0)).length 2)], [(47, .row 57 ((List.replicate (t0.length : Int).toNat (Run.mk 0 0)).flatMap Run.cs))]⟩) (by kernel_rfl) (holds_of ((UU ∧ UU ∧ (((0 ≤ (t0.length : Int) ∧ (t0.length : Int) ≤ (t0.length : Int) ∧ (16 : Int) * (t0.length : Int) ≤ 281474976710656 ∧ (t0.length : Int) ≤ 9223372036854775807) ∧ some (AV.own 47 0 (t0.length : Int).toNat 2) = some (AV.own 47 0 (List.replicate (t0.length : Int).toNat (Run.mk 0 0)).length 2))) ∧ UU ∧ UU) ∧ ((some (ABlk.row 57 (List.replicate (t0.length : Int).toNat [vI 0, vI 0]).flatten) = some (ABlk.row 57 ((List.replicate (t0.length : Int).toNat (Run.mk 0 0)).flatMap Run.cs))) ∧ UU ∧ UU)) (by kernel_rfl) ⟨⟨TT, TT, ⟨k13, rep_len _ _ _ _⟩, TT, TT⟩, ⟨(rep_row Run.cs _ (Run.mk 0 0) _), TT, TT⟩⟩) ?_
          refine Done.mk (thenQ_n ?_)
          refine awp_seq ?_
          refine awp_seq ?_
          refine awp_regionD Try_mixed (orcs := []) (gs := [.keep [1, 6, 48, 49, 50] [47]]) (s' := ⟨[(1, pI t1), (6, .own 47 0 (List.replicate (t0.length : Int).toNat (Run.mk 0 0)).length 2), (48, .p (encL Run.cs t0)), (49, pI ((t0.length : Int))), (50, pI 0)], [(47, .row 57 ((List.replicate (t0.length : Int).toNat (Run.mk 0 0)).flatMap Run.cs))]⟩) (by kernel_rfl) (holds_of ((UU ∧ UU ∧ UU ∧ UU) ∧ (UU ∧ UU)) (by kernel_rfl) ⟨⟨TT, TT, TT, TT⟩, ⟨TT, TT⟩⟩) ?_
          refine Done.mk (thenQ_n ?_)
          refine awp_block ?_
          refine bind_el h (fun t61 hm h => ?_)
          refine awp_gh [.keep [1, 6, 48, 49, 50] [47], .keep [1, 6, 48, 49, 50] [47]] (s' := ⟨[(1, pI t1), (6, .own 47 0 (List.replicate (t0.length : Int).toNat (Run.mk 0 0)).length 2), (48, .p (encL Run.cs t0)), (49, pI ((t0.length : Int))), (50, pI 0)], [(47, .row 57 ((List.replicate (t0.length : Int).toNat (Run.mk 0 0)).flatMap Run.cs))]⟩) (by kernel_rfl) (holds_of (UU ∧ UU ∧ UU) (by kernel_rfl) ⟨TT, TT, TT⟩) ?_
          refine awp_tail (fun _ => (Exit.exit 1)) (fun o => match o with | t61 => ⟨[(6, .own 47 0 t61.length 2)], [(47, .row 57 (t61.flatMap Run.cs))]⟩) hm (fun o h => ?_) ?_
          · refine awp_loop' (fun s => match s with | (t6, t50) => ⟨[(1, pI t1), (6, .own 47 0 t6.length 2), (48, .p (encL Run.cs t0)), (49, pI ((t0.length : Int))), (50, pI t50)], [(47, .row 57 (t6.flatMap Run.cs))]⟩) h (by kernel_rfl) (fun s out h => ?_)
            obtain ⟨t6, t50⟩ := s
            refine awp_seq ?_
            refine awp_regionD Try_mixed (orcs := []) (gs := [.keep [1, 6, 48, 49, 50, 51] [47]]) (s' := ⟨[(1, pI t1), (6, .own 47 0 t6.length 2), (48, .p (encL Run.cs t0)), (49, pI ((t0.length : Int))), (50, pI t50), (51, pB (decide (t50 < (t0.length : Int))))], [(47, .row 57 (t6.flatMap Run.cs))]⟩) (by kernel_rfl) (holds_of ((UU ∧ UU) ∧ (UU ∧ UU)) (by kernel_rfl) ⟨⟨TT, TT⟩, ⟨TT, TT⟩⟩) ?_
            refine Done.mk (thenQ_n ?_)
            refine awp_seq ?_
            refine ifB_el h (fun k14 h => ?_) (fun k14 h => ?_)
            · refine awp_cond_t (b := decide (t50 < (t0.length : Int))) (by kernel_rfl) k14 ?_
              refine doneSkip ?_
              refine Done.mk (thenQ_n ?_)
              refine awp_seq ?_
              refine awp_block ?_
              refine awp_seq ?_
              refine bind_el h (fun r_2 k15 h => ?_)
              replace k15 := getI_el k15
              refine awp_regionD Try_mixed (orcs := [(2, tV (.agg [pI r_2.frm, pI r_2.to]))]) (gs := [.keep [1, 6, 7, 8, 48, 49, 50] [8, 47]]) (s' := ⟨[(1, pI t1), (6, .own 47 0 t6.length 2), (7, pI t50), (8, .ptr 8 0), (48, .p (encL Run.cs t0)), (49, pI ((t0.length : Int))), (50, pI t50)], [(8, .lit 57 [pI r_2.frm, pI r_2.to]), (47, .row 57 (t6.flatMap Run.cs))]⟩) (by kernel_rfl) (holds_of ((UU ∧ ((0 ≤ t50 ∧ t50 < (t0.length : Int))) ∧ (rowHas (t0.flatMap Run.cs) (t50.toNat * 2) [pI r_2.frm, pI r_2.to]) ∧ UU ∧ UU ∧ UU ∧ UU) ∧ (UU ∧ UU)) (by kernel_rfl) ⟨⟨TT, k15.2, row_has Run.cs_len k15.1 (o := 0) (m := 2) (by omega) (by decide), TT, TT, TT, TT⟩, ⟨TT, TT⟩⟩) ?_
              refine Done.mk (thenQ_n ?_)
              refine chk_el h (fun k16 h => ?_)
              refine chk_el h (fun k17 h => ?_)
              refine bind_el h (fun r_3 k18 h => ?_)
              replace k18 := getI_el k18
              refine awp_regionD Try_mixed (orcs := []) (gs := [.castB 47 (.row 57 ((t6.set t50.toNat (Run.mk (r_2.frm + t1) (r_2.to + t1))).flatMap Run.cs)), .castT 6 (.own 47 0 (t6.set t50.toNat (Run.mk (r_2.frm + t1) (r_2.to + t1))).length 2), .keep [1, 6, 48, 49, 50] [47]]) (s' := ⟨[(1, pI t1), (6, .own 47 0 (t6.set t50.toNat (Run.mk (r_2.frm + t1) (r_2.to + t1))).length 2), (48, .p (encL Run.cs t0)), (49, pI ((t0.length : Int))), (50, pI t50)], [(47, .row 57 ((t6.set t50.toNat (Run.mk (r_2.frm + t1) (r_2.to + t1))).flatMap Run.cs))]⟩) (by kernel_rfl) (holds_of ((UU ∧ UU ∧ UU ∧ UU ∧ UU ∧ (InR .i64 (r_2.frm + t1 : Int)) ∧ UU ∧ UU ∧ UU ∧ (InR .i64 (r_2.to + t1 : Int)) ∧ UU ∧ ((0 ≤ t50 ∧ t50 < (t6.length : Int))) ∧ (0 + t50.toNat * 2 + 2 ≤ (t6.flatMap Run.cs).length) ∧ UU) ∧ ((some (ABlk.row 57 (setL (t6.flatMap Run.cs) (0 + t50.toNat * 2) [vI (r_2.frm + t1), vI (r_2.to + t1)])) = some (ABlk.row 57 ((t6.set t50.toNat (Run.mk (r_2.frm + t1) (r_2.to + t1))).flatMap Run.cs))) ∧ (some (AV.own 47 0 t6.length 2) = some (AV.own 47 0 (t6.set t50.toNat (Run.mk (r_2.frm + t1) (r_2.to + t1))).length 2)) ∧ UU ∧ UU)) (by kernel_rfl) ⟨⟨TT, TT, TT, TT, TT, k16, TT, TT, TT, k17, TT, k18.2, set_le Run.cs_len k18.1 (o := 0) (m := 2) (by omega) (by decide), TT⟩, ⟨(set_row Run.cs_len k18.1 (x' := Run.mk (r_2.frm + t1) (r_2.to + t1)) (o := 0) (by omega) rfl (Nat.le_of_ble_eq_true rfl) _), set_len, TT, TT⟩⟩) ?_
              refine Done.mk (inB_n (thenQ_n ?_))
              refine chk_el h (fun k19 h => ?_)
              refine awp_regionD Try_mixed (orcs := []) (gs := [.keep [1, 6, 48, 49, 50] [47]]) (s' := ⟨[(1, pI t1), (6, .own 47 0 (t6.set t50.toNat (Run.mk (r_2.frm + t1) (r_2.to + t1))).length 2), (48, .p (encL Run.cs t0)), (49, pI ((t0.length : Int))), (50, pI (t50 + 1))], [(47, .row 57 ((t6.set t50.toNat (Run.mk (r_2.frm + t1) (r_2.to + t1))).flatMap Run.cs))]⟩) (by kernel_rfl) (holds_of (((InR .i64 (t50 + 1 : Int)) ∧ UU ∧ UU) ∧ (UU ∧ UU)) (by kernel_rfl) ⟨⟨k19, TT, TT⟩, ⟨TT, TT⟩⟩) ?_
              refine Done.mk ?_
              obtain rfl := Option.some.inj h
              exact ⟨rfl, by kernel_rfl⟩
            · refine awp_cond_f (b := decide (t50 < (t0.length : Int))) (by kernel_rfl) k14 ?_
              refine doneExit ?_
              refine Done.gh [.keep [6] [47], .keep [6] [47]] (s' := ⟨[(6, .own 47 0 t6.length 2)], [(47, .row 57 (t6.flatMap Run.cs))]⟩) (by kernel_rfl) (holds_of (UU ∧ UU ∧ UU) (by kernel_rfl) ⟨TT, TT, TT⟩) ?_
              refine Done.mk (thenQ_x ?_)
              obtain rfl := Option.some.inj h
              exact ⟨fun q => (by cases q), fun q => (by subst q; exact ⟨rfl, by kernel_rfl⟩)⟩
          · have _ := hm
            refine Done.as (e := (Exit.exit 1)) (s := ⟨[(6, .own 47 0 t61.length 2)], [(47, .row 57 (t61.flatMap Run.cs))]⟩) rfl (by kernel_rfl) ?_
            refine Done.mk (inB_hit (thenQ_n ?_))
            refine awp_seq ?_
            refine awp_regionD Try_mixed (orcs := []) (gs := [.keep [4, 5] [47]]) (s' := ⟨[(4, .own 47 0 t61.length 2), (5, pI 0)], [(47, .row 57 (t61.flatMap Run.cs))]⟩) (by kernel_rfl) (holds_of ((UU ∧ UU ∧ UU ∧ UU) ∧ (UU ∧ UU)) (by kernel_rfl) ⟨⟨TT, TT, TT, TT⟩, ⟨TT, TT⟩⟩) ?_
            refine Done.mk (thenQ_n ?_)
            refine doneRet ?_
            refine Done.gh [.frz 47, .keep [4, 5] []] (s' := ⟨[(4, .p (encL Run.cs t61)), (5, pI 0)], []⟩) (by kernel_rfl) (holds_of (UU ∧ UU ∧ UU) (by kernel_rfl) ⟨TT, TT, TT⟩) ?_
            refine Done.mk ?_
            obtain rfl := Option.some.inj h
            exact ⟨Or.inr rfl, by kernel_rfl, by kernel_rfl⟩
end
end Go.AM
end
