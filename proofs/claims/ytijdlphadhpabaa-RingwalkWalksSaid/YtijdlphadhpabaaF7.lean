/- Models of functions, and that their calls do what the models say. Printed by gen.py. -/
import Derived.Test.YtijdlphadhpabaaProg
import Derived.Test.YtijdlphadhpabaaF6
section
namespace Go.AM
open Go Go.RowKit Go.Proofs
noncomputable section
def region_Shift_j1 (t1 : Int) (t2 : Int) (v : (Cell × Cell × Bool)) : Option (Bool) :=
    (region_near t1).bind fun b1 =>
    ifB (!b1)
    (some true)
    ((region_near t2).bind fun b2 =>
      ifB (!b2)
      (some true)
      (chk (InR .i64 (v.1.x + t1 : Int))
        ((region_ok (v.1.x + t1)).bind fun b3 =>
        ifB (!b3)
        (some true)
        (chk (InR .i64 (v.2.1.x + t1 : Int))
          ((region_ok (v.2.1.x + t1)).bind fun b4 =>
          ifB (!b4)
          (some true)
          (chk (InR .i64 (v.1.y + t2 : Int))
            ((region_ok (v.1.y + t2)).bind fun b5 =>
            ifB (!b5)
            (some true)
            (chk (InR .i64 (v.2.1.y + t2 : Int))
              ((region_ok (v.2.1.y + t2)).bind fun b6 =>
              some (!b6))))))))))
def region_Shift_l2 (t0 : Region) (t1 : Int) (t2 : Int) (s : Int × (List Row)) : Option ((Int × (List Row)) ⊕ ((List Row))) :=
  match s with
  | (t76, t11) =>
    ifB (decide (t76 < (t0.rows.length : Int)))
    ((getI t0.rows t76).bind fun r_ =>
      (runs_Shift r_.runs t1).bind fun v1 =>
      chk (InR .i64 (r_.y + t2 : Int))
      (chk (t11.length + ([Row.mk (r_.y + t2) v1.1]).length ≤ 1099511627776)
      (chk (InR .i64 (t76 + 1 : Int))
      (some (.inl (t76 + 1, t11 ++ ([Row.mk (r_.y + t2) v1.1])))))))
    (some (.inr t11))
noncomputable def region_Shift (t0 : Region) (t1 : Int) (t2 : Int) : Option (Region × Int) :=
  (region_Box t0).bind fun v =>
  (region_Valid t0).bind fun b =>
  ifB (!b)
  (some (Region.mk (([] : (List Row))), 1))
  (ifB (!v.2.2)
    (some (Region.mk (([] : (List Row))), 0))
    ((region_Shift_j1 t1 t2 v).bind fun t31 =>
      ifB (t31)
      (some (Region.mk (([] : (List Row))), 8))
      ((loopP (region_Shift_l2 t0 t1 t2) (0, ([] : List Row))).bind fun t111 =>
        some (Region.mk t111, 0))))
set_option maxRecDepth 100000 in
set_option maxHeartbeats 4000000 in
theorem region_Shift_ok {t0 : Region} {t1 : Int} {t2 : Int} {r : (Region × Int)} (h : region_Shift t0 t1 t2 = some r) : ASpec Try.prog 15 [.agg [.p (encL Row.cs t0.rows)], pI t1, pI t2] [] (.tup [.agg [.p (encL Row.cs r.1.rows)], pI r.2]) [] := by
  refine aspec_of Try.func15 (c := _) rfl (by kernel_rfl) (by rw [Try.ntmps15]; exact Nat.le_of_ble_eq_true rfl) ?_
  refine awp_seq ?_
  refine awp_regionD Try_mixed (orcs := []) (gs := [.keep [1, 2, 3, 6] [3, 6]]) (s' := ⟨[(1, pI t1), (2, pI t2), (3, .ptr 3 0), (6, .ptr 6 0)], [(3, .lit 24 [.p (encL Row.cs t0.rows)]), (6, .lit 24 [.nils])]⟩) (by kernel_rfl) (holds_of ((UU ∧ UU ∧ UU ∧ UU) ∧ (UU ∧ UU)) (by kernel_rfl) ⟨⟨TT, TT, TT, TT⟩, ⟨TT, TT⟩⟩) ?_
  refine Done.mk (thenQ_n ?_)
  refine awp_seq ?_
  refine bind_el h (fun v k1 h => ?_)
  refine awp_regionD Try_mixed (orcs := [(1, tV (.tup [.agg [pI v.1.x, pI v.1.y], .agg [pI v.2.1.x, pI v.2.1.y], pB v.2.2]))]) (gs := [.keep [1, 2, 3, 6, 8, 9, 10] [3, 6, 8, 9]]) (s' := ⟨[(1, pI t1), (2, pI t2), (3, .ptr 3 0), (6, .ptr 6 0), (8, .ptr 8 0), (9, .ptr 9 0), (10, pB v.2.2)], [(3, .lit 24 [.p (encL Row.cs t0.rows)]), (6, .lit 24 [.nils]), (8, .lit 37 [pI v.1.x, pI v.1.y]), (9, .lit 37 [pI v.2.1.x, pI v.2.1.y])]⟩) (by kernel_rfl) (holds_of ((UU ∧ (ASpec Try.prog 29 [.agg [.p (encL Row.cs t0.rows)]] [] (.tup [.agg [pI v.1.x, pI v.1.y], .agg [pI v.2.1.x, pI v.2.1.y], pB v.2.2]) []) ∧ UU ∧ UU ∧ UU ∧ UU ∧ UU ∧ UU ∧ UU ∧ UU ∧ UU ∧ UU) ∧ (UU ∧ UU)) (by kernel_rfl) ⟨⟨TT, region_Box_ok k1, TT, TT, TT, TT, TT, TT, TT, TT, TT, TT⟩, ⟨TT, TT⟩⟩) ?_
  refine Done.mk (thenQ_n ?_)
  refine awp_seq ?_
  refine awp_block ?_
  refine awp_seq ?_
  refine bind_el h (fun b k2 h => ?_)
  refine awp_regionD Try_mixed (orcs := [(1, tV (pB b))]) (gs := [.keep [1, 2, 3, 6, 8, 9, 10, 22] [3, 6, 8, 9]]) (s' := ⟨[(1, pI t1), (2, pI t2), (3, .ptr 3 0), (6, .ptr 6 0), (8, .ptr 8 0), (9, .ptr 9 0), (10, pB v.2.2), (22, pB (!b))], [(3, .lit 24 [.p (encL Row.cs t0.rows)]), (6, .lit 24 [.nils]), (8, .lit 37 [pI v.1.x, pI v.1.y]), (9, .lit 37 [pI v.2.1.x, pI v.2.1.y])]⟩) (by kernel_rfl) (holds_of ((UU ∧ (ASpec Try.prog 24 [.agg [.p (encL Row.cs t0.rows)]] [] (pB b) []) ∧ UU ∧ UU ∧ UU) ∧ (UU ∧ UU)) (by kernel_rfl) ⟨⟨TT, region_Valid_ok k2, TT, TT, TT⟩, ⟨TT, TT⟩⟩) ?_
  refine Done.mk (thenQ_n ?_)
  refine ifB_el h (fun k3 h => ?_) (fun k3 h => ?_)
  · refine awp_cond_t (b := !b) (by kernel_rfl) k3 ?_
    refine awp_seq ?_
    refine awp_regionD Try_mixed (orcs := []) (gs := [.keep [6, 7] [6]]) (s' := ⟨[(6, .ptr 6 0), (7, pI 1)], [(6, .lit 24 [.nils])]⟩) (by kernel_rfl) (holds_of ((UU ∧ UU ∧ UU ∧ UU) ∧ (UU ∧ UU)) (by kernel_rfl) ⟨⟨TT, TT, TT, TT⟩, ⟨TT, TT⟩⟩) ?_
    refine Done.mk (thenQ_n ?_)
    refine doneRet ?_
    refine Done.gh [.pureB 6, .keep [6, 7] [6]] (s' := ⟨[(6, .ptr 6 0), (7, pI 1)], [(6, .lit 24 [.p (.sl [] 0)])]⟩) (by kernel_rfl) (holds_of (UU ∧ UU ∧ UU) (by kernel_rfl) ⟨TT, TT, TT⟩) ?_
    refine Done.mk (inB_r (thenQ_r ?_))
    obtain rfl := Option.some.inj h
    exact ⟨Or.inr rfl, by kernel_rfl, by kernel_rfl⟩
  · refine awp_cond_f (b := !b) (by kernel_rfl) k3 ?_
    refine awp_seq ?_
    refine awp_regionD Try_mixed (orcs := []) (gs := [.keep [1, 2, 3, 6, 8, 9, 27] [3, 6, 8, 9]]) (s' := ⟨[(1, pI t1), (2, pI t2), (3, .ptr 3 0), (6, .ptr 6 0), (8, .ptr 8 0), (9, .ptr 9 0), (27, pB (!v.2.2))], [(3, .lit 24 [.p (encL Row.cs t0.rows)]), (6, .lit 24 [.nils]), (8, .lit 37 [pI v.1.x, pI v.1.y]), (9, .lit 37 [pI v.2.1.x, pI v.2.1.y])]⟩) (by kernel_rfl) (holds_of ((UU ∧ UU ∧ UU ∧ UU) ∧ (UU ∧ UU)) (by kernel_rfl) ⟨⟨TT, TT, TT, TT⟩, ⟨TT, TT⟩⟩) ?_
    refine Done.mk (thenQ_n ?_)
    refine ifB_el h (fun k4 h => ?_) (fun k4 h => ?_)
    · refine awp_cond_t (b := !v.2.2) (by kernel_rfl) k4 ?_
      refine awp_seq ?_
      refine awp_regionD Try_mixed (orcs := []) (gs := [.keep [6, 7] [6]]) (s' := ⟨[(6, .ptr 6 0), (7, pI 0)], [(6, .lit 24 [.nils])]⟩) (by kernel_rfl) (holds_of ((UU ∧ UU ∧ UU ∧ UU) ∧ (UU ∧ UU)) (by kernel_rfl) ⟨⟨TT, TT, TT, TT⟩, ⟨TT, TT⟩⟩) ?_
      refine Done.mk (thenQ_n ?_)
      refine doneRet ?_
      refine Done.gh [.pureB 6, .keep [6, 7] [6]] (s' := ⟨[(6, .ptr 6 0), (7, pI 0)], [(6, .lit 24 [.p (.sl [] 0)])]⟩) (by kernel_rfl) (holds_of (UU ∧ UU ∧ UU) (by kernel_rfl) ⟨TT, TT, TT⟩) ?_
      refine Done.mk (inB_r (thenQ_r ?_))
      obtain rfl := Option.some.inj h
      exact ⟨Or.inr rfl, by kernel_rfl, by kernel_rfl⟩
    · refine awp_cond_f (b := !v.2.2) (by kernel_rfl) k4 ?_
      refine awp_seq ?_
      refine bind_el h (fun t31 hm h => ?_)
      refine awp_tail (fun _ => Exit.normal) (fun o => match o with | t31 => ⟨[(1, pI t1), (2, pI t2), (3, .ptr 3 0), (6, .ptr 6 0), (31, pB t31)], [(3, .lit 24 [.p (encL Row.cs t0.rows)]), (6, .lit 24 [.nils])]⟩) hm (fun o h => ?_) ?_
      · refine bind_el h (fun b1 k5 h => ?_)
        refine ifB_el h (fun k6 h => ?_) (fun k6 h => ?_)
        · refine awp_regionD Try_mixed (orcs := [(1, tV (pB b1)), (3, tB true)]) (gs := [.keep [1, 2, 3, 6, 31] [3, 6]]) (s' := ⟨[(1, pI t1), (2, pI t2), (3, .ptr 3 0), (6, .ptr 6 0), (31, pB true)], [(3, .lit 24 [.p (encL Row.cs t0.rows)]), (6, .lit 24 [.nils])]⟩) (by kernel_rfl) (holds_of ((UU ∧ (ASpec Try.prog 30 [pI t1] [] (pB b1) []) ∧ UU ∧ ((UU ∧ some (pB (!b1)) = some (pB true))) ∧ UU ∧ UU ∧ UU ∧ UU ∧ UU ∧ UU ∧ UU ∧ UU ∧ UU ∧ UU ∧ UU) ∧ (UU ∧ UU)) (by kernel_rfl) ⟨⟨TT, region_near_ok k5, TT, ⟨TT, by rw [k6]⟩, TT, TT, TT, TT, TT, TT, TT, TT, TT, TT, TT⟩, ⟨TT, TT⟩⟩) ?_
          refine Done.mk ?_
          obtain rfl := Option.some.inj h
          exact ⟨rfl, by kernel_rfl⟩
        · refine bind_el h (fun b2 k7 h => ?_)
          refine ifB_el h (fun k8 h => ?_) (fun k8 h => ?_)
          · refine awp_regionD Try_mixed (orcs := [(1, tV (pB b1)), (3, tB false), (5, tV (pB b2)), (8, tB true)]) (gs := [.keep [1, 2, 3, 6, 31] [3, 6]]) (s' := ⟨[(1, pI t1), (2, pI t2), (3, .ptr 3 0), (6, .ptr 6 0), (31, pB true)], [(3, .lit 24 [.p (encL Row.cs t0.rows)]), (6, .lit 24 [.nils])]⟩) (by kernel_rfl) (holds_of ((UU ∧ (ASpec Try.prog 30 [pI t1] [] (pB b1) []) ∧ UU ∧ ((UU ∧ some (pB (!b1)) = some (pB false))) ∧ UU ∧ (ASpec Try.prog 30 [pI t2] [] (pB b2) []) ∧ UU ∧ UU ∧ ((UU ∧ some (pB (!b2)) = some (pB true))) ∧ UU ∧ UU ∧ UU ∧ UU ∧ UU ∧ UU ∧ UU ∧ UU ∧ UU) ∧ (UU ∧ UU)) (by kernel_rfl) ⟨⟨TT, region_near_ok k5, TT, ⟨TT, by rw [k6]⟩, TT, region_near_ok k7, TT, TT, ⟨TT, by rw [k8]⟩, TT, TT, TT, TT, TT, TT, TT, TT, TT⟩, ⟨TT, TT⟩⟩) ?_
            refine Done.mk ?_
            obtain rfl := Option.some.inj h
            exact ⟨rfl, by kernel_rfl⟩
          · refine chk_el h (fun k9 h => ?_)
            refine bind_el h (fun b3 k10 h => ?_)
            refine ifB_el h (fun k11 h => ?_) (fun k11 h => ?_)
            · refine awp_regionD Try_mixed (orcs := [(1, tV (pB b1)), (3, tB false), (5, tV (pB b2)), (8, tB false), (13, tV (pB b3)), (16, tB true)]) (gs := [.keep [1, 2, 3, 6, 31] [3, 6]]) (s' := ⟨[(1, pI t1), (2, pI t2), (3, .ptr 3 0), (6, .ptr 6 0), (31, pB true)], [(3, .lit 24 [.p (encL Row.cs t0.rows)]), (6, .lit 24 [.nils])]⟩) (by kernel_rfl) (holds_of ((UU ∧ (ASpec Try.prog 30 [pI t1] [] (pB b1) []) ∧ UU ∧ ((UU ∧ some (pB (!b1)) = some (pB false))) ∧ UU ∧ (ASpec Try.prog 30 [pI t2] [] (pB b2) []) ∧ UU ∧ UU ∧ ((UU ∧ some (pB (!b2)) = some (pB false))) ∧ UU ∧ UU ∧ UU ∧ (InR .i64 (v.1.x + t1 : Int)) ∧ (ASpec Try.prog 31 [pI (v.1.x + t1)] [] (pB b3) []) ∧ UU ∧ UU ∧ ((UU ∧ some (pB (!b3)) = some (pB true))) ∧ UU ∧ UU ∧ UU ∧ UU ∧ UU ∧ UU ∧ UU) ∧ (UU ∧ UU)) (by kernel_rfl) ⟨⟨TT, region_near_ok k5, TT, ⟨TT, by rw [k6]⟩, TT, region_near_ok k7, TT, TT, ⟨TT, by rw [k8]⟩, TT, TT, TT, k9, region_ok_ok k10, TT, TT, ⟨TT, by rw [k11]⟩, TT, TT, TT, TT, TT, TT, TT⟩, ⟨TT, TT⟩⟩) ?_
              refine Done.mk ?_
              obtain rfl := Option.some.inj h
              exact ⟨rfl, by kernel_rfl⟩
            · refine chk_el h (fun k12 h => ?_)
              refine bind_el h (fun b4 k13 h => ?_)
              refine ifB_el h (fun k14 h => ?_) (fun k14 h => ?_)
              · refine awp_regionD Try_mixed (orcs := [(1, tV (pB b1)), (3, tB false), (5, tV (pB b2)), (8, tB false), (13, tV (pB b3)), (16, tB false), (21, tV (pB b4)), (24, tB true)]) (gs := [.keep [1, 2, 3, 6, 31] [3, 6]]) (s' := ⟨[(1, pI t1), (2, pI t2), (3, .ptr 3 0), (6, .ptr 6 0), (31, pB true)], [(3, .lit 24 [.p (encL Row.cs t0.rows)]), (6, .lit 24 [.nils])]⟩) (by kernel_rfl) (holds_of ((UU ∧ (ASpec Try.prog 30 [pI t1] [] (pB b1) []) ∧ UU ∧ ((UU ∧ some (pB (!b1)) = some (pB false))) ∧ UU ∧ (ASpec Try.prog 30 [pI t2] [] (pB b2) []) ∧ UU ∧ UU ∧ ((UU ∧ some (pB (!b2)) = some (pB false))) ∧ UU ∧ UU ∧ UU ∧ (InR .i64 (v.1.x + t1 : Int)) ∧ (ASpec Try.prog 31 [pI (v.1.x + t1)] [] (pB b3) []) ∧ UU ∧ UU ∧ ((UU ∧ some (pB (!b3)) = some (pB false))) ∧ UU ∧ UU ∧ UU ∧ (InR .i64 (v.2.1.x + t1 : Int)) ∧ (ASpec Try.prog 31 [pI (v.2.1.x + t1)] [] (pB b4) []) ∧ UU ∧ UU ∧ ((UU ∧ some (pB (!b4)) = some (pB true))) ∧ UU ∧ UU ∧ UU ∧ UU ∧ UU) ∧ (UU ∧ UU)) (by kernel_rfl) ⟨⟨TT, region_near_ok k5, TT, ⟨TT, by rw [k6]⟩, TT, region_near_ok k7, TT, TT, ⟨TT, by rw [k8]⟩, TT, TT, TT, k9, region_ok_ok k10, TT, TT, ⟨TT, by rw [k11]⟩, TT, TT, TT, k12, region_ok_ok k13, TT, TT, ⟨TT, by rw [k14]⟩, TT, TT, TT, TT, TT⟩, ⟨TT, TT⟩⟩) ?_
                refine Done.mk ?_
                obtain rfl := Option.some.inj h
                exact ⟨rfl, by kernel_rfl⟩
              · refine chk_el h (fun k15 h => ?_)
                refine bind_el h (fun b5 k16 h => ?_)
                refine ifB_el h (fun k17 h => ?_) (fun k17 h => ?_)
                · refine awp_regionD Try_mixed (orcs := [(1, tV (pB b1)), (3, tB false), (5, tV (pB b2)), (8, tB false), (13, tV (pB b3)), (16, tB false), (21, tV (pB b4)), (24, tB false), (29, tV (pB b5)), (32, tB true)]) (gs := [.keep [1, 2, 3, 6, 31] [3, 6]]) (s' := ⟨[(1, pI t1), (2, pI t2), (3, .ptr 3 0), (6, .ptr 6 0), (31, pB true)], [(3, .lit 24 [.p (encL Row.cs t0.rows)]), (6, .lit 24 [.nils])]⟩) (by kernel_rfl) (holds_of ((UU ∧ (ASpec Try.prog 30 [pI t1] [] (pB b1) []) ∧ UU ∧ ((UU ∧ some (pB (!b1)) = some (pB false))) ∧ UU ∧ (ASpec Try.prog 30 [pI t2] [] (pB b2) []) ∧ UU ∧ UU ∧ ((UU ∧ some (pB (!b2)) = some (pB false))) ∧ UU ∧ UU ∧ UU ∧ (InR .i64 (v.1.x + t1 : Int)) ∧ (ASpec Try.prog 31 [pI (v.1.x + t1)] [] (pB b3) []) ∧ UU ∧ UU ∧ ((UU ∧ some (pB (!b3)) = some (pB false))) ∧ UU ∧ UU ∧ UU ∧ (InR .i64 (v.2.1.x + t1 : Int)) ∧ (ASpec Try.prog 31 [pI (v.2.1.x + t1)] [] (pB b4) []) ∧ UU ∧ UU ∧ ((UU ∧ some (pB (!b4)) = some (pB false))) ∧ UU ∧ UU ∧ UU ∧ (InR .i64 (v.1.y + t2 : Int)) ∧ (ASpec Try.prog 31 [pI (v.1.y + t2)] [] (pB b5) []) ∧ UU ∧ UU ∧ ((UU ∧ some (pB (!b5)) = some (pB true))) ∧ UU ∧ UU ∧ UU) ∧ (UU ∧ UU)) (by kernel_rfl) ⟨⟨TT, region_near_ok k5, TT, ⟨TT, by rw [k6]⟩, TT, region_near_ok k7, TT, TT, ⟨TT, by rw [k8]⟩, TT, TT, TT, k9, region_ok_ok k10, TT, TT, ⟨TT, by rw [k11]⟩, TT, TT, TT, k12, region_ok_ok k13, TT, TT, ⟨TT, by rw [k14]⟩, TT, TT, TT, k15, region_ok_ok k16, TT, TT, ⟨TT, by rw [k17]⟩, TT, TT, TT⟩, ⟨TT, TT⟩⟩) ?_
                  refine Done.mk ?_
                  obtain rfl := Option.some.inj h
                  exact ⟨rfl, by kernel_rfl⟩
                · refine chk_el h (fun k18 h => ?_)
                  refine bind_el h (fun b6 k19 h => ?_)
                  refine awp_regionD Try_mixed (orcs := [(1, tV (pB b1)), (3, tB false), (5, tV (pB b2)), (8, tB false), (13, tV (pB b3)), (16, tB false), (21, tV (pB b4)), (24, tB false), (29, tV (pB b5)), (32, tB false), (37, tV (pB b6))]) (gs := [.keep [1, 2, 3, 6, 31] [3, 6]]) (s' := ⟨[(1, pI t1), (2, pI t2), (3, .ptr 3 0), (6, .ptr 6 0), (31, pB (!b6))], [(3, .lit 24 [.p (encL Row.cs t0.rows)]), (6, .lit 24 [.nils])]⟩) (by kernel_rfl) (holds_of ((UU ∧ (ASpec Try.prog 30 [pI t1] [] (pB b1) []) ∧ UU ∧ ((UU ∧ some (pB (!b1)) = some (pB false))) ∧ UU ∧ (ASpec Try.prog 30 [pI t2] [] (pB b2) []) ∧ UU ∧ UU ∧ ((UU ∧ some (pB (!b2)) = some (pB false))) ∧ UU ∧ UU ∧ UU ∧ (InR .i64 (v.1.x + t1 : Int)) ∧ (ASpec Try.prog 31 [pI (v.1.x + t1)] [] (pB b3) []) ∧ UU ∧ UU ∧ ((UU ∧ some (pB (!b3)) = some (pB false))) ∧ UU ∧ UU ∧ UU ∧ (InR .i64 (v.2.1.x + t1 : Int)) ∧ (ASpec Try.prog 31 [pI (v.2.1.x + t1)] [] (pB b4) []) ∧ UU ∧ UU ∧ ((UU ∧ some (pB (!b4)) = some (pB false))) ∧ UU ∧ UU ∧ UU ∧ (InR .i64 (v.1.y + t2 : Int)) ∧ (ASpec Try.prog 31 [pI (v.1.y + t2)] [] (pB b5) []) ∧ UU ∧ UU ∧ ((UU ∧ some (pB (!b5)) = some (pB false))) ∧ UU ∧ UU ∧ UU ∧ (InR .i64 (v.2.1.y + t2 : Int)) ∧ (ASpec Try.prog 31 [pI (v.2.1.y + t2)] [] (pB b6) []) ∧ UU ∧ UU ∧ UU ∧ UU) ∧ (UU ∧ UU)) (by kernel_rfl) ⟨⟨TT, region_near_ok k5, TT, ⟨TT, by rw [k6]⟩, TT, region_near_ok k7, TT, TT, ⟨TT, by rw [k8]⟩, TT, TT, TT, k9, region_ok_ok k10, TT, TT, ⟨TT, by rw [k11]⟩, TT, TT, TT, k12, region_ok_ok k13, TT, TT, ⟨TT, by rw [k14]⟩, TT, TT, TT, k15, region_ok_ok k16, TT, TT, ⟨TT, by rw [k17]⟩, TT, TT, TT, k18, region_ok_ok k19, TT, TT, TT, TT⟩, ⟨TT, TT⟩⟩) ?_
                  refine Done.mk ?_
                  obtain rfl := Option.some.inj h
                  exact ⟨rfl, by kernel_rfl⟩
      · have _ := hm
        refine Done.as (e := Exit.normal) (s := ⟨[(1, pI t1), (2, pI t2), (3, .ptr 3 0), (6, .ptr 6 0), (31, pB t31)], [(3, .lit 24 [.p (encL Row.cs t0.rows)]), (6, .lit 24 [.nils])]⟩) rfl (by kernel_rfl) ?_
        refine Done.mk (thenQ_n ?_)
        refine ifB_el h (fun k20 h => ?_) (fun k20 h => ?_)
        · refine awp_cond_t (b := t31) (by kernel_rfl) k20 ?_
          refine awp_seq ?_
          refine awp_regionD Try_mixed (orcs := []) (gs := [.keep [6, 7] [6]]) (s' := ⟨[(6, .ptr 6 0), (7, pI 8)], [(6, .lit 24 [.nils])]⟩) (by kernel_rfl) (holds_of ((UU ∧ UU ∧ UU ∧ UU) ∧ (UU ∧ UU)) (by kernel_rfl) ⟨⟨TT, TT, TT, TT⟩, ⟨TT, TT⟩⟩) ?_
          refine Done.mk (thenQ_n ?_)
          refine doneRet ?_
          refine Done.gh [.pureB 6, .keep [6, 7] [6]] (s' := ⟨[(6, .ptr 6 0), (7, pI 8)], [(6, .lit 24 [.p (.sl [] 0)])]⟩) (by kernel_rfl) (holds_of (UU ∧ UU ∧ UU) (by kernel_rfl) ⟨TT, TT, TT⟩) ?_
          refine Done.mk (inB_r (thenQ_r ?_))
          obtain rfl := Option.some.inj h
          exact ⟨Or.inr rfl, by kernel_rfl, by kernel_rfl⟩
        · refine awp_cond_f (b := t31) (by kernel_rfl) k20 ?_
          refine doneSkip ?_
          refine Done.mk (inB_n (thenQ_n ?_))
          refine awp_seq ?_
          refine awp_regionD Try_mixed (orcs := []) (gs := [.keep [1, 2, 3, 6, 11] [3, 6, 11]]) (s' := ⟨[(1, pI t1), (2, pI t2), (3, .ptr 3 0), (6, .ptr 6 0), (11, .ptr 11 0)], [(3, .lit 24 [.p (encL Row.cs t0.rows)]), (6, .lit 24 [.nils]), (11, .lit 24 [.nils])]⟩) (by kernel_rfl) (holds_of ((UU ∧ UU) ∧ (UU ∧ UU)) (by kernel_rfl) ⟨⟨TT, TT⟩, ⟨TT, TT⟩⟩) ?_
          refine Done.mk (thenQ_n ?_)
          refine awp_seq ?_
          refine awp_seq ?_
          refine awp_regionD Try_mixed (orcs := []) (gs := [.keep [1, 2, 6, 11, 74, 75, 76] [6, 11]]) (s' := ⟨[(1, pI t1), (2, pI t2), (6, .ptr 6 0), (11, .ptr 11 0), (74, .p (encL Row.cs t0.rows)), (75, pI ((t0.rows.length : Int))), (76, pI 0)], [(6, .lit 24 [.nils]), (11, .lit 24 [.nils])]⟩) (by kernel_rfl) (holds_of ((UU ∧ UU ∧ UU ∧ UU ∧ UU) ∧ (UU ∧ UU)) (by kernel_rfl) ⟨⟨TT, TT, TT, TT, TT⟩, ⟨TT, TT⟩⟩) ?_
          refine Done.mk (thenQ_n ?_)
          refine awp_block ?_
          refine bind_el h (fun t111 hm h => ?_)
          refine awp_gh [.keep [1, 2, 6, 11, 74, 75, 76] [6, 11], .opnB 11 0 5001 48 2, .keep [1, 2, 6, 11, 74, 75, 76] [6, 11, 5001]] (s' := ⟨[(1, pI t1), (2, pI t2), (6, .ptr 6 0), (11, .ptr 11 0), (74, .p (encL Row.cs t0.rows)), (75, pI ((t0.rows.length : Int))), (76, pI 0)], [(6, .lit 24 [.nils]), (11, .lit 24 [.own 5001 0 (([] : List Row)).length 2]), (5001, .row 48 ((([] : List Row)).flatMap Row.cs))]⟩) (by kernel_rfl) (holds_of (UU ∧ UU ∧ UU ∧ UU) (by kernel_rfl) ⟨TT, TT, TT, TT⟩) ?_
          refine awp_tail (fun _ => (Exit.exit 1)) (fun o => match o with | t111 => ⟨[(6, .ptr 6 0), (11, .ptr 11 0)], [(6, .lit 24 [.nils]), (11, .lit 24 [.own 5001 0 t111.length 2]), (5001, .row 48 (t111.flatMap Row.cs))]⟩) hm (fun o h => ?_) ?_
          · refine awp_loop' (fun s => match s with | (t76, t11) => ⟨[(1, pI t1), (2, pI t2), (6, .ptr 6 0), (11, .ptr 11 0), (74, .p (encL Row.cs t0.rows)), (75, pI ((t0.rows.length : Int))), (76, pI t76)], [(6, .lit 24 [.nils]), (11, .lit 24 [.own 5001 0 t11.length 2]), (5001, .row 48 (t11.flatMap Row.cs))]⟩) h (by kernel_rfl) (fun s out h => ?_)
            obtain ⟨t76, t11⟩ := s
            refine awp_seq ?_
            refine awp_regionD Try_mixed (orcs := []) (gs := [.keep [1, 2, 6, 11, 74, 75, 76, 77] [6, 11, 5001]]) (s' := ⟨[(1, pI t1), (2, pI t2), (6, .ptr 6 0), (11, .ptr 11 0), (74, .p (encL Row.cs t0.rows)), (75, pI ((t0.rows.length : Int))), (76, pI t76), (77, pB (decide (t76 < (t0.rows.length : Int))))], [(6, .lit 24 [.nils]), (11, .lit 24 [.own 5001 0 t11.length 2]), (5001, .row 48 (t11.flatMap Row.cs))]⟩) (by kernel_rfl) (holds_of ((UU ∧ UU) ∧ (UU ∧ UU)) (by kernel_rfl) ⟨⟨TT, TT⟩, ⟨TT, TT⟩⟩) ?_
            refine Done.mk (thenQ_n ?_)
            refine awp_seq ?_
            refine ifB_el h (fun k21 h => ?_) (fun k21 h => ?_)
            · refine awp_cond_t (b := decide (t76 < (t0.rows.length : Int))) (by kernel_rfl) k21 ?_
              refine doneSkip ?_
              refine Done.mk (thenQ_n ?_)
              refine awp_seq ?_
              refine awp_block ?_
              refine awp_seq ?_
              refine bind_el h (fun r_ k22 h => ?_)
              replace k22 := getI_el k22
              refine awp_regionD Try_mixed (orcs := [(1, tV (.agg [pI r_.y, .p (encL Run.cs r_.runs)]))]) (gs := [.keep [1, 2, 6, 11, 13, 74, 75, 76] [6, 11, 13, 5001]]) (s' := ⟨[(1, pI t1), (2, pI t2), (6, .ptr 6 0), (11, .ptr 11 0), (13, .ptr 13 0), (74, .p (encL Row.cs t0.rows)), (75, pI ((t0.rows.length : Int))), (76, pI t76)], [(6, .lit 24 [.nils]), (11, .lit 24 [.own 5001 0 t11.length 2]), (13, .lit 48 [pI r_.y, .p (encL Run.cs r_.runs)]), (5001, .row 48 (t11.flatMap Row.cs))]⟩) (by kernel_rfl) (holds_of ((((0 ≤ t76 ∧ t76 < (t0.rows.length : Int))) ∧ (rowHas (t0.rows.flatMap Row.cs) (t76.toNat * 2) [pI r_.y, .p (encL Run.cs r_.runs)]) ∧ UU ∧ UU ∧ UU) ∧ (UU ∧ UU)) (by kernel_rfl) ⟨⟨k22.2, row_has Row.cs_len k22.1 (o := 0) (m := 2) (by omega) (by decide), TT, TT, TT⟩, ⟨TT, TT⟩⟩) ?_
              refine Done.mk (thenQ_n ?_)
              refine awp_seq ?_
              refine bind_el h (fun v1 k23 h => ?_)
              refine awp_regionD Try_mixed (orcs := [(3, tV (.tup [.p (encL Run.cs v1.1), pI v1.2]))]) (gs := [.keep [1, 2, 6, 11, 13, 14, 74, 75, 76] [6, 11, 13, 5001]]) (s' := ⟨[(1, pI t1), (2, pI t2), (6, .ptr 6 0), (11, .ptr 11 0), (13, .ptr 13 0), (14, .p (encL Run.cs v1.1)), (74, .p (encL Row.cs t0.rows)), (75, pI ((t0.rows.length : Int))), (76, pI t76)], [(6, .lit 24 [.nils]), (11, .lit 24 [.own 5001 0 t11.length 2]), (13, .lit 48 [pI r_.y, .p (encL Run.cs r_.runs)]), (5001, .row 48 (t11.flatMap Row.cs))]⟩) (by kernel_rfl) (holds_of ((UU ∧ UU ∧ UU ∧ (ASpec Try.prog 32 [.p (encL Run.cs r_.runs), pI t1] [] (.tup [.p (encL Run.cs v1.1), pI v1.2]) []) ∧ UU ∧ UU ∧ UU ∧ UU ∧ UU ∧ UU) ∧ (UU ∧ UU)) (by kernel_rfl) ⟨⟨TT, TT, TT, runs_Shift_ok k23, TT, TT, TT, TT, TT, TT⟩, ⟨TT, TT⟩⟩) ?_
              refine Done.mk (thenQ_n ?_)
              refine chk_el h (fun k24 h => ?_)
              refine chk_el h (fun k25 h => ?_)
              refine awp_regionD Try_mixed (orcs := [(9, tV (.own 96 0 (t11 ++ ([Row.mk (r_.y + t2) v1.1])).length 2))]) (gs := [.castB 96 (.row 48 ((t11 ++ ([Row.mk (r_.y + t2) v1.1])).flatMap Row.cs)), .keep [1, 2, 6, 11, 74, 75, 76] [6, 11, 96]]) (s' := ⟨[(1, pI t1), (2, pI t2), (6, .ptr 6 0), (11, .ptr 11 0), (74, .p (encL Row.cs t0.rows)), (75, pI ((t0.rows.length : Int))), (76, pI t76)], [(6, .lit 24 [.nils]), (11, .lit 24 [.own 96 0 (t11 ++ ([Row.mk (r_.y + t2) v1.1])).length 2]), (96, .row 48 ((t11 ++ ([Row.mk (r_.y + t2) v1.1])).flatMap Row.cs))]⟩) (by kernel_rfl) (holds_of ((UU ∧ UU ∧ UU ∧ UU ∧ UU ∧ (InR .i64 (r_.y + t2 : Int)) ∧ UU ∧ UU ∧ UU ∧ ((((t11.flatMap Row.cs).length = t11.length * 2 ∧ (([Row.mk (r_.y + t2) v1.1]).flatMap Row.cs).length = ([Row.mk (r_.y + t2) v1.1]).length * 2 ∧ (t11.length + ([Row.mk (r_.y + t2) v1.1]).length) * 32 ≤ 140737488355328 ∧ t11.length + ([Row.mk (r_.y + t2) v1.1]).length ≤ 9223372036854775807) ∧ some (AV.own 96 0 (t11.length + ([Row.mk (r_.y + t2) v1.1]).length) 2) = some (AV.own 96 0 (t11 ++ ([Row.mk (r_.y + t2) v1.1])).length 2))) ∧ UU ∧ UU ∧ UU) ∧ ((some (ABlk.row 48 (t11.flatMap Row.cs ++ ([Row.mk (r_.y + t2) v1.1]).flatMap Row.cs)) = some (ABlk.row 48 ((t11 ++ ([Row.mk (r_.y + t2) v1.1])).flatMap Row.cs))) ∧ UU ∧ UU)) (by kernel_rfl) ⟨⟨TT, TT, TT, TT, TT, k24, TT, TT, TT, ⟨⟨flat_len Row.cs_len _, flat_len Row.cs_len _, by omega, by omega⟩, app_len _ _ _ _⟩, TT, TT, TT⟩, ⟨(app_row Row.cs _ _ _), TT, TT⟩⟩) ?_
              refine Done.mk (inB_n (thenQ_n ?_))
              refine chk_el h (fun k26 h => ?_)
              refine awp_regionD Try_mixed (orcs := []) (gs := [.keep [1, 2, 6, 11, 74, 75, 76] [6, 11, 96]]) (s' := ⟨[(1, pI t1), (2, pI t2), (6, .ptr 6 0), (11, .ptr 11 0), (74, .p (encL Row.cs t0.rows)), (75, pI ((t0.rows.length : Int))), (76, pI (t76 + 1))], [(6, .lit 24 [.nils]), (11, .lit 24 [.own 96 0 (t11 ++ ([Row.mk (r_.y + t2) v1.1])).length 2]), (96, .row 48 ((t11 ++ ([Row.mk (r_.y + t2) v1.1])).flatMap Row.cs))]⟩) (by kernel_rfl) (holds_of (((InR .i64 (t76 + 1 : Int)) ∧ UU ∧ UU) ∧ (UU ∧ UU)) (by kernel_rfl) ⟨⟨k26, TT, TT⟩, ⟨TT, TT⟩⟩) ?_
              refine Done.gh [.keep [1, 2, 6, 11, 74, 75, 76] [6, 11, 96], .ren 96 5001, .keep [1, 2, 6, 11, 74, 75, 76] [6, 11, 5001]] (s' := ⟨[(1, pI t1), (2, pI t2), (6, .ptr 6 0), (11, .ptr 11 0), (74, .p (encL Row.cs t0.rows)), (75, pI ((t0.rows.length : Int))), (76, pI (t76 + 1))], [(6, .lit 24 [.nils]), (11, .lit 24 [.own 5001 0 (t11 ++ ([Row.mk (r_.y + t2) v1.1])).length 2]), (5001, .row 48 ((t11 ++ ([Row.mk (r_.y + t2) v1.1])).flatMap Row.cs))]⟩) (by kernel_rfl) (holds_of (UU ∧ UU ∧ UU ∧ UU) (by kernel_rfl) ⟨TT, TT, TT, TT⟩) ?_
              refine Done.mk ?_
              obtain rfl := Option.some.inj h
              exact ⟨rfl, by kernel_rfl⟩
            · refine awp_cond_f (b := decide (t76 < (t0.rows.length : Int))) (by kernel_rfl) k21 ?_
              refine doneExit ?_
              refine Done.gh [.keep [6, 11] [6, 11, 5001], .keep [6, 11] [6, 11, 5001]] (s' := ⟨[(6, .ptr 6 0), (11, .ptr 11 0)], [(6, .lit 24 [.nils]), (11, .lit 24 [.own 5001 0 t11.length 2]), (5001, .row 48 (t11.flatMap Row.cs))]⟩) (by kernel_rfl) (holds_of (UU ∧ UU ∧ UU) (by kernel_rfl) ⟨TT, TT, TT⟩) ?_
              refine Done.mk (thenQ_x ?_)
              obtain rfl := Option.some.inj h
              exact ⟨fun q => (by cases q), fun q => (by subst q; exact ⟨rfl, by kernel_rfl⟩)⟩
          · have _ := hm
            refine Done.as (e := (Exit.exit 1)) (s := ⟨[(6, .ptr 6 0), (11, .ptr 11 0)], [(6, .lit 24 [.nils]), (11, .lit 24 [.own 5001 0 t111.length 2]), (5001, .row 48 (t111.flatMap Row.cs))]⟩) rfl (by kernel_rfl) ?_
            refine Done.mk (inB_hit (thenQ_n ?_))
            refine awp_seq ?_
            refine awp_regionD Try_mixed (orcs := []) (gs := [.keep [6, 7] [6, 5001]]) (s' := ⟨[(6, .ptr 6 0), (7, pI 0)], [(6, .lit 24 [.own 5001 0 t111.length 2]), (5001, .row 48 (t111.flatMap Row.cs))]⟩) (by kernel_rfl) (holds_of ((UU ∧ UU ∧ UU ∧ UU) ∧ (UU ∧ UU)) (by kernel_rfl) ⟨⟨TT, TT, TT, TT⟩, ⟨TT, TT⟩⟩) ?_
            refine Done.mk (thenQ_n ?_)
            refine doneRet ?_
            refine Done.gh [.frz 5001, .keep [6, 7] [6]] (s' := ⟨[(6, .ptr 6 0), (7, pI 0)], [(6, .lit 24 [.p (encL Row.cs t111)])]⟩) (by kernel_rfl) (holds_of (UU ∧ UU ∧ UU) (by kernel_rfl) ⟨TT, TT, TT⟩) ?_
            refine Done.mk ?_
            obtain rfl := Option.some.inj h
            exact ⟨Or.inr rfl, by kernel_rfl, by kernel_rfl⟩
end
end Go.AM
end
section
namespace Go.AM
open Go Go.RowKit Go.Proofs
noncomputable section
def R18_inside_j1 (l : (List Run)) (i : Int) (x : Int) : Option (Bool) :=
    (getI l i).bind fun r_ =>
    ifB (decide (r_.frm ≤ x))
    (some (decide (x < r_.to)))
    (some false)
def R18_inside_l2 (l : (List Run)) (x : Int) (s : Int) : Option ((Int) ⊕ ((Unit) ⊕ (Unit))) :=
  match s with
  | i =>
    ifB (decide (i < (l.length : Int)))
    ((R18_inside_j1 l i x).bind fun t27 =>
      ifB (t27)
      (some (.inr (.inr ())))
      (chk (InR .i64 (i + 1 : Int))
        (some (.inl (i + 1)))))
    (some (.inr (.inl ())))
noncomputable def R18_inside (l : (List Run)) (x : Int) : Option Bool :=
  (loopP (R18_inside_l2 l x) 0).bind fun o => match o with
  | .inl _ => some false
  | .inr _ => some true
set_option maxRecDepth 100000 in
set_option maxHeartbeats 4000000 in
theorem R18_inside_ok {l : (List Run)} {x : Int} {r : Bool} (h : R18_inside l x = some r) : ASpec Try.prog 76 [.p (encL Run.cs l), pI x] [] (pB r) [] := by
  refine aspec_of Try.func76 (c := _) rfl (by kernel_rfl) (by rw [Try.ntmps76]; exact Nat.le_of_ble_eq_true rfl) ?_
  refine awp_seq ?_
  refine awp_regionD Try_mixed (orcs := []) (gs := [.keep [0, 1] []]) (s' := ⟨[(0, .p (encL Run.cs l)), (1, pI x)], []⟩) (by kernel_rfl) (holds_of ((UU ∧ UU) ∧ (UU ∧ UU)) (by kernel_rfl) ⟨⟨TT, TT⟩, ⟨TT, TT⟩⟩) ?_
  refine Done.mk (thenQ_n ?_)
  refine awp_seq ?_
  refine awp_seq ?_
  refine awp_regionD Try_mixed (orcs := []) (gs := [.keep [0, 1, 5] []]) (s' := ⟨[(0, .p (encL Run.cs l)), (1, pI x), (5, pI 0)], []⟩) (by kernel_rfl) (holds_of ((UU ∧ UU) ∧ (UU ∧ UU)) (by kernel_rfl) ⟨⟨TT, TT⟩, ⟨TT, TT⟩⟩) ?_
  refine Done.mk (thenQ_n ?_)
  refine awp_block ?_
  refine bind_el h (fun o hm h => ?_)
  refine awp_gh [.keep [0, 1, 5] [], .keep [0, 1, 5] []] (s' := ⟨[(0, .p (encL Run.cs l)), (1, pI x), (5, pI 0)], []⟩) (by kernel_rfl) (holds_of (UU ∧ UU ∧ UU) (by kernel_rfl) ⟨TT, TT, TT⟩) ?_
  refine awp_tail (fun o => match o with | .inl _ => (Exit.exit 0) | .inr _ => Exit.ret) (fun o => match o with | .inl _ => ⟨[], []⟩ | .inr _ => ⟨[(4, pB true)], []⟩) hm (fun o h => ?_) ?_
  · refine awp_loop' (fun s => match s with | i => ⟨[(0, .p (encL Run.cs l)), (1, pI x), (5, pI i)], []⟩) h (by kernel_rfl) (fun i out h => ?_)
    refine awp_seq ?_
    refine awp_seq ?_
    refine awp_regionD Try_mixed (orcs := []) (gs := [.keep [0, 1, 5, 9] []]) (s' := ⟨[(0, .p (encL Run.cs l)), (1, pI x), (5, pI i), (9, pB (decide (i < (l.length : Int))))], []⟩) (by kernel_rfl) (holds_of ((UU ∧ UU ∧ UU ∧ UU ∧ UU) ∧ (UU ∧ UU)) (by kernel_rfl) ⟨⟨TT, TT, TT, TT, TT⟩, ⟨TT, TT⟩⟩) ?_
    refine Done.mk (thenQ_n ?_)
    refine ifB_el h (fun k1 h => ?_) (fun k1 h => ?_)
    · refine awp_cond_t (b := decide (i < (l.length : Int))) (by kernel_rfl) k1 ?_
      refine doneSkip ?_
      refine Done.mk (thenQ_n ?_)
      refine awp_seq ?_
      refine awp_block ?_
      refine awp_seq ?_
      refine bind_el h (fun t27 hm h => ?_)
      refine awp_tail (fun _ => Exit.normal) (fun o => match o with | t27 => ⟨[(0, .p (encL Run.cs l)), (1, pI x), (5, pI i), (27, pB t27)], []⟩) hm (fun o h => ?_) ?_
      · refine bind_el h (fun r_ k2 h => ?_)
        replace k2 := getI_el k2
        refine ifB_el h (fun k3 h => ?_) (fun k3 h => ?_)
        · refine awp_regionD Try_mixed (orcs := [(4, tV (pI r_.frm)), (7, tB true), (13, tV (pI r_.to))]) (gs := [.keep [0, 1, 5, 27] []]) (s' := ⟨[(0, .p (encL Run.cs l)), (1, pI x), (5, pI i), (27, pB (decide (x < r_.to)))], []⟩) (by kernel_rfl) (holds_of ((UU ∧ UU ∧ ((0 ≤ i ∧ i < (l.length : Int))) ∧ UU ∧ ((l.flatMap Run.cs)[i.toNat * 2]? = some (vI r_.frm)) ∧ UU ∧ UU ∧ ((UU ∧ some (pB (decide (r_.frm ≤ x))) = some (pB true))) ∧ UU ∧ UU ∧ UU ∧ ((0 ≤ i ∧ i < (l.length : Int))) ∧ UU ∧ ((l.flatMap Run.cs)[i.toNat * 2 + 1]? = some (vI r_.to)) ∧ UU ∧ UU ∧ UU) ∧ (UU ∧ UU)) (by kernel_rfl) ⟨⟨TT, TT, k2.2, TT, row_at Run.cs_len k2.1 (j := 0) (by omega) (by decide), TT, TT, ⟨TT, by rw [k3]⟩, TT, TT, TT, k2.2, TT, row_at Run.cs_len k2.1 (j := 1) (by omega) (by decide), TT, TT, TT⟩, ⟨TT, TT⟩⟩) ?_
          refine Done.mk ?_
          obtain rfl := Option.some.inj h
          exact ⟨rfl, by kernel_rfl⟩
        · refine awp_regionD Try_mixed (orcs := [(4, tV (pI r_.frm)), (7, tB false)]) (gs := [.keep [0, 1, 5, 27] []]) (s' := ⟨[(0, .p (encL Run.cs l)), (1, pI x), (5, pI i), (27, pB false)], []⟩) (by kernel_rfl) (holds_of ((UU ∧ UU ∧ ((0 ≤ i ∧ i < (l.length : Int))) ∧ UU ∧ ((l.flatMap Run.cs)[i.toNat * 2]? = some (vI r_.frm)) ∧ UU ∧ UU ∧ ((UU ∧ some (pB (decide (r_.frm ≤ x))) = some (pB false))) ∧ UU ∧ UU) ∧ (UU ∧ UU)) (by kernel_rfl) ⟨⟨TT, TT, k2.2, TT, row_at Run.cs_len k2.1 (j := 0) (by omega) (by decide), TT, TT, ⟨TT, by rw [k3]⟩, TT, TT⟩, ⟨TT, TT⟩⟩) ?_
          refine Done.mk ?_
          obtain rfl := Option.some.inj h
          exact ⟨rfl, by kernel_rfl⟩
      · have _ := hm
        refine Done.as (e := Exit.normal) (s := ⟨[(0, .p (encL Run.cs l)), (1, pI x), (5, pI i), (27, pB t27)], []⟩) rfl (by kernel_rfl) ?_
        refine Done.mk (thenQ_n ?_)
        refine ifB_el h (fun k4 h => ?_) (fun k4 h => ?_)
        · refine awp_cond_t (b := t27) (by kernel_rfl) k4 ?_
          refine awp_seq ?_
          refine awp_regionD Try_mixed (orcs := []) (gs := [.keep [4] []]) (s' := ⟨[(4, pB true)], []⟩) (by kernel_rfl) (holds_of ((UU ∧ UU) ∧ (UU ∧ UU)) (by kernel_rfl) ⟨⟨TT, TT⟩, ⟨TT, TT⟩⟩) ?_
          refine Done.mk (thenQ_n ?_)
          refine doneRet ?_
          refine Done.mk (inB_r (thenQ_r ?_))
          obtain rfl := Option.some.inj h
          exact ⟨fun q => (by cases q), fun q => (by subst q; exact ⟨rfl, by kernel_rfl⟩)⟩
        · refine awp_cond_f (b := t27) (by kernel_rfl) k4 ?_
          refine doneSkip ?_
          refine Done.mk (inB_n (thenQ_n ?_))
          refine chk_el h (fun k5 h => ?_)
          refine awp_regionD Try_mixed (orcs := []) (gs := [.keep [0, 1, 5] []]) (s' := ⟨[(0, .p (encL Run.cs l)), (1, pI x), (5, pI (i + 1))], []⟩) (by kernel_rfl) (holds_of ((UU ∧ (InR .i64 (i + 1 : Int)) ∧ UU ∧ UU) ∧ (UU ∧ UU)) (by kernel_rfl) ⟨⟨TT, k5, TT, TT⟩, ⟨TT, TT⟩⟩) ?_
          refine Done.mk ?_
          obtain rfl := Option.some.inj h
          exact ⟨rfl, by kernel_rfl⟩
    · refine awp_cond_f (b := decide (i < (l.length : Int))) (by kernel_rfl) k1 ?_
      refine doneExit ?_
      refine Done.gh [.keep [] [], .keep [] []] (s' := ⟨[], []⟩) (by kernel_rfl) (holds_of (UU ∧ UU ∧ UU) (by kernel_rfl) ⟨TT, TT, TT⟩) ?_
      refine Done.mk (thenQ_x ?_)
      obtain rfl := Option.some.inj h
      exact ⟨fun q => (by cases q), fun q => (by subst q; exact ⟨rfl, by kernel_rfl⟩)⟩
  · rcases o with _u | _u
    · refine Done.as (e := (Exit.exit 0)) (s := ⟨[], []⟩) rfl (by kernel_rfl) ?_
      refine Done.mk (inB_hit (thenQ_n ?_))
      refine awp_seq ?_
      refine awp_regionD Try_mixed (orcs := []) (gs := [.keep [4] []]) (s' := ⟨[(4, pB false)], []⟩) (by kernel_rfl) (holds_of ((UU ∧ UU) ∧ (UU ∧ UU)) (by kernel_rfl) ⟨⟨TT, TT⟩, ⟨TT, TT⟩⟩) ?_
      refine Done.mk (thenQ_n ?_)
      refine doneRet ?_
      refine Done.mk ?_
      obtain rfl := Option.some.inj h
      exact ⟨Or.inr rfl, by kernel_rfl, by kernel_rfl⟩
    · refine Done.as (e := Exit.ret) (s := ⟨[(4, pB true)], []⟩) rfl (by kernel_rfl) ?_
      refine Done.mk (inB_r (thenQ_r ?_))
      obtain rfl := Option.some.inj h
      exact ⟨Or.inr rfl, by kernel_rfl, by kernel_rfl⟩
end
end Go.AM
end
section
namespace Go.AM
open Go Go.RowKit Go.Proofs
noncomputable section
def R18_Row_l1 (r_ : Region) (y : Int) (s : Int) : Option ((Int) ⊕ ((Unit) ⊕ ((List Run)))) :=
  match s with
  | i =>
    ifB (decide (i < (r_.rows.length : Int)))
    ((getI r_.rows i).bind fun r_1 =>
      ifB (r_1.y == y)
      (some (.inr (.inr r_1.runs)))
      (chk (InR .i64 (i + 1 : Int))
        (some (.inl (i + 1)))))
    (some (.inr (.inl ())))
noncomputable def R18_Row (r_ : Region) (y : Int) : Option (List Run) :=
  (loopP (R18_Row_l1 r_ y) 0).bind fun o => match o with
  | .inl _ => some ([] : (List Run))
  | .inr t41 => some t41
set_option maxRecDepth 100000 in
set_option maxHeartbeats 4000000 in
theorem R18_Row_ok {r_ : Region} {y : Int} {r : (List Run)} (h : R18_Row r_ y = some r) : ASpec Try.prog 77 [.agg [.p (encL Row.cs r_.rows)], pI y] [] (.p (encL Run.cs r)) [] := by
  refine aspec_of Try.func77 (c := _) rfl (by kernel_rfl) (by rw [Try.ntmps77]; exact Nat.le_of_ble_eq_true rfl) ?_
  refine awp_seq ?_
  refine awp_regionD Try_mixed (orcs := []) (gs := [.keep [1, 2] [2]]) (s' := ⟨[(1, pI y), (2, .ptr 2 0)], [(2, .lit 24 [.p (encL Row.cs r_.rows)])]⟩) (by kernel_rfl) (holds_of ((UU ∧ UU ∧ UU) ∧ (UU ∧ UU)) (by kernel_rfl) ⟨⟨TT, TT, TT⟩, ⟨TT, TT⟩⟩) ?_
  refine Done.mk (thenQ_n ?_)
  refine awp_seq ?_
  refine awp_seq ?_
  refine awp_regionD Try_mixed (orcs := []) (gs := [.keep [1, 2, 5] [2]]) (s' := ⟨[(1, pI y), (2, .ptr 2 0), (5, pI 0)], [(2, .lit 24 [.p (encL Row.cs r_.rows)])]⟩) (by kernel_rfl) (holds_of ((UU ∧ UU) ∧ (UU ∧ UU)) (by kernel_rfl) ⟨⟨TT, TT⟩, ⟨TT, TT⟩⟩) ?_
  refine Done.mk (thenQ_n ?_)
  refine awp_block ?_
  refine bind_el h (fun o hm h => ?_)
  refine awp_gh [.keep [1, 2, 5] [2], .keep [1, 2, 5] [2]] (s' := ⟨[(1, pI y), (2, .ptr 2 0), (5, pI 0)], [(2, .lit 24 [.p (encL Row.cs r_.rows)])]⟩) (by kernel_rfl) (holds_of (UU ∧ UU ∧ UU) (by kernel_rfl) ⟨TT, TT, TT⟩) ?_
  refine awp_tail (fun o => match o with | .inl _ => (Exit.exit 0) | .inr _ => Exit.ret) (fun o => match o with | .inl _ => ⟨[], []⟩ | .inr t41 => ⟨[(4, .p (encL Run.cs t41))], []⟩) hm (fun o h => ?_) ?_
  · refine awp_loop' (fun s => match s with | i => ⟨[(1, pI y), (2, .ptr 2 0), (5, pI i)], [(2, .lit 24 [.p (encL Row.cs r_.rows)])]⟩) h (by kernel_rfl) (fun i out h => ?_)
    refine awp_seq ?_
    refine awp_seq ?_
    refine awp_regionD Try_mixed (orcs := []) (gs := [.keep [1, 2, 5, 10] [2]]) (s' := ⟨[(1, pI y), (2, .ptr 2 0), (5, pI i), (10, pB (decide (i < (r_.rows.length : Int))))], [(2, .lit 24 [.p (encL Row.cs r_.rows)])]⟩) (by kernel_rfl) (holds_of ((UU ∧ UU ∧ UU ∧ UU ∧ UU ∧ UU) ∧ (UU ∧ UU)) (by kernel_rfl) ⟨⟨TT, TT, TT, TT, TT, TT⟩, ⟨TT, TT⟩⟩) ?_
    refine Done.mk (thenQ_n ?_)
    refine ifB_el h (fun k1 h => ?_) (fun k1 h => ?_)
    · refine awp_cond_t (b := decide (i < (r_.rows.length : Int))) (by kernel_rfl) k1 ?_
      refine doneSkip ?_
      refine Done.mk (thenQ_n ?_)
      refine awp_seq ?_
      refine awp_block ?_
      refine awp_seq ?_
      refine bind_el h (fun r_1 k2 h => ?_)
      replace k2 := getI_el k2
      refine awp_regionD Try_mixed (orcs := [(5, tV (pI r_1.y))]) (gs := [.keep [1, 2, 5, 20] [2]]) (s' := ⟨[(1, pI y), (2, .ptr 2 0), (5, pI i), (20, pB (r_1.y == y))], [(2, .lit 24 [.p (encL Row.cs r_.rows)])]⟩) (by kernel_rfl) (holds_of ((UU ∧ UU ∧ UU ∧ ((0 ≤ i ∧ i < (r_.rows.length : Int))) ∧ UU ∧ ((r_.rows.flatMap Row.cs)[i.toNat * 2]? = some (vI r_1.y)) ∧ UU ∧ UU ∧ UU) ∧ (UU ∧ UU)) (by kernel_rfl) ⟨⟨TT, TT, TT, k2.2, TT, row_at Row.cs_len k2.1 (j := 0) (by omega) (by decide), TT, TT, TT⟩, ⟨TT, TT⟩⟩) ?_
      refine Done.mk (thenQ_n ?_)
      refine ifB_el h (fun k3 h => ?_) (fun k3 h => ?_)
      · refine awp_cond_t (b := r_1.y == y) (by kernel_rfl) k3 ?_
        refine awp_seq ?_
        refine awp_regionD Try_mixed (orcs := [(5, tV (.p (encL Run.cs r_1.runs)))]) (gs := [.keep [4] []]) (s' := ⟨[(4, .p (encL Run.cs r_1.runs))], []⟩) (by kernel_rfl) (holds_of ((UU ∧ UU ∧ UU ∧ ((0 ≤ i ∧ i < (r_.rows.length : Int))) ∧ UU ∧ ((r_.rows.flatMap Row.cs)[i.toNat * 2 + 1]? = some (encL Run.cs r_1.runs)) ∧ UU ∧ UU) ∧ (UU ∧ UU)) (by kernel_rfl) ⟨⟨TT, TT, TT, k2.2, TT, row_at Row.cs_len k2.1 (j := 1) (by omega) (by decide), TT, TT⟩, ⟨TT, TT⟩⟩) ?_
        refine Done.mk (thenQ_n ?_)
        refine doneRet ?_
        refine Done.mk (inB_r (thenQ_r ?_))
        obtain rfl := Option.some.inj h
        exact ⟨fun q => (by cases q), fun q => (by subst q; exact ⟨rfl, by kernel_rfl⟩)⟩
      · refine awp_cond_f (b := r_1.y == y) (by kernel_rfl) k3 ?_
        refine doneSkip ?_
        refine Done.mk (inB_n (thenQ_n ?_))
        refine chk_el h (fun k4 h => ?_)
        refine awp_regionD Try_mixed (orcs := []) (gs := [.keep [1, 2, 5] [2]]) (s' := ⟨[(1, pI y), (2, .ptr 2 0), (5, pI (i + 1))], [(2, .lit 24 [.p (encL Row.cs r_.rows)])]⟩) (by kernel_rfl) (holds_of ((UU ∧ (InR .i64 (i + 1 : Int)) ∧ UU ∧ UU) ∧ (UU ∧ UU)) (by kernel_rfl) ⟨⟨TT, k4, TT, TT⟩, ⟨TT, TT⟩⟩) ?_
        refine Done.mk ?_
        obtain rfl := Option.some.inj h
        exact ⟨rfl, by kernel_rfl⟩
    · refine awp_cond_f (b := decide (i < (r_.rows.length : Int))) (by kernel_rfl) k1 ?_
      refine doneExit ?_
      refine Done.gh [.keep [] [], .keep [] []] (s' := ⟨[], []⟩) (by kernel_rfl) (holds_of (UU ∧ UU ∧ UU) (by kernel_rfl) ⟨TT, TT, TT⟩) ?_
      refine Done.mk (thenQ_x ?_)
      obtain rfl := Option.some.inj h
      exact ⟨fun q => (by cases q), fun q => (by subst q; exact ⟨rfl, by kernel_rfl⟩)⟩
  · rcases o with _u | t41
    · refine Done.as (e := (Exit.exit 0)) (s := ⟨[], []⟩) rfl (by kernel_rfl) ?_
      refine Done.mk (inB_hit (thenQ_n ?_))
      refine awp_seq ?_
      refine awp_regionD Try_mixed (orcs := []) (gs := [.keep [4] []]) (s' := ⟨[(4, .nils)], []⟩) (by kernel_rfl) (holds_of ((UU ∧ UU) ∧ (UU ∧ UU)) (by kernel_rfl) ⟨⟨TT, TT⟩, ⟨TT, TT⟩⟩) ?_
      refine Done.mk (thenQ_n ?_)
      refine doneRet ?_
      refine Done.gh [.pureT 4, .keep [4] []] (s' := ⟨[(4, .p (.sl [] 0))], []⟩) (by kernel_rfl) (holds_of (UU ∧ UU ∧ UU) (by kernel_rfl) ⟨TT, TT, TT⟩) ?_
      refine Done.mk ?_
      obtain rfl := Option.some.inj h
      exact ⟨Or.inr rfl, by kernel_rfl, by kernel_rfl⟩
    · refine Done.as (e := Exit.ret) (s := ⟨[(4, .p (encL Run.cs t41))], []⟩) rfl (by kernel_rfl) ?_
      refine Done.mk (inB_r (thenQ_r ?_))
      obtain rfl := Option.some.inj h
      exact ⟨Or.inr rfl, by kernel_rfl, by kernel_rfl⟩
end
end Go.AM
end
section
namespace Go.AM
open Go Go.RowKit Go.Proofs
noncomputable section
def R18_Contains_j1 (r_ : Region) (c : Cell) : Option (Bool) :=
    (R18_Valid r_).bind fun b =>
    ifB (b)
    ((R18_Row r_ c.y).bind fun v =>
      (R18_inside v c.x).bind fun b1 =>
      some b1)
    (some false)
noncomputable def R18_Contains (r_ : Region) (c : Cell) : Option Bool :=
  (R18_Contains_j1 r_ c).bind fun t4 =>
  some t4
set_option maxRecDepth 100000 in
set_option maxHeartbeats 4000000 in
theorem R18_Contains_ok {r_ : Region} {c : Cell} {r : Bool} (h : R18_Contains r_ c = some r) : ASpec Try.prog 57 [.agg [.p (encL Row.cs r_.rows)], .agg [pI c.x, pI c.y]] [] (pB r) [] := by
  refine aspec_of Try.func57 (c := _) rfl (by kernel_rfl) (by rw [Try.ntmps57]; exact Nat.le_of_ble_eq_true rfl) ?_
  refine awp_seq ?_
  refine awp_regionD Try_mixed (orcs := []) (gs := [.keep [2, 3] [2, 3]]) (s' := ⟨[(2, .ptr 2 0), (3, .ptr 3 0)], [(2, .lit 24 [.p (encL Row.cs r_.rows)]), (3, .lit 37 [pI c.x, pI c.y])]⟩) (by kernel_rfl) (holds_of ((UU ∧ UU ∧ UU ∧ UU) ∧ (UU ∧ UU)) (by kernel_rfl) ⟨⟨TT, TT, TT, TT⟩, ⟨TT, TT⟩⟩) ?_
  refine Done.mk (thenQ_n ?_)
  refine awp_seq ?_
  refine bind_el h (fun t4 hm h => ?_)
  refine awp_tail (fun _ => Exit.normal) (fun o => match o with | t4 => ⟨[(4, pB t4)], []⟩) hm (fun o h => ?_) ?_
  · refine bind_el h (fun b k1 h => ?_)
    refine ifB_el h (fun k2 h => ?_) (fun k2 h => ?_)
    · refine bind_el h (fun v k3 h => ?_)
      refine bind_el h (fun b1 k4 h => ?_)
      refine awp_regionD Try_mixed (orcs := [(1, tV (pB b)), (2, tB true), (6, tV (.p (encL Run.cs v))), (9, tV (pB b1))]) (gs := [.keep [4] []]) (s' := ⟨[(4, pB b1)], []⟩) (by kernel_rfl) (holds_of ((UU ∧ (ASpec Try.prog 33 [.agg [.p (encL Row.cs r_.rows)]] [] (pB b) []) ∧ ((UU ∧ some (pB b) = some (pB true))) ∧ UU ∧ UU ∧ UU ∧ (ASpec Try.prog 77 [.agg [.p (encL Row.cs r_.rows)], pI c.y] [] (.p (encL Run.cs v)) []) ∧ UU ∧ UU ∧ (ASpec Try.prog 76 [.p (encL Run.cs v), pI c.x] [] (pB b1) []) ∧ UU ∧ UU ∧ UU) ∧ (UU ∧ UU)) (by kernel_rfl) ⟨⟨TT, R18_Valid_ok k1, ⟨TT, by rw [k2]⟩, TT, TT, TT, R18_Row_ok k3, TT, TT, R18_inside_ok k4, TT, TT, TT⟩, ⟨TT, TT⟩⟩) ?_
      refine Done.mk ?_
      obtain rfl := Option.some.inj h
      exact ⟨rfl, by kernel_rfl⟩
    · refine awp_regionD Try_mixed (orcs := [(1, tV (pB b)), (2, tB false)]) (gs := [.keep [4] []]) (s' := ⟨[(4, pB false)], []⟩) (by kernel_rfl) (holds_of ((UU ∧ (ASpec Try.prog 33 [.agg [.p (encL Row.cs r_.rows)]] [] (pB b) []) ∧ ((UU ∧ some (pB b) = some (pB false))) ∧ UU ∧ UU ∧ UU) ∧ (UU ∧ UU)) (by kernel_rfl) ⟨⟨TT, R18_Valid_ok k1, ⟨TT, by rw [k2]⟩, TT, TT, TT⟩, ⟨TT, TT⟩⟩) ?_
      refine Done.mk ?_
      obtain rfl := Option.some.inj h
      exact ⟨rfl, by kernel_rfl⟩
  · have _ := hm
    refine Done.as (e := Exit.normal) (s := ⟨[(4, pB t4)], []⟩) rfl (by kernel_rfl) ?_
    refine Done.mk (thenQ_n ?_)
    refine doneRet ?_
    refine Done.mk ?_
    obtain rfl := Option.some.inj h
    exact ⟨Or.inr rfl, by kernel_rfl, by kernel_rfl⟩
end
end Go.AM
end
section
namespace Go.AM
open Go Go.RowKit Go.Proofs
noncomputable section
def R18_Cells_l1 (t0 : Region) (t4 : Int) (t5 : Int) (s : (List Cell) × Int) : Option (((List Cell) × Int) ⊕ ((List Cell))) :=
  match s with
  | (t3, t6) =>
    (getI t0.rows t4).bind fun r_2 =>
    (getI r_2.runs t5).bind fun r_3 =>
    ifB (decide (t6 < r_3.to))
    (chk (t3.length + ([Cell.mk t6 r_2.y]).length ≤ 1099511627776)
      (chk (InR .i64 (t6 + 1 : Int))
      (some (.inl (t3 ++ ([Cell.mk t6 r_2.y]), t6 + 1)))))
    (some (.inr t3))
def R18_Cells_l2 (t0 : Region) (t4 : Int) (s : (List Cell) × Int) : Option (((List Cell) × Int) ⊕ ((List Cell))) :=
  match s with
  | (t32, t5) =>
    (getI t0.rows t4).bind fun r_ =>
    ifB (decide (t5 < (r_.runs.length : Int)))
    ((getI r_.runs t5).bind fun r_1 =>
      (loopP (R18_Cells_l1 t0 t4 t5) (t32, r_1.frm)).bind fun t31 =>
      chk (InR .i64 (t5 + 1 : Int))
      (some (.inl (t31, t5 + 1))))
    (some (.inr t32))
def R18_Cells_l3 (t0 : Region) (s : (List Cell) × Int) : Option (((List Cell) × Int) ⊕ ((List Cell))) :=
  match s with
  | (t34, t4) =>
    ifB (decide (t4 < (t0.rows.length : Int)))
    ((loopP (R18_Cells_l2 t0 t4) (t34, 0)).bind fun t33 =>
      chk (InR .i64 (t4 + 1 : Int))
      (some (.inl (t33, t4 + 1))))
    (some (.inr t34))
noncomputable def R18_Cells (t0 : Region) : Option (List Cell) :=
  (R18_Valid t0).bind fun b =>
  ifB (!b)
  (some ([] : (List Cell)))
  ((loopP (R18_Cells_l3 t0) (([] : List Cell), 0)).bind fun t35 =>
    some t35)
set_option maxRecDepth 100000 in
set_option maxHeartbeats 4000000 in
theorem R18_Cells_ok {t0 : Region} {r : (List Cell)} (h : R18_Cells t0 = some r) : ASpec Try.prog 56 [.agg [.p (encL Row.cs t0.rows)]] [] (.p (encL Cell.cs r)) [] := by
  refine aspec_of Try.func56 (c := _) rfl (by kernel_rfl) (by rw [Try.ntmps56]; exact Nat.le_of_ble_eq_true rfl) ?_
  refine awp_seq ?_
  refine awp_regionD Try_mixed (orcs := []) (gs := [.keep [1] [1]]) (s' := ⟨[(1, .ptr 1 0)], [(1, .lit 24 [.p (encL Row.cs t0.rows)])]⟩) (by kernel_rfl) (holds_of ((UU ∧ UU ∧ UU) ∧ (UU ∧ UU)) (by kernel_rfl) ⟨⟨TT, TT, TT⟩, ⟨TT, TT⟩⟩) ?_
  refine Done.mk (thenQ_n ?_)
  refine awp_seq ?_
  refine awp_regionD Try_mixed (orcs := []) (gs := [.keep [1, 3] [1]]) (s' := ⟨[(1, .ptr 1 0), (3, .nils)], [(1, .lit 24 [.p (encL Row.cs t0.rows)])]⟩) (by kernel_rfl) (holds_of ((UU ∧ UU) ∧ (UU ∧ UU)) (by kernel_rfl) ⟨⟨TT, TT⟩, ⟨TT, TT⟩⟩) ?_
  refine Done.mk (thenQ_n ?_)
  refine awp_seq ?_
  refine awp_seq ?_
  refine bind_el h (fun b k1 h => ?_)
  refine awp_regionD Try_mixed (orcs := [(1, tV (pB b))]) (gs := [.keep [1, 3, 9] [1]]) (s' := ⟨[(1, .ptr 1 0), (3, .nils), (9, pB (!b))], [(1, .lit 24 [.p (encL Row.cs t0.rows)])]⟩) (by kernel_rfl) (holds_of ((UU ∧ (ASpec Try.prog 33 [.agg [.p (encL Row.cs t0.rows)]] [] (pB b) []) ∧ UU ∧ UU) ∧ (UU ∧ UU)) (by kernel_rfl) ⟨⟨TT, R18_Valid_ok k1, TT, TT⟩, ⟨TT, TT⟩⟩) ?_
  refine Done.mk (thenQ_n ?_)
  refine ifB_el h (fun k2 h => ?_) (fun k2 h => ?_)
  · refine awp_cond_t (b := !b) (by kernel_rfl) k2 ?_
    refine awp_seq ?_
    refine awp_regionD Try_mixed (orcs := []) (gs := [.keep [2] []]) (s' := ⟨[(2, .nils)], []⟩) (by kernel_rfl) (holds_of ((UU ∧ UU ∧ UU) ∧ (UU ∧ UU)) (by kernel_rfl) ⟨⟨TT, TT, TT⟩, ⟨TT, TT⟩⟩) ?_
    refine Done.mk (thenQ_n ?_)
    refine doneRet ?_
    refine Done.gh [.pureT 2, .keep [2] []] (s' := ⟨[(2, .p (.sl [] 0))], []⟩) (by kernel_rfl) (holds_of (UU ∧ UU ∧ UU) (by kernel_rfl) ⟨TT, TT, TT⟩) ?_
    refine Done.mk (thenQ_r ?_)
    obtain rfl := Option.some.inj h
    exact ⟨Or.inr rfl, by kernel_rfl, by kernel_rfl⟩
  · refine awp_cond_f (b := !b) (by kernel_rfl) k2 ?_
    refine doneSkip ?_
    refine Done.mk (thenQ_n ?_)
    refine awp_seq ?_
    refine awp_seq ?_
    refine awp_regionD Try_mixed (orcs := []) (gs := [.keep [1, 3, 4] [1]]) (s' := ⟨[(1, .ptr 1 0), (3, .nils), (4, pI 0)], [(1, .lit 24 [.p (encL Row.cs t0.rows)])]⟩) (by kernel_rfl) (holds_of ((UU ∧ UU) ∧ (UU ∧ UU)) (by kernel_rfl) ⟨⟨TT, TT⟩, ⟨TT, TT⟩⟩) ?_
    refine Done.mk (thenQ_n ?_)
    refine awp_block ?_
    refine bind_el h (fun t35 hm h => ?_)
    refine awp_gh [.keep [1, 3, 4] [1], .opn 3 5004 37 2, .keep [1, 3, 4] [1, 5004]] (s' := ⟨[(1, .ptr 1 0), (3, .own 5004 0 (([] : List Cell)).length 2), (4, pI 0)], [(1, .lit 24 [.p (encL Row.cs t0.rows)]), (5004, .row 37 ((([] : List Cell)).flatMap Cell.cs))]⟩) (by kernel_rfl) (holds_of (UU ∧ UU ∧ UU ∧ UU) (by kernel_rfl) ⟨TT, TT, TT, TT⟩) ?_
    refine awp_tail (fun _ => (Exit.exit 0)) (fun o => match o with | t35 => ⟨[(3, .own 5004 0 t35.length 2)], [(5004, .row 37 (t35.flatMap Cell.cs))]⟩) hm (fun o h => ?_) ?_
    · refine awp_loop' (fun s => match s with | (t34, t4) => ⟨[(1, .ptr 1 0), (3, .own 5004 0 t34.length 2), (4, pI t4)], [(1, .lit 24 [.p (encL Row.cs t0.rows)]), (5004, .row 37 (t34.flatMap Cell.cs))]⟩) h (by kernel_rfl) (fun s out h => ?_)
      obtain ⟨t34, t4⟩ := s
      refine awp_seq ?_
      refine awp_seq ?_
      refine awp_regionD Try_mixed (orcs := []) (gs := [.keep [1, 3, 4, 15] [1, 5004]]) (s' := ⟨[(1, .ptr 1 0), (3, .own 5004 0 t34.length 2), (4, pI t4), (15, pB (decide (t4 < (t0.rows.length : Int))))], [(1, .lit 24 [.p (encL Row.cs t0.rows)]), (5004, .row 37 (t34.flatMap Cell.cs))]⟩) (by kernel_rfl) (holds_of ((UU ∧ UU ∧ UU ∧ UU ∧ UU ∧ UU) ∧ (UU ∧ UU)) (by kernel_rfl) ⟨⟨TT, TT, TT, TT, TT, TT⟩, ⟨TT, TT⟩⟩) ?_
      refine Done.mk (thenQ_n ?_)
      refine ifB_el h (fun k3 h => ?_) (fun k3 h => ?_)
      · refine awp_cond_t (b := decide (t4 < (t0.rows.length : Int))) (by kernel_rfl) k3 ?_
        refine doneSkip ?_
        refine Done.mk (thenQ_n ?_)
        refine awp_seq ?_
        refine awp_block ?_
        refine awp_seq ?_
        refine awp_regionD Try_mixed (orcs := []) (gs := [.keep [1, 3, 4, 5] [1, 5004]]) (s' := ⟨[(1, .ptr 1 0), (3, .own 5004 0 t34.length 2), (4, pI t4), (5, pI 0)], [(1, .lit 24 [.p (encL Row.cs t0.rows)]), (5004, .row 37 (t34.flatMap Cell.cs))]⟩) (by kernel_rfl) (holds_of ((UU ∧ UU) ∧ (UU ∧ UU)) (by kernel_rfl) ⟨⟨TT, TT⟩, ⟨TT, TT⟩⟩) ?_
        refine Done.mk (thenQ_n ?_)
        refine awp_block ?_
        refine bind_el h (fun t33 hm h => ?_)
        refine awp_gh [.keep [1, 3, 4, 5] [1, 5004], .ren 5004 5006, .keep [1, 3, 4, 5] [1, 5006]] (s' := ⟨[(1, .ptr 1 0), (3, .own 5006 0 t34.length 2), (4, pI t4), (5, pI 0)], [(1, .lit 24 [.p (encL Row.cs t0.rows)]), (5006, .row 37 (t34.flatMap Cell.cs))]⟩) (by kernel_rfl) (holds_of (UU ∧ UU ∧ UU ∧ UU) (by kernel_rfl) ⟨TT, TT, TT, TT⟩) ?_
        refine awp_tail (fun _ => (Exit.exit 2)) (fun o => match o with | t33 => ⟨[(1, .ptr 1 0), (3, .own 5006 0 t33.length 2), (4, pI t4)], [(1, .lit 24 [.p (encL Row.cs t0.rows)]), (5006, .row 37 (t33.flatMap Cell.cs))]⟩) hm (fun o h => ?_) ?_
        · refine awp_loop' (fun s => match s with | (t32, t5) => ⟨[(1, .ptr 1 0), (3, .own 5006 0 t32.length 2), (4, pI t4), (5, pI t5)], [(1, .lit 24 [.p (encL Row.cs t0.rows)]), (5006, .row 37 (t32.flatMap Cell.cs))]⟩) h (by kernel_rfl) (fun s out h => ?_)
          obtain ⟨t32, t5⟩ := s
          refine awp_seq ?_
          refine awp_seq ?_
          refine bind_el h (fun r_ k4 h => ?_)
          replace k4 := getI_el k4
          refine awp_regionD Try_mixed (orcs := [(6, tV (.p (encL Run.cs r_.runs)))]) (gs := [.keep [1, 3, 4, 5, 26] [1, 5006]]) (s' := ⟨[(1, .ptr 1 0), (3, .own 5006 0 t32.length 2), (4, pI t4), (5, pI t5), (26, pB (decide (t5 < (r_.runs.length : Int))))], [(1, .lit 24 [.p (encL Row.cs t0.rows)]), (5006, .row 37 (t32.flatMap Cell.cs))]⟩) (by kernel_rfl) (holds_of ((UU ∧ UU ∧ UU ∧ UU ∧ ((0 ≤ t4 ∧ t4 < (t0.rows.length : Int))) ∧ UU ∧ ((t0.rows.flatMap Row.cs)[t4.toNat * 2 + 1]? = some (encL Run.cs r_.runs)) ∧ UU ∧ UU ∧ UU) ∧ (UU ∧ UU)) (by kernel_rfl) ⟨⟨TT, TT, TT, TT, k4.2, TT, row_at Row.cs_len k4.1 (j := 1) (by omega) (by decide), TT, TT, TT⟩, ⟨TT, TT⟩⟩) ?_
          refine Done.mk (thenQ_n ?_)
          refine ifB_el h (fun k5 h => ?_) (fun k5 h => ?_)
          · refine awp_cond_t (b := decide (t5 < (r_.runs.length : Int))) (by kernel_rfl) k5 ?_
            refine doneSkip ?_
            refine Done.mk (thenQ_n ?_)
            refine awp_seq ?_
            refine awp_block ?_
            refine awp_seq ?_
            refine bind_el h (fun r_1 k6 h => ?_)
            replace k6 := getI_el k6
            refine awp_regionD Try_mixed (orcs := [(5, tV (.p (encL Run.cs r_.runs))), (9, tV (pI r_1.frm))]) (gs := [.keep [1, 3, 4, 5, 6] [1, 5006]]) (s' := ⟨[(1, .ptr 1 0), (3, .own 5006 0 t32.length 2), (4, pI t4), (5, pI t5), (6, pI r_1.frm)], [(1, .lit 24 [.p (encL Row.cs t0.rows)]), (5006, .row 37 (t32.flatMap Cell.cs))]⟩) (by kernel_rfl) (holds_of ((UU ∧ UU ∧ UU ∧ ((0 ≤ t4 ∧ t4 < (t0.rows.length : Int))) ∧ UU ∧ ((t0.rows.flatMap Row.cs)[t4.toNat * 2 + 1]? = some (encL Run.cs r_.runs)) ∧ UU ∧ ((0 ≤ t5 ∧ t5 < (r_.runs.length : Int))) ∧ UU ∧ ((r_.runs.flatMap Run.cs)[t5.toNat * 2]? = some (vI r_1.frm)) ∧ UU ∧ UU) ∧ (UU ∧ UU)) (by kernel_rfl) ⟨⟨TT, TT, TT, k4.2, TT, row_at Row.cs_len k4.1 (j := 1) (by omega) (by decide), TT, k6.2, TT, row_at Run.cs_len k6.1 (j := 0) (by omega) (by decide), TT, TT⟩, ⟨TT, TT⟩⟩) ?_
            refine Done.mk (thenQ_n ?_)
            refine awp_block ?_
            refine bind_el h (fun t31 hm h => ?_)
            refine awp_gh [.keep [1, 3, 4, 5, 6] [1, 5006], .ren 5006 5007, .keep [1, 3, 4, 5, 6] [1, 5007]] (s' := ⟨[(1, .ptr 1 0), (3, .own 5007 0 t32.length 2), (4, pI t4), (5, pI t5), (6, pI r_1.frm)], [(1, .lit 24 [.p (encL Row.cs t0.rows)]), (5007, .row 37 (t32.flatMap Cell.cs))]⟩) (by kernel_rfl) (holds_of (UU ∧ UU ∧ UU ∧ UU) (by kernel_rfl) ⟨TT, TT, TT, TT⟩) ?_
            refine awp_tail (fun _ => (Exit.exit 4)) (fun o => match o with | t31 => ⟨[(1, .ptr 1 0), (3, .own 5007 0 t31.length 2), (4, pI t4), (5, pI t5)], [(1, .lit 24 [.p (encL Row.cs t0.rows)]), (5007, .row 37 (t31.flatMap Cell.cs))]⟩) hm (fun o h => ?_) ?_
            · refine awp_loop' (fun s => match s with | (t3, t6) => ⟨[(1, .ptr 1 0), (3, .own 5007 0 t3.length 2), (4, pI t4), (5, pI t5), (6, pI t6)], [(1, .lit 24 [.p (encL Row.cs t0.rows)]), (5007, .row 37 (t3.flatMap Cell.cs))]⟩) h (by kernel_rfl) (fun s out h => ?_)
              obtain ⟨t3, t6⟩ := s
              refine awp_seq ?_
              refine awp_seq ?_
              refine bind_el h (fun r_2 k7 h => ?_)
              replace k7 := getI_el k7
              refine bind_el h (fun r_3 k8 h => ?_)
              replace k8 := getI_el k8
              refine awp_regionD Try_mixed (orcs := [(6, tV (.p (encL Run.cs r_2.runs))), (10, tV (pI r_3.to))]) (gs := [.keep [1, 3, 4, 5, 6, 50] [1, 5007]]) (s' := ⟨[(1, .ptr 1 0), (3, .own 5007 0 t3.length 2), (4, pI t4), (5, pI t5), (6, pI t6), (50, pB (decide (t6 < r_3.to)))], [(1, .lit 24 [.p (encL Row.cs t0.rows)]), (5007, .row 37 (t3.flatMap Cell.cs))]⟩) (by kernel_rfl) (holds_of ((UU ∧ UU ∧ UU ∧ UU ∧ ((0 ≤ t4 ∧ t4 < (t0.rows.length : Int))) ∧ UU ∧ ((t0.rows.flatMap Row.cs)[t4.toNat * 2 + 1]? = some (encL Run.cs r_2.runs)) ∧ UU ∧ ((0 ≤ t5 ∧ t5 < (r_2.runs.length : Int))) ∧ UU ∧ ((r_2.runs.flatMap Run.cs)[t5.toNat * 2 + 1]? = some (vI r_3.to)) ∧ UU ∧ UU) ∧ (UU ∧ UU)) (by kernel_rfl) ⟨⟨TT, TT, TT, TT, k7.2, TT, row_at Row.cs_len k7.1 (j := 1) (by omega) (by decide), TT, k8.2, TT, row_at Run.cs_len k8.1 (j := 1) (by omega) (by decide), TT, TT⟩, ⟨TT, TT⟩⟩) ?_
              refine Done.mk (thenQ_n ?_)
              refine ifB_el h (fun k9 h => ?_) (fun k9 h => ?_)
              · refine awp_cond_t (b := decide (t6 < r_3.to)) (by kernel_rfl) k9 ?_
                refine doneSkip ?_
                refine Done.mk (thenQ_n ?_)
                refine awp_seq ?_
                refine awp_block ?_
                refine chk_el h (fun k10 h => ?_)
                refine awp_regionD Try_mixed (orcs := [(7, tV (pI r_2.y)), (10, tV (.own 63 0 (t3 ++ ([Cell.mk t6 r_2.y])).length 2))]) (gs := [.castB 63 (.row 37 ((t3 ++ ([Cell.mk t6 r_2.y])).flatMap Cell.cs)), .keep [1, 3, 4, 5, 6] [1, 63]]) (s' := ⟨[(1, .ptr 1 0), (3, .own 63 0 (t3 ++ ([Cell.mk t6 r_2.y])).length 2), (4, pI t4), (5, pI t5), (6, pI t6)], [(1, .lit 24 [.p (encL Row.cs t0.rows)]), (63, .row 37 ((t3 ++ ([Cell.mk t6 r_2.y])).flatMap Cell.cs))]⟩) (by kernel_rfl) (holds_of ((UU ∧ UU ∧ UU ∧ UU ∧ UU ∧ ((0 ≤ t4 ∧ t4 < (t0.rows.length : Int))) ∧ UU ∧ ((t0.rows.flatMap Row.cs)[t4.toNat * 2]? = some (vI r_2.y)) ∧ UU ∧ UU ∧ ((((t3.flatMap Cell.cs).length = t3.length * 2 ∧ (([Cell.mk t6 r_2.y]).flatMap Cell.cs).length = ([Cell.mk t6 r_2.y]).length * 2 ∧ (t3.length + ([Cell.mk t6 r_2.y]).length) * 16 ≤ 140737488355328 ∧ t3.length + ([Cell.mk t6 r_2.y]).length ≤ 9223372036854775807) ∧ some (AV.own 63 0 (t3.length + ([Cell.mk t6 r_2.y]).length) 2) = some (AV.own 63 0 (t3 ++ ([Cell.mk t6 r_2.y])).length 2))) ∧ UU ∧ UU) ∧ ((some (ABlk.row 37 (t3.flatMap Cell.cs ++ ([Cell.mk t6 r_2.y]).flatMap Cell.cs)) = some (ABlk.row 37 ((t3 ++ ([Cell.mk t6 r_2.y])).flatMap Cell.cs))) ∧ UU ∧ UU)) (by kernel_rfl) ⟨⟨TT, TT, TT, TT, TT, k7.2, TT, row_at Row.cs_len k7.1 (j := 0) (by omega) (by decide), TT, TT, ⟨⟨flat_len Cell.cs_len _, flat_len Cell.cs_len _, by omega, by omega⟩, app_len _ _ _ _⟩, TT, TT⟩, ⟨(app_row Cell.cs _ _ _), TT, TT⟩⟩) ?_
                refine Done.mk (inB_n (thenQ_n ?_))
                refine chk_el h (fun k11 h => ?_)
                refine awp_regionD Try_mixed (orcs := []) (gs := [.keep [1, 3, 4, 5, 6] [1, 63]]) (s' := ⟨[(1, .ptr 1 0), (3, .own 63 0 (t3 ++ ([Cell.mk t6 r_2.y])).length 2), (4, pI t4), (5, pI t5), (6, pI (t6 + 1))], [(1, .lit 24 [.p (encL Row.cs t0.rows)]), (63, .row 37 ((t3 ++ ([Cell.mk t6 r_2.y])).flatMap Cell.cs))]⟩) (by kernel_rfl) (holds_of ((UU ∧ (InR .i64 (t6 + 1 : Int)) ∧ UU ∧ UU) ∧ (UU ∧ UU)) (by kernel_rfl) ⟨⟨TT, k11, TT, TT⟩, ⟨TT, TT⟩⟩) ?_
                refine Done.gh [.keep [1, 3, 4, 5, 6] [1, 63], .ren 63 5007, .keep [1, 3, 4, 5, 6] [1, 5007]] (s' := ⟨[(1, .ptr 1 0), (3, .own 5007 0 (t3 ++ ([Cell.mk t6 r_2.y])).length 2), (4, pI t4), (5, pI t5), (6, pI (t6 + 1))], [(1, .lit 24 [.p (encL Row.cs t0.rows)]), (5007, .row 37 ((t3 ++ ([Cell.mk t6 r_2.y])).flatMap Cell.cs))]⟩) (by kernel_rfl) (holds_of (UU ∧ UU ∧ UU ∧ UU) (by kernel_rfl) ⟨TT, TT, TT, TT⟩) ?_
                refine Done.mk ?_
                obtain rfl := Option.some.inj h
                exact ⟨rfl, by kernel_rfl⟩
              · refine awp_cond_f (b := decide (t6 < r_3.to)) (by kernel_rfl) k9 ?_
                refine doneExit ?_
                refine Done.gh [.keep [1, 3, 4, 5] [1, 5007], .keep [1, 3, 4, 5] [1, 5007]] (s' := ⟨[(1, .ptr 1 0), (3, .own 5007 0 t3.length 2), (4, pI t4), (5, pI t5)], [(1, .lit 24 [.p (encL Row.cs t0.rows)]), (5007, .row 37 (t3.flatMap Cell.cs))]⟩) (by kernel_rfl) (holds_of (UU ∧ UU ∧ UU) (by kernel_rfl) ⟨TT, TT, TT⟩) ?_
                refine Done.mk (thenQ_x ?_)
                obtain rfl := Option.some.inj h
                exact ⟨fun q => (by cases q), fun q => (by subst q; exact ⟨rfl, by kernel_rfl⟩)⟩
            · have _ := hm
              refine Done.as (e := (Exit.exit 4)) (s := ⟨[(1, .ptr 1 0), (3, .own 5007 0 t31.length 2), (4, pI t4), (5, pI t5)], [(1, .lit 24 [.p (encL Row.cs t0.rows)]), (5007, .row 37 (t31.flatMap Cell.cs))]⟩) rfl (by kernel_rfl) ?_
              refine Done.mk (inB_hit (inB_n (thenQ_n ?_)))
              refine chk_el h (fun k12 h => ?_)
              refine awp_regionD Try_mixed (orcs := []) (gs := [.keep [1, 3, 4, 5] [1, 5007]]) (s' := ⟨[(1, .ptr 1 0), (3, .own 5007 0 t31.length 2), (4, pI t4), (5, pI (t5 + 1))], [(1, .lit 24 [.p (encL Row.cs t0.rows)]), (5007, .row 37 (t31.flatMap Cell.cs))]⟩) (by kernel_rfl) (holds_of ((UU ∧ (InR .i64 (t5 + 1 : Int)) ∧ UU ∧ UU) ∧ (UU ∧ UU)) (by kernel_rfl) ⟨⟨TT, k12, TT, TT⟩, ⟨TT, TT⟩⟩) ?_
              refine Done.gh [.keep [1, 3, 4, 5] [1, 5007], .ren 5007 5006, .keep [1, 3, 4, 5] [1, 5006]] (s' := ⟨[(1, .ptr 1 0), (3, .own 5006 0 t31.length 2), (4, pI t4), (5, pI (t5 + 1))], [(1, .lit 24 [.p (encL Row.cs t0.rows)]), (5006, .row 37 (t31.flatMap Cell.cs))]⟩) (by kernel_rfl) (holds_of (UU ∧ UU ∧ UU ∧ UU) (by kernel_rfl) ⟨TT, TT, TT, TT⟩) ?_
              refine Done.mk ?_
              obtain rfl := Option.some.inj h
              exact ⟨rfl, by kernel_rfl⟩
          · refine awp_cond_f (b := decide (t5 < (r_.runs.length : Int))) (by kernel_rfl) k5 ?_
            refine doneExit ?_
            refine Done.gh [.keep [1, 3, 4] [1, 5006], .keep [1, 3, 4] [1, 5006]] (s' := ⟨[(1, .ptr 1 0), (3, .own 5006 0 t32.length 2), (4, pI t4)], [(1, .lit 24 [.p (encL Row.cs t0.rows)]), (5006, .row 37 (t32.flatMap Cell.cs))]⟩) (by kernel_rfl) (holds_of (UU ∧ UU ∧ UU) (by kernel_rfl) ⟨TT, TT, TT⟩) ?_
            refine Done.mk (thenQ_x ?_)
            obtain rfl := Option.some.inj h
            exact ⟨fun q => (by cases q), fun q => (by subst q; exact ⟨rfl, by kernel_rfl⟩)⟩
        · have _ := hm
          refine Done.as (e := (Exit.exit 2)) (s := ⟨[(1, .ptr 1 0), (3, .own 5006 0 t33.length 2), (4, pI t4)], [(1, .lit 24 [.p (encL Row.cs t0.rows)]), (5006, .row 37 (t33.flatMap Cell.cs))]⟩) rfl (by kernel_rfl) ?_
          refine Done.mk (inB_hit (inB_n (thenQ_n ?_)))
          refine chk_el h (fun k13 h => ?_)
          refine awp_regionD Try_mixed (orcs := []) (gs := [.keep [1, 3, 4] [1, 5006]]) (s' := ⟨[(1, .ptr 1 0), (3, .own 5006 0 t33.length 2), (4, pI (t4 + 1))], [(1, .lit 24 [.p (encL Row.cs t0.rows)]), (5006, .row 37 (t33.flatMap Cell.cs))]⟩) (by kernel_rfl) (holds_of ((UU ∧ (InR .i64 (t4 + 1 : Int)) ∧ UU ∧ UU) ∧ (UU ∧ UU)) (by kernel_rfl) ⟨⟨TT, k13, TT, TT⟩, ⟨TT, TT⟩⟩) ?_
          refine Done.gh [.keep [1, 3, 4] [1, 5006], .ren 5006 5004, .keep [1, 3, 4] [1, 5004]] (s' := ⟨[(1, .ptr 1 0), (3, .own 5004 0 t33.length 2), (4, pI (t4 + 1))], [(1, .lit 24 [.p (encL Row.cs t0.rows)]), (5004, .row 37 (t33.flatMap Cell.cs))]⟩) (by kernel_rfl) (holds_of (UU ∧ UU ∧ UU ∧ UU) (by kernel_rfl) ⟨TT, TT, TT, TT⟩) ?_
          refine Done.mk ?_
          obtain rfl := Option.some.inj h
          exact ⟨rfl, by kernel_rfl⟩
      · refine awp_cond_f (b := decide (t4 < (t0.rows.length : Int))) (by kernel_rfl) k3 ?_
        refine doneExit ?_
        refine Done.gh [.keep [3] [5004], .keep [3] [5004]] (s' := ⟨[(3, .own 5004 0 t34.length 2)], [(5004, .row 37 (t34.flatMap Cell.cs))]⟩) (by kernel_rfl) (holds_of (UU ∧ UU ∧ UU) (by kernel_rfl) ⟨TT, TT, TT⟩) ?_
        refine Done.mk (thenQ_x ?_)
        obtain rfl := Option.some.inj h
        exact ⟨fun q => (by cases q), fun q => (by subst q; exact ⟨rfl, by kernel_rfl⟩)⟩
    · have _ := hm
      refine Done.as (e := (Exit.exit 0)) (s := ⟨[(3, .own 5004 0 t35.length 2)], [(5004, .row 37 (t35.flatMap Cell.cs))]⟩) rfl (by kernel_rfl) ?_
      refine Done.mk (inB_hit (thenQ_n ?_))
      refine awp_seq ?_
      refine awp_regionD Try_mixed (orcs := []) (gs := [.keep [2] [5004]]) (s' := ⟨[(2, .own 5004 0 t35.length 2)], [(5004, .row 37 (t35.flatMap Cell.cs))]⟩) (by kernel_rfl) (holds_of ((UU ∧ UU ∧ UU) ∧ (UU ∧ UU)) (by kernel_rfl) ⟨⟨TT, TT, TT⟩, ⟨TT, TT⟩⟩) ?_
      refine Done.mk (thenQ_n ?_)
      refine doneRet ?_
      refine Done.gh [.frz 5004, .keep [2] []] (s' := ⟨[(2, .p (encL Cell.cs t35))], []⟩) (by kernel_rfl) (holds_of (UU ∧ UU ∧ UU) (by kernel_rfl) ⟨TT, TT, TT⟩) ?_
      refine Done.mk ?_
      obtain rfl := Option.some.inj h
      exact ⟨Or.inr rfl, by kernel_rfl, by kernel_rfl⟩
end
end Go.AM
end
