/- Models of functions, and that their calls do what the models say. Printed by gen.py. -/
import Derived.Test.YtijdlphadhpabaaProg
import Derived.Test.YtijdlphadhpabaaF3
section
namespace Go.AM
open Go Go.RowKit Go.Proofs
noncomputable section
def runs_sweep_j1 (t0 : (List Run)) (t1 : (List Run)) : Option (Bool) :=
    (runs_Valid t0).bind fun b =>
    ifB (!b)
    (some true)
    ((runs_Valid t1).bind fun b1 =>
      some (!b1))
def runs_sweep_j2 (t0 : (List Run)) (t23At : Int) (t1 : (List Run)) (t26At : Int) : Option (Bool) :=
    (runs_bounds_over t0 t23At).bind fun b2 =>
    ifB (!b2)
    (some true)
    ((runs_bounds_over t1 t26At).bind fun b3 =>
      some (!b3))
def runs_sweep_j3 (b6 : Bool) (t10 : Bool) : Option (Bool) :=
    ifB (b6)
    (some (!t10))
    (some false)
def runs_sweep_j4 (b6 : Bool) (t10 : Bool) : Option (Bool) :=
    ifB (!b6)
    (some t10)
    (some false)
def runs_sweep_j5 (b6 : Bool) (t10 : Bool) (t91 : (List Run)) (n : Int) (n1 : Int) : Option ((List Run)) :=
    (runs_sweep_j3 b6 t10).bind fun t52 =>
    ifB (t52)
    (chk (t91.length + ([Run.mk (min n n1) 0]).length ≤ 1099511627776)
      (some (t91 ++ ([Run.mk (min n n1) 0]))))
    ((runs_sweep_j4 b6 t10).bind fun t63 =>
      ifB (t63)
      (chk (InR .i64 (((t91.length : Int)) - 1 : Int))
        ((getI t91 (((t91.length : Int)) - 1 : Int)).bind fun r_ =>
        some (t91.set (((t91.length : Int)) - 1 : Int).toNat (Run.mk r_.frm (min n n1)))))
      (some t91))
def runs_sweep_l6 (t0 : (List Run)) (t1 : (List Run)) (s : (List Run) × Bool × Int × Int) : Option (((List Run) × Bool × Int × Int) ⊕ ((List Run))) :=
  match s with
  | (t91, t10, t23At, t26At) =>
    (runs_sweep_j2 t0 t23At t1 t26At).bind fun t34 =>
    ifB (t34)
    ((runs_bounds_next t0 t23At).bind fun n =>
      (runs_bounds_next t1 t26At).bind fun n1 =>
      (runs_bounds_pass t0 t23At (min n n1)).bind fun n2 =>
      (runs_bounds_pass t1 t26At (min n n1)).bind fun n3 =>
      (runs_bounds_inside t0 n2).bind fun b4 =>
      (runs_bounds_inside t1 n3).bind fun b5 =>
      (runs_Subtract_1 b4 b5).bind fun b6 =>
      (runs_sweep_j5 b6 t10 t91 n n1).bind fun t9 =>
      some (.inl (t9, b6, n2, n3)))
    (some (.inr t91))
noncomputable def runs_sweep (t0 : (List Run)) (t1 : (List Run)) : Option (List Run) :=
  (runs_sweep_j1 t0 t1).bind fun t20 =>
  ifB (t20)
  (some ([] : (List Run)))
  ((loopP (runs_sweep_l6 t0 t1) (([] : List Run), false, 0, 0)).bind fun t92 =>
    some t92)
set_option maxRecDepth 100000 in
set_option maxHeartbeats 4000000 in
theorem runs_sweep_ok {t0 : (List Run)} {t1 : (List Run)} {r : (List Run)} (h : runs_sweep t0 t1 = some r) : ASpec Try.prog 61 [.p (encL Run.cs t0), .p (encL Run.cs t1), .fn 62 [] []] [] (.p (encL Run.cs r)) [] := by
  refine aspec_of Try.func61 (c := _) rfl (by kernel_rfl) (by rw [Try.ntmps61]; exact Nat.le_of_ble_eq_true rfl) ?_
  refine awp_seq ?_
  refine awp_regionD Try_mixed (orcs := []) (gs := [.keep [0, 1, 2] []]) (s' := ⟨[(0, .p (encL Run.cs t0)), (1, .p (encL Run.cs t1)), (2, .fn 62 [] [])], []⟩) (by kernel_rfl) (holds_of ((UU ∧ UU) ∧ (UU ∧ UU)) (by kernel_rfl) ⟨⟨TT, TT⟩, ⟨TT, TT⟩⟩) ?_
  refine Done.mk (thenQ_n ?_)
  refine awp_seq ?_
  refine awp_seq ?_
  refine bind_el h (fun t20 hm h => ?_)
  refine awp_tail (fun _ => Exit.normal) (fun o => match o with | t20 => ⟨[(0, .p (encL Run.cs t0)), (1, .p (encL Run.cs t1)), (2, .fn 62 [] []), (20, pB t20)], []⟩) hm (fun o h => ?_) ?_
  · refine bind_el h (fun b k1 h => ?_)
    refine ifB_el h (fun k2 h => ?_) (fun k2 h => ?_)
    · refine awp_regionD Try_mixed (orcs := [(1, tV (pB b)), (3, tB true)]) (gs := [.keep [0, 1, 2, 20] []]) (s' := ⟨[(0, .p (encL Run.cs t0)), (1, .p (encL Run.cs t1)), (2, .fn 62 [] []), (20, pB true)], []⟩) (by kernel_rfl) (holds_of ((UU ∧ (ASpec Try.prog 43 [.p (encL Run.cs t0)] [] (pB b) []) ∧ UU ∧ ((UU ∧ some (pB (!b)) = some (pB true))) ∧ UU ∧ UU) ∧ (UU ∧ UU)) (by kernel_rfl) ⟨⟨TT, runs_Valid_ok k1, TT, ⟨TT, by rw [k2]⟩, TT, TT⟩, ⟨TT, TT⟩⟩) ?_
      refine Done.mk ?_
      obtain rfl := Option.some.inj h
      exact ⟨rfl, by kernel_rfl⟩
    · refine bind_el h (fun b1 k3 h => ?_)
      refine awp_regionD Try_mixed (orcs := [(1, tV (pB b)), (3, tB false), (5, tV (pB b1))]) (gs := [.keep [0, 1, 2, 20] []]) (s' := ⟨[(0, .p (encL Run.cs t0)), (1, .p (encL Run.cs t1)), (2, .fn 62 [] []), (20, pB (!b1))], []⟩) (by kernel_rfl) (holds_of ((UU ∧ (ASpec Try.prog 43 [.p (encL Run.cs t0)] [] (pB b) []) ∧ UU ∧ ((UU ∧ some (pB (!b)) = some (pB false))) ∧ UU ∧ (ASpec Try.prog 43 [.p (encL Run.cs t1)] [] (pB b1) []) ∧ UU ∧ UU ∧ UU) ∧ (UU ∧ UU)) (by kernel_rfl) ⟨⟨TT, runs_Valid_ok k1, TT, ⟨TT, by rw [k2]⟩, TT, runs_Valid_ok k3, TT, TT, TT⟩, ⟨TT, TT⟩⟩) ?_
      refine Done.mk ?_
      obtain rfl := Option.some.inj h
      exact ⟨rfl, by kernel_rfl⟩
  · have _ := hm
    refine Done.as (e := Exit.normal) (s := ⟨[(0, .p (encL Run.cs t0)), (1, .p (encL Run.cs t1)), (2, .fn 62 [] []), (20, pB t20)], []⟩) rfl (by kernel_rfl) ?_
    refine Done.mk (thenQ_n ?_)
    refine ifB_el h (fun k4 h => ?_) (fun k4 h => ?_)
    · refine awp_cond_t (b := t20) (by kernel_rfl) k4 ?_
      refine awp_seq ?_
      refine awp_regionD Try_mixed (orcs := []) (gs := [.keep [6] []]) (s' := ⟨[(6, .nils)], []⟩) (by kernel_rfl) (holds_of ((UU ∧ UU) ∧ (UU ∧ UU)) (by kernel_rfl) ⟨⟨TT, TT⟩, ⟨TT, TT⟩⟩) ?_
      refine Done.mk (thenQ_n ?_)
      refine doneRet ?_
      refine Done.gh [.pureT 6, .keep [6] []] (s' := ⟨[(6, .p (.sl [] 0))], []⟩) (by kernel_rfl) (holds_of (UU ∧ UU ∧ UU) (by kernel_rfl) ⟨TT, TT, TT⟩) ?_
      refine Done.mk (thenQ_r ?_)
      obtain rfl := Option.some.inj h
      exact ⟨Or.inr rfl, by kernel_rfl, by kernel_rfl⟩
    · refine awp_cond_f (b := t20) (by kernel_rfl) k4 ?_
      refine doneSkip ?_
      refine Done.mk (thenQ_n ?_)
      refine awp_seq ?_
      refine awp_regionD Try_mixed (orcs := []) (gs := [.keep [2, 7, 8] [23, 26]]) (s' := ⟨[(2, .fn 62 [] []), (7, .ptr 23 0), (8, .ptr 26 0)], [(23, .lit 125 [.p (encL Run.cs t0), pI 0]), (26, .lit 125 [.p (encL Run.cs t1), pI 0])]⟩) (by kernel_rfl) (holds_of ((UU ∧ UU ∧ UU ∧ UU ∧ UU ∧ UU ∧ UU ∧ UU ∧ UU) ∧ (UU ∧ UU)) (by kernel_rfl) ⟨⟨TT, TT, TT, TT, TT, TT, TT, TT, TT⟩, ⟨TT, TT⟩⟩) ?_
      refine Done.mk (thenQ_n ?_)
      refine awp_seq ?_
      refine awp_regionD Try_mixed (orcs := []) (gs := [.keep [2, 7, 8, 9] [23, 26]]) (s' := ⟨[(2, .fn 62 [] []), (7, .ptr 23 0), (8, .ptr 26 0), (9, .nils)], [(23, .lit 125 [.p (encL Run.cs t0), pI 0]), (26, .lit 125 [.p (encL Run.cs t1), pI 0])]⟩) (by kernel_rfl) (holds_of ((UU ∧ UU) ∧ (UU ∧ UU)) (by kernel_rfl) ⟨⟨TT, TT⟩, ⟨TT, TT⟩⟩) ?_
      refine Done.mk (thenQ_n ?_)
      refine awp_seq ?_
      refine awp_regionD Try_mixed (orcs := []) (gs := [.keep [2, 7, 8, 9, 10] [23, 26]]) (s' := ⟨[(2, .fn 62 [] []), (7, .ptr 23 0), (8, .ptr 26 0), (9, .nils), (10, pB false)], [(23, .lit 125 [.p (encL Run.cs t0), pI 0]), (26, .lit 125 [.p (encL Run.cs t1), pI 0])]⟩) (by kernel_rfl) (holds_of ((UU ∧ UU) ∧ (UU ∧ UU)) (by kernel_rfl) ⟨⟨TT, TT⟩, ⟨TT, TT⟩⟩) ?_
      refine Done.mk (thenQ_n ?_)
      refine awp_seq ?_
      refine awp_block ?_
      refine bind_el h (fun t92 hm h => ?_)
      refine awp_gh [.keep [2, 7, 8, 9, 10] [23, 26], .opn 9 5002 57 2, .keep [2, 7, 8, 9, 10] [23, 26, 5002]] (s' := ⟨[(2, .fn 62 [] []), (7, .ptr 23 0), (8, .ptr 26 0), (9, .own 5002 0 (([] : List Run)).length 2), (10, pB false)], [(23, .lit 125 [.p (encL Run.cs t0), pI 0]), (26, .lit 125 [.p (encL Run.cs t1), pI 0]), (5002, .row 57 ((([] : List Run)).flatMap Run.cs))]⟩) (by kernel_rfl) (holds_of (UU ∧ UU ∧ UU ∧ UU) (by kernel_rfl) ⟨TT, TT, TT, TT⟩) ?_
      refine awp_tail (fun _ => (Exit.exit 0)) (fun o => match o with | t92 => ⟨[(9, .own 5002 0 t92.length 2)], [(5002, .row 57 (t92.flatMap Run.cs))]⟩) hm (fun o h => ?_) ?_
      · refine awp_loop' (fun s => match s with | (t91, t10, t23At, t26At) => ⟨[(2, .fn 62 [] []), (7, .ptr 23 0), (8, .ptr 26 0), (9, .own 5002 0 t91.length 2), (10, pB t10)], [(23, .lit 125 [.p (encL Run.cs t0), pI t23At]), (26, .lit 125 [.p (encL Run.cs t1), pI t26At]), (5002, .row 57 (t91.flatMap Run.cs))]⟩) h (by kernel_rfl) (fun s out h => ?_)
        obtain ⟨t91, t10, t23At, t26At⟩ := s
        refine awp_seq ?_
        refine awp_seq ?_
        refine bind_el h (fun t34 hm h => ?_)
        refine awp_tail (fun _ => Exit.normal) (fun o => match o with | t34 => ⟨[(2, .fn 62 [] []), (7, .ptr 23 0), (8, .ptr 26 0), (9, .own 5002 0 t91.length 2), (10, pB t10), (34, pB t34)], [(23, .lit 125 [.p (encL Run.cs t0), pI t23At]), (26, .lit 125 [.p (encL Run.cs t1), pI t26At]), (5002, .row 57 (t91.flatMap Run.cs))]⟩) hm (fun o h => ?_) ?_
        · refine bind_el h (fun b2 k5 h => ?_)
          refine ifB_el h (fun k6 h => ?_) (fun k6 h => ?_)
          · refine awp_regionD Try_mixed (orcs := [(1, { r := some (pB b2), fp := [23], post := [(23, .lit 125 [.p (encL Run.cs t0), pI t23At])] }), (3, tB true)]) (gs := [.keep [2, 7, 8, 9, 10, 34] [23, 26, 5002]]) (s' := ⟨[(2, .fn 62 [] []), (7, .ptr 23 0), (8, .ptr 26 0), (9, .own 5002 0 t91.length 2), (10, pB t10), (34, pB true)], [(23, .lit 125 [.p (encL Run.cs t0), pI t23At]), (26, .lit 125 [.p (encL Run.cs t1), pI t26At]), (5002, .row 57 (t91.flatMap Run.cs))]⟩) (by kernel_rfl) (holds_of ((UU ∧ (ASpec Try.prog 78 [.ptr 23 0] [(23, .lit 125 [.p (encL Run.cs t0), pI t23At])] (pB b2) [(23, .lit 125 [.p (encL Run.cs t0), pI t23At])]) ∧ UU ∧ ((UU ∧ some (pB (!b2)) = some (pB true))) ∧ UU ∧ UU) ∧ (UU ∧ UU)) (by kernel_rfl) ⟨⟨TT, aspec_at (runs_bounds_over_ok k5) 0 23 (by kernel_rfl), TT, ⟨TT, by rw [k6]⟩, TT, TT⟩, ⟨TT, TT⟩⟩) ?_
            refine Done.mk ?_
            obtain rfl := Option.some.inj h
            exact ⟨rfl, by kernel_rfl⟩
          · refine bind_el h (fun b3 k7 h => ?_)
            refine awp_regionD Try_mixed (orcs := [(1, { r := some (pB b2), fp := [23], post := [(23, .lit 125 [.p (encL Run.cs t0), pI t23At])] }), (3, tB false), (5, { r := some (pB b3), fp := [26], post := [(26, .lit 125 [.p (encL Run.cs t1), pI t26At])] })]) (gs := [.keep [2, 7, 8, 9, 10, 34] [23, 26, 5002]]) (s' := ⟨[(2, .fn 62 [] []), (7, .ptr 23 0), (8, .ptr 26 0), (9, .own 5002 0 t91.length 2), (10, pB t10), (34, pB (!b3))], [(23, .lit 125 [.p (encL Run.cs t0), pI t23At]), (26, .lit 125 [.p (encL Run.cs t1), pI t26At]), (5002, .row 57 (t91.flatMap Run.cs))]⟩) (by kernel_rfl) (holds_of ((UU ∧ (ASpec Try.prog 78 [.ptr 23 0] [(23, .lit 125 [.p (encL Run.cs t0), pI t23At])] (pB b2) [(23, .lit 125 [.p (encL Run.cs t0), pI t23At])]) ∧ UU ∧ ((UU ∧ some (pB (!b2)) = some (pB false))) ∧ UU ∧ (ASpec Try.prog 78 [.ptr 26 0] [(26, .lit 125 [.p (encL Run.cs t1), pI t26At])] (pB b3) [(26, .lit 125 [.p (encL Run.cs t1), pI t26At])]) ∧ UU ∧ UU ∧ UU) ∧ (UU ∧ UU)) (by kernel_rfl) ⟨⟨TT, aspec_at (runs_bounds_over_ok k5) 0 23 (by kernel_rfl), TT, ⟨TT, by rw [k6]⟩, TT, aspec_at (runs_bounds_over_ok k7) 0 26 (by kernel_rfl), TT, TT, TT⟩, ⟨TT, TT⟩⟩) ?_
            refine Done.mk ?_
            obtain rfl := Option.some.inj h
            exact ⟨rfl, by kernel_rfl⟩
        · have _ := hm
          refine Done.as (e := Exit.normal) (s := ⟨[(2, .fn 62 [] []), (7, .ptr 23 0), (8, .ptr 26 0), (9, .own 5002 0 t91.length 2), (10, pB t10), (34, pB t34)], [(23, .lit 125 [.p (encL Run.cs t0), pI t23At]), (26, .lit 125 [.p (encL Run.cs t1), pI t26At]), (5002, .row 57 (t91.flatMap Run.cs))]⟩) rfl (by kernel_rfl) ?_
          refine Done.mk (thenQ_n ?_)
          refine ifB_el h (fun k8 h => ?_) (fun k8 h => ?_)
          · refine awp_cond_t (b := t34) (by kernel_rfl) k8 ?_
            refine doneSkip ?_
            refine Done.mk (thenQ_n ?_)
            refine awp_block ?_
            refine awp_seq ?_
            refine bind_el h (fun n k9 h => ?_)
            refine bind_el h (fun n1 k10 h => ?_)
            refine awp_regionD Try_mixed (orcs := [(1, { r := some (pI n), fp := [23], post := [(23, .lit 125 [.p (encL Run.cs t0), pI t23At])] }), (3, { r := some (pI n1), fp := [26], post := [(26, .lit 125 [.p (encL Run.cs t1), pI t26At])] })]) (gs := [.keep [2, 7, 8, 9, 10, 11] [23, 26, 5002]]) (s' := ⟨[(2, .fn 62 [] []), (7, .ptr 23 0), (8, .ptr 26 0), (9, .own 5002 0 t91.length 2), (10, pB t10), (11, pI (min n n1))], [(23, .lit 125 [.p (encL Run.cs t0), pI t23At]), (26, .lit 125 [.p (encL Run.cs t1), pI t26At]), (5002, .row 57 (t91.flatMap Run.cs))]⟩) (by kernel_rfl) (holds_of ((UU ∧ (ASpec Try.prog 79 [.ptr 23 0] [(23, .lit 125 [.p (encL Run.cs t0), pI t23At])] (pI n) [(23, .lit 125 [.p (encL Run.cs t0), pI t23At])]) ∧ UU ∧ (ASpec Try.prog 79 [.ptr 26 0] [(26, .lit 125 [.p (encL Run.cs t1), pI t26At])] (pI n1) [(26, .lit 125 [.p (encL Run.cs t1), pI t26At])]) ∧ UU ∧ UU ∧ UU) ∧ (UU ∧ UU)) (by kernel_rfl) ⟨⟨TT, aspec_at (runs_bounds_next_ok k9) 0 23 (by kernel_rfl), TT, aspec_at (runs_bounds_next_ok k10) 0 26 (by kernel_rfl), TT, TT, TT⟩, ⟨TT, TT⟩⟩) ?_
            refine Done.mk (thenQ_n ?_)
            refine awp_seq ?_
            refine bind_el h (fun n2 k11 h => ?_)
            refine awp_regionD Try_mixed (orcs := [(2, { r := some (.tup []), fp := [23], post := [(23, .lit 125 [.p (encL Run.cs t0), pI n2])] })]) (gs := [.keep [2, 7, 8, 9, 10, 11] [23, 26, 5002]]) (s' := ⟨[(2, .fn 62 [] []), (7, .ptr 23 0), (8, .ptr 26 0), (9, .own 5002 0 t91.length 2), (10, pB t10), (11, pI (min n n1))], [(23, .lit 125 [.p (encL Run.cs t0), pI n2]), (26, .lit 125 [.p (encL Run.cs t1), pI t26At]), (5002, .row 57 (t91.flatMap Run.cs))]⟩) (by kernel_rfl) (holds_of ((UU ∧ UU ∧ (ASpec Try.prog 80 [.ptr 23 0, pI (min n n1)] [(23, .lit 125 [.p (encL Run.cs t0), pI t23At])] (.tup []) [(23, .lit 125 [.p (encL Run.cs t0), pI n2])]) ∧ UU) ∧ (UU ∧ UU)) (by kernel_rfl) ⟨⟨TT, TT, aspec_at (runs_bounds_pass_ok k11) 0 23 (by kernel_rfl), TT⟩, ⟨TT, TT⟩⟩) ?_
            refine Done.mk (thenQ_n ?_)
            refine awp_seq ?_
            refine bind_el h (fun n3 k12 h => ?_)
            refine awp_regionD Try_mixed (orcs := [(2, { r := some (.tup []), fp := [26], post := [(26, .lit 125 [.p (encL Run.cs t1), pI n3])] })]) (gs := [.keep [2, 7, 8, 9, 10, 11] [23, 26, 5002]]) (s' := ⟨[(2, .fn 62 [] []), (7, .ptr 23 0), (8, .ptr 26 0), (9, .own 5002 0 t91.length 2), (10, pB t10), (11, pI (min n n1))], [(23, .lit 125 [.p (encL Run.cs t0), pI n2]), (26, .lit 125 [.p (encL Run.cs t1), pI n3]), (5002, .row 57 (t91.flatMap Run.cs))]⟩) (by kernel_rfl) (holds_of ((UU ∧ UU ∧ (ASpec Try.prog 80 [.ptr 26 0, pI (min n n1)] [(26, .lit 125 [.p (encL Run.cs t1), pI t26At])] (.tup []) [(26, .lit 125 [.p (encL Run.cs t1), pI n3])]) ∧ UU) ∧ (UU ∧ UU)) (by kernel_rfl) ⟨⟨TT, TT, aspec_at (runs_bounds_pass_ok k12) 0 26 (by kernel_rfl), TT⟩, ⟨TT, TT⟩⟩) ?_
            refine Done.mk (thenQ_n ?_)
            refine awp_seq ?_
            refine bind_el h (fun b4 k13 h => ?_)
            refine bind_el h (fun b5 k14 h => ?_)
            refine bind_el h (fun b6 k15 h => ?_)
            refine awp_regionD Try_mixed (orcs := [(2, { r := some (pB b4), fp := [23], post := [(23, .lit 125 [.p (encL Run.cs t0), pI n2])] }), (4, { r := some (pB b5), fp := [26], post := [(26, .lit 125 [.p (encL Run.cs t1), pI n3])] }), (5, tV (pB b6))]) (gs := [.keep [2, 7, 8, 9, 10, 11, 12] [23, 26, 5002]]) (s' := ⟨[(2, .fn 62 [] []), (7, .ptr 23 0), (8, .ptr 26 0), (9, .own 5002 0 t91.length 2), (10, pB t10), (11, pI (min n n1)), (12, pB b6)], [(23, .lit 125 [.p (encL Run.cs t0), pI n2]), (26, .lit 125 [.p (encL Run.cs t1), pI n3]), (5002, .row 57 (t91.flatMap Run.cs))]⟩) (by kernel_rfl) (holds_of ((UU ∧ UU ∧ (ASpec Try.prog 81 [.ptr 23 0] [(23, .lit 125 [.p (encL Run.cs t0), pI n2])] (pB b4) [(23, .lit 125 [.p (encL Run.cs t0), pI n2])]) ∧ UU ∧ (ASpec Try.prog 81 [.ptr 26 0] [(26, .lit 125 [.p (encL Run.cs t1), pI n3])] (pB b5) [(26, .lit 125 [.p (encL Run.cs t1), pI n3])]) ∧ (ASpec Try.prog 62 [pB b4, pB b5] [] (pB b6) []) ∧ UU ∧ UU) ∧ (UU ∧ UU)) (by kernel_rfl) ⟨⟨TT, TT, aspec_at (runs_bounds_inside_ok k13) 0 23 (by kernel_rfl), TT, aspec_at (runs_bounds_inside_ok k14) 0 26 (by kernel_rfl), runs_Subtract_1_ok k15, TT, TT⟩, ⟨TT, TT⟩⟩) ?_
            refine Done.mk (thenQ_n ?_)
            refine awp_seq ?_
            refine bind_el h (fun t9 hm h => ?_)
            refine awp_tail (fun _ => Exit.normal) (fun o => match o with | t9 => ⟨[(2, .fn 62 [] []), (7, .ptr 23 0), (8, .ptr 26 0), (9, .own 5003 0 t9.length 2), (12, pB b6)], [(23, .lit 125 [.p (encL Run.cs t0), pI n2]), (26, .lit 125 [.p (encL Run.cs t1), pI n3]), (5003, .row 57 (t9.flatMap Run.cs))]⟩) hm (fun o h => ?_) ?_
            · refine awp_block ?_
              refine awp_seq ?_
              refine bind_el h (fun t52 hm h => ?_)
              refine awp_tail (fun _ => Exit.normal) (fun o => match o with | t52 => ⟨[(2, .fn 62 [] []), (7, .ptr 23 0), (8, .ptr 26 0), (9, .own 5002 0 t91.length 2), (10, pB t10), (11, pI (min n n1)), (12, pB b6), (52, pB t52)], [(23, .lit 125 [.p (encL Run.cs t0), pI n2]), (26, .lit 125 [.p (encL Run.cs t1), pI n3]), (5002, .row 57 (t91.flatMap Run.cs))]⟩) hm (fun o h => ?_) ?_
              · refine ifB_el h (fun k16 h => ?_) (fun k16 h => ?_)
                · refine awp_regionD Try_mixed (orcs := [(1, tB true)]) (gs := [.keep [2, 7, 8, 9, 10, 11, 12, 52] [23, 26, 5002]]) (s' := ⟨[(2, .fn 62 [] []), (7, .ptr 23 0), (8, .ptr 26 0), (9, .own 5002 0 t91.length 2), (10, pB t10), (11, pI (min n n1)), (12, pB b6), (52, pB (!t10))], [(23, .lit 125 [.p (encL Run.cs t0), pI n2]), (26, .lit 125 [.p (encL Run.cs t1), pI n3]), (5002, .row 57 (t91.flatMap Run.cs))]⟩) (by kernel_rfl) (holds_of ((UU ∧ ((UU ∧ some (pB b6) = some (pB true))) ∧ UU ∧ UU ∧ UU ∧ UU ∧ UU) ∧ (UU ∧ UU)) (by kernel_rfl) ⟨⟨TT, ⟨TT, by rw [k16]⟩, TT, TT, TT, TT, TT⟩, ⟨TT, TT⟩⟩) ?_
                  refine Done.mk ?_
                  obtain rfl := Option.some.inj h
                  exact ⟨rfl, by kernel_rfl⟩
                · refine awp_regionD Try_mixed (orcs := [(1, tB false)]) (gs := [.keep [2, 7, 8, 9, 10, 11, 12, 52] [23, 26, 5002]]) (s' := ⟨[(2, .fn 62 [] []), (7, .ptr 23 0), (8, .ptr 26 0), (9, .own 5002 0 t91.length 2), (10, pB t10), (11, pI (min n n1)), (12, pB b6), (52, pB false)], [(23, .lit 125 [.p (encL Run.cs t0), pI n2]), (26, .lit 125 [.p (encL Run.cs t1), pI n3]), (5002, .row 57 (t91.flatMap Run.cs))]⟩) (by kernel_rfl) (holds_of ((UU ∧ ((UU ∧ some (pB b6) = some (pB false))) ∧ UU ∧ UU ∧ UU) ∧ (UU ∧ UU)) (by kernel_rfl) ⟨⟨TT, ⟨TT, by rw [k16]⟩, TT, TT, TT⟩, ⟨TT, TT⟩⟩) ?_
                  refine Done.mk ?_
                  obtain rfl := Option.some.inj h
                  exact ⟨rfl, by kernel_rfl⟩
              · have _ := hm
                refine Done.as (e := Exit.normal) (s := ⟨[(2, .fn 62 [] []), (7, .ptr 23 0), (8, .ptr 26 0), (9, .own 5002 0 t91.length 2), (10, pB t10), (11, pI (min n n1)), (12, pB b6), (52, pB t52)], [(23, .lit 125 [.p (encL Run.cs t0), pI n2]), (26, .lit 125 [.p (encL Run.cs t1), pI n3]), (5002, .row 57 (t91.flatMap Run.cs))]⟩) rfl (by kernel_rfl) ?_
                refine Done.mk (thenQ_n ?_)
                refine ifB_el h (fun k17 h => ?_) (fun k17 h => ?_)
                · refine awp_cond_t (b := t52) (by kernel_rfl) k17 ?_
                  refine chk_el h (fun k18 h => ?_)
                  refine awp_regionD Try_mixed (orcs := [(4, tV (.own 62 0 (t91 ++ ([Run.mk (min n n1) 0])).length 2))]) (gs := [.castB 62 (.row 57 ((t91 ++ ([Run.mk (min n n1) 0])).flatMap Run.cs)), .keep [2, 7, 8, 9, 12] [23, 26, 62]]) (s' := ⟨[(2, .fn 62 [] []), (7, .ptr 23 0), (8, .ptr 26 0), (9, .own 62 0 (t91 ++ ([Run.mk (min n n1) 0])).length 2), (12, pB b6)], [(23, .lit 125 [.p (encL Run.cs t0), pI n2]), (26, .lit 125 [.p (encL Run.cs t1), pI n3]), (62, .row 57 ((t91 ++ ([Run.mk (min n n1) 0])).flatMap Run.cs))]⟩) (by kernel_rfl) (holds_of ((UU ∧ UU ∧ UU ∧ UU ∧ ((((t91.flatMap Run.cs).length = t91.length * 2 ∧ (([Run.mk (min n n1) 0]).flatMap Run.cs).length = ([Run.mk (min n n1) 0]).length * 2 ∧ (t91.length + ([Run.mk (min n n1) 0]).length) * 16 ≤ 140737488355328 ∧ t91.length + ([Run.mk (min n n1) 0]).length ≤ 9223372036854775807) ∧ some (AV.own 62 0 (t91.length + ([Run.mk (min n n1) 0]).length) 2) = some (AV.own 62 0 (t91 ++ ([Run.mk (min n n1) 0])).length 2))) ∧ UU ∧ UU) ∧ ((some (ABlk.row 57 (t91.flatMap Run.cs ++ ([Run.mk (min n n1) 0]).flatMap Run.cs)) = some (ABlk.row 57 ((t91 ++ ([Run.mk (min n n1) 0])).flatMap Run.cs))) ∧ UU ∧ UU)) (by kernel_rfl) ⟨⟨TT, TT, TT, TT, ⟨⟨flat_len Run.cs_len _, flat_len Run.cs_len _, by omega, by omega⟩, app_len _ _ _ _⟩, TT, TT⟩, ⟨(app_row Run.cs _ _ _), TT, TT⟩⟩) ?_
                  refine Done.gh [.keep [2, 7, 8, 9, 12] [23, 26, 62], .ren 62 5003, .keep [2, 7, 8, 9, 12] [23, 26, 5003]] (s' := ⟨[(2, .fn 62 [] []), (7, .ptr 23 0), (8, .ptr 26 0), (9, .own 5003 0 (t91 ++ ([Run.mk (min n n1) 0])).length 2), (12, pB b6)], [(23, .lit 125 [.p (encL Run.cs t0), pI n2]), (26, .lit 125 [.p (encL Run.cs t1), pI n3]), (5003, .row 57 ((t91 ++ ([Run.mk (min n n1) 0])).flatMap Run.cs))]⟩) (by kernel_rfl) (holds_of (UU ∧ UU ∧ UU ∧ UU) (by kernel_rfl) ⟨TT, TT, TT, TT⟩) ?_
                  refine Done.mk (inB_n ?_)
                  obtain rfl := Option.some.inj h
                  exact ⟨rfl, by kernel_rfl⟩
                · refine awp_cond_f (b := t52) (by kernel_rfl) k17 ?_
                  refine awp_seq ?_
                  refine bind_el h (fun t63 hm h => ?_)
                  refine awp_tail (fun _ => Exit.normal) (fun o => match o with | t63 => ⟨[(2, .fn 62 [] []), (7, .ptr 23 0), (8, .ptr 26 0), (9, .own 5002 0 t91.length 2), (11, pI (min n n1)), (12, pB b6), (63, pB t63)], [(23, .lit 125 [.p (encL Run.cs t0), pI n2]), (26, .lit 125 [.p (encL Run.cs t1), pI n3]), (5002, .row 57 (t91.flatMap Run.cs))]⟩) hm (fun o h => ?_) ?_
                  · refine ifB_el h (fun k19 h => ?_) (fun k19 h => ?_)
                    · refine awp_regionD Try_mixed (orcs := [(2, tB true)]) (gs := [.keep [2, 7, 8, 9, 11, 12, 63] [23, 26, 5002]]) (s' := ⟨[(2, .fn 62 [] []), (7, .ptr 23 0), (8, .ptr 26 0), (9, .own 5002 0 t91.length 2), (11, pI (min n n1)), (12, pB b6), (63, pB t10)], [(23, .lit 125 [.p (encL Run.cs t0), pI n2]), (26, .lit 125 [.p (encL Run.cs t1), pI n3]), (5002, .row 57 (t91.flatMap Run.cs))]⟩) (by kernel_rfl) (holds_of ((UU ∧ UU ∧ ((UU ∧ some (pB (!b6)) = some (pB true))) ∧ UU ∧ UU ∧ UU ∧ UU) ∧ (UU ∧ UU)) (by kernel_rfl) ⟨⟨TT, TT, ⟨TT, by rw [k19]⟩, TT, TT, TT, TT⟩, ⟨TT, TT⟩⟩) ?_
                      refine Done.mk ?_
                      obtain rfl := Option.some.inj h
                      exact ⟨rfl, by kernel_rfl⟩
                    · refine awp_regionD Try_mixed (orcs := [(2, tB false)]) (gs := [.keep [2, 7, 8, 9, 11, 12, 63] [23, 26, 5002]]) (s' := ⟨[(2, .fn 62 [] []), (7, .ptr 23 0), (8, .ptr 26 0), (9, .own 5002 0 t91.length 2), (11, pI (min n n1)), (12, pB b6), (63, pB false)], [(23, .lit 125 [.p (encL Run.cs t0), pI n2]), (26, .lit 125 [.p (encL Run.cs t1), pI n3]), (5002, .row 57 (t91.flatMap Run.cs))]⟩) (by kernel_rfl) (holds_of ((UU ∧ UU ∧ ((UU ∧ some (pB (!b6)) = some (pB false))) ∧ UU ∧ UU ∧ UU) ∧ (UU ∧ UU)) (by kernel_rfl) ⟨⟨TT, TT, ⟨TT, by rw [k19]⟩, TT, TT, TT⟩, ⟨TT, TT⟩⟩) ?_
                      refine Done.mk ?_
                      obtain rfl := Option.some.inj h
                      exact ⟨rfl, by kernel_rfl⟩
                  · have _ := hm
                    refine Done.as (e := Exit.normal) (s := ⟨[(2, .fn 62 [] []), (7, .ptr 23 0), (8, .ptr 26 0), (9, .own 5002 0 t91.length 2), (11, pI (min n n1)), (12, pB b6), (63, pB t63)], [(23, .lit 125 [.p (encL Run.cs t0), pI n2]), (26, .lit 125 [.p (encL Run.cs t1), pI n3]), (5002, .row 57 (t91.flatMap Run.cs))]⟩) rfl (by kernel_rfl) ?_
                    refine Done.mk (thenQ_n ?_)
                    refine ifB_el h (fun k20 h => ?_) (fun k20 h => ?_)
                    · refine awp_cond_t (b := t63) (by kernel_rfl) k20 ?_
                      refine chk_el h (fun k21 h => ?_)
                      refine bind_el h (fun r_ k22 h => ?_)
                      replace k22 := getI_el k22
                      refine awp_regionD Try_mixed (orcs := []) (gs := [.castB 5002 (.row 57 ((t91.set (((t91.length : Int)) - 1 : Int).toNat (Run.mk r_.frm (min n n1))).flatMap Run.cs)), .castT 9 (.own 5002 0 (t91.set (((t91.length : Int)) - 1 : Int).toNat (Run.mk r_.frm (min n n1))).length 2), .keep [2, 7, 8, 9, 12] [23, 26, 5002]]) (s' := ⟨[(2, .fn 62 [] []), (7, .ptr 23 0), (8, .ptr 26 0), (9, .own 5002 0 (t91.set (((t91.length : Int)) - 1 : Int).toNat (Run.mk r_.frm (min n n1))).length 2), (12, pB b6)], [(23, .lit 125 [.p (encL Run.cs t0), pI n2]), (26, .lit 125 [.p (encL Run.cs t1), pI n3]), (5002, .row 57 ((t91.set (((t91.length : Int)) - 1 : Int).toNat (Run.mk r_.frm (min n n1))).flatMap Run.cs))]⟩) (by kernel_rfl) (holds_of ((UU ∧ UU ∧ UU ∧ (InR .i64 (((t91.length : Int)) - 1 : Int)) ∧ UU ∧ ((0 ≤ (((t91.length : Int)) - 1 : Int) ∧ (((t91.length : Int)) - 1 : Int) < (t91.length : Int))) ∧ UU ∧ (0 + (((t91.length : Int)) - 1 : Int).toNat * 2 + 1 + 1 ≤ (t91.flatMap Run.cs).length) ∧ UU) ∧ ((some (ABlk.row 57 (setL (t91.flatMap Run.cs) (0 + (((t91.length : Int)) - 1 : Int).toNat * 2 + 1) [vI (min n n1)])) = some (ABlk.row 57 ((t91.set (((t91.length : Int)) - 1 : Int).toNat (Run.mk r_.frm (min n n1))).flatMap Run.cs))) ∧ (some (AV.own 5002 0 t91.length 2) = some (AV.own 5002 0 (t91.set (((t91.length : Int)) - 1 : Int).toNat (Run.mk r_.frm (min n n1))).length 2)) ∧ UU ∧ UU)) (by kernel_rfl) ⟨⟨TT, TT, TT, k21, TT, k22.2, TT, set_le Run.cs_len k22.1 (o := 1) (m := 1) (by omega) (by decide), TT⟩, ⟨(set_row Run.cs_len k22.1 (x' := Run.mk r_.frm (min n n1)) (o := 1) (by omega) rfl (Nat.le_of_ble_eq_true rfl) _), set_len, TT, TT⟩⟩) ?_
                      refine Done.gh [.keep [2, 7, 8, 9, 12] [23, 26, 5002], .ren 5002 5003, .keep [2, 7, 8, 9, 12] [23, 26, 5003]] (s' := ⟨[(2, .fn 62 [] []), (7, .ptr 23 0), (8, .ptr 26 0), (9, .own 5003 0 (t91.set (((t91.length : Int)) - 1 : Int).toNat (Run.mk r_.frm (min n n1))).length 2), (12, pB b6)], [(23, .lit 125 [.p (encL Run.cs t0), pI n2]), (26, .lit 125 [.p (encL Run.cs t1), pI n3]), (5003, .row 57 ((t91.set (((t91.length : Int)) - 1 : Int).toNat (Run.mk r_.frm (min n n1))).flatMap Run.cs))]⟩) (by kernel_rfl) (holds_of (UU ∧ UU ∧ UU ∧ UU) (by kernel_rfl) ⟨TT, TT, TT, TT⟩) ?_
                      refine Done.mk (inB_n ?_)
                      obtain rfl := Option.some.inj h
                      exact ⟨rfl, by kernel_rfl⟩
                    · refine awp_cond_f (b := t63) (by kernel_rfl) k20 ?_
                      refine doneSkip ?_
                      refine Done.gh [.keep [2, 7, 8, 9, 12] [23, 26, 5002], .ren 5002 5003, .keep [2, 7, 8, 9, 12] [23, 26, 5003]] (s' := ⟨[(2, .fn 62 [] []), (7, .ptr 23 0), (8, .ptr 26 0), (9, .own 5003 0 t91.length 2), (12, pB b6)], [(23, .lit 125 [.p (encL Run.cs t0), pI n2]), (26, .lit 125 [.p (encL Run.cs t1), pI n3]), (5003, .row 57 (t91.flatMap Run.cs))]⟩) (by kernel_rfl) (holds_of (UU ∧ UU ∧ UU ∧ UU) (by kernel_rfl) ⟨TT, TT, TT, TT⟩) ?_
                      refine Done.mk (inB_n ?_)
                      obtain rfl := Option.some.inj h
                      exact ⟨rfl, by kernel_rfl⟩
            · have _ := hm
              refine Done.as (e := Exit.normal) (s := ⟨[(2, .fn 62 [] []), (7, .ptr 23 0), (8, .ptr 26 0), (9, .own 5003 0 t9.length 2), (12, pB b6)], [(23, .lit 125 [.p (encL Run.cs t0), pI n2]), (26, .lit 125 [.p (encL Run.cs t1), pI n3]), (5003, .row 57 (t9.flatMap Run.cs))]⟩) rfl (by kernel_rfl) ?_
              refine Done.mk (thenQ_n ?_)
              refine awp_regionD Try_mixed (orcs := []) (gs := [.keep [2, 7, 8, 9, 10] [23, 26, 5003]]) (s' := ⟨[(2, .fn 62 [] []), (7, .ptr 23 0), (8, .ptr 26 0), (9, .own 5003 0 t9.length 2), (10, pB b6)], [(23, .lit 125 [.p (encL Run.cs t0), pI n2]), (26, .lit 125 [.p (encL Run.cs t1), pI n3]), (5003, .row 57 (t9.flatMap Run.cs))]⟩) (by kernel_rfl) (holds_of ((UU ∧ UU ∧ UU) ∧ (UU ∧ UU)) (by kernel_rfl) ⟨⟨TT, TT, TT⟩, ⟨TT, TT⟩⟩) ?_
              refine Done.gh [.keep [2, 7, 8, 9, 10] [23, 26, 5003], .ren 5003 5002, .keep [2, 7, 8, 9, 10] [23, 26, 5002]] (s' := ⟨[(2, .fn 62 [] []), (7, .ptr 23 0), (8, .ptr 26 0), (9, .own 5002 0 t9.length 2), (10, pB b6)], [(23, .lit 125 [.p (encL Run.cs t0), pI n2]), (26, .lit 125 [.p (encL Run.cs t1), pI n3]), (5002, .row 57 (t9.flatMap Run.cs))]⟩) (by kernel_rfl) (holds_of (UU ∧ UU ∧ UU ∧ UU) (by kernel_rfl) ⟨TT, TT, TT, TT⟩) ?_
              refine Done.mk (inB_n ?_)
              obtain rfl := Option.some.inj h
              exact ⟨rfl, by kernel_rfl⟩
          · refine awp_cond_f (b := t34) (by kernel_rfl) k8 ?_
            refine doneExit ?_
            refine Done.gh [.keep [9] [5002], .keep [9] [5002]] (s' := ⟨[(9, .own 5002 0 t91.length 2)], [(5002, .row 57 (t91.flatMap Run.cs))]⟩) (by kernel_rfl) (holds_of (UU ∧ UU ∧ UU) (by kernel_rfl) ⟨TT, TT, TT⟩) ?_
            refine Done.mk (thenQ_x ?_)
            obtain rfl := Option.some.inj h
            exact ⟨fun q => (by cases q), fun q => (by subst q; exact ⟨rfl, by kernel_rfl⟩)⟩
      · have _ := hm
        refine Done.as (e := (Exit.exit 0)) (s := ⟨[(9, .own 5002 0 t92.length 2)], [(5002, .row 57 (t92.flatMap Run.cs))]⟩) rfl (by kernel_rfl) ?_
        refine Done.mk (inB_hit (thenQ_n ?_))
        refine awp_seq ?_
        refine awp_regionD Try_mixed (orcs := []) (gs := [.keep [6] [5002]]) (s' := ⟨[(6, .own 5002 0 t92.length 2)], [(5002, .row 57 (t92.flatMap Run.cs))]⟩) (by kernel_rfl) (holds_of ((UU ∧ UU ∧ UU) ∧ (UU ∧ UU)) (by kernel_rfl) ⟨⟨TT, TT, TT⟩, ⟨TT, TT⟩⟩) ?_
        refine Done.mk (thenQ_n ?_)
        refine doneRet ?_
        refine Done.gh [.frz 5002, .keep [6] []] (s' := ⟨[(6, .p (encL Run.cs t92))], []⟩) (by kernel_rfl) (holds_of (UU ∧ UU ∧ UU) (by kernel_rfl) ⟨TT, TT, TT⟩) ?_
        refine Done.mk ?_
        obtain rfl := Option.some.inj h
        exact ⟨Or.inr rfl, by kernel_rfl, by kernel_rfl⟩
end
end Go.AM
end
section
namespace Go.AM
open Go Go.RowKit Go.Proofs
noncomputable section
noncomputable def runs_Subtract (a : (List Run)) (b : (List Run)) : Option (List Run) :=
  (runs_sweep a b).bind fun v =>
  some v
set_option maxRecDepth 100000 in
set_option maxHeartbeats 4000000 in
theorem runs_Subtract_ok {a : (List Run)} {b : (List Run)} {r : (List Run)} (h : runs_Subtract a b = some r) : ASpec Try.prog 45 [.p (encL Run.cs a), .p (encL Run.cs b)] [] (.p (encL Run.cs r)) [] := by
  refine aspec_of Try.func45 (c := _) rfl (by kernel_rfl) (by rw [Try.ntmps45]; exact Nat.le_of_ble_eq_true rfl) ?_
  refine awp_seq ?_
  refine awp_regionD Try_mixed (orcs := []) (gs := [.keep [0, 1] []]) (s' := ⟨[(0, .p (encL Run.cs a)), (1, .p (encL Run.cs b))], []⟩) (by kernel_rfl) (holds_of ((UU ∧ UU) ∧ (UU ∧ UU)) (by kernel_rfl) ⟨⟨TT, TT⟩, ⟨TT, TT⟩⟩) ?_
  refine Done.mk (thenQ_n ?_)
  refine awp_seq ?_
  refine bind_el h (fun v k1 h => ?_)
  refine awp_regionD Try_mixed (orcs := [(2, tV (.p (encL Run.cs v)))]) (gs := [.keep [4] []]) (s' := ⟨[(4, .p (encL Run.cs v))], []⟩) (by kernel_rfl) (holds_of ((UU ∧ UU ∧ (ASpec Try.prog 61 [.p (encL Run.cs a), .p (encL Run.cs b), .fn 62 [] []] [] (.p (encL Run.cs v)) []) ∧ UU ∧ UU) ∧ (UU ∧ UU)) (by kernel_rfl) ⟨⟨TT, TT, runs_sweep_ok k1, TT, TT⟩, ⟨TT, TT⟩⟩) ?_
  refine Done.mk (thenQ_n ?_)
  refine doneRet ?_
  refine Done.mk ?_
  obtain rfl := Option.some.inj h
  exact ⟨Or.inr rfl, by kernel_rfl, by kernel_rfl⟩
end
end Go.AM
end
section
namespace Go.AM
open Go Go.RowKit Go.Proofs
noncomputable section
def R18_fine_j1 (l : (List Run)) (i : Int) : Option (Bool) :=
    (getI l i).bind fun r_ =>
    ifB (decide (r_.frm < (-4096 : Int)))
    (some true)
    (ifB (decide (r_.frm ≥ r_.to))
      (some true)
      (ifB (decide (r_.to > (4096 : Int)))
        (some true)
        (ifB (decide (i > (0 : Int)))
          (chk (InR .i64 (i - 1 : Int))
            ((getI l (i - 1 : Int)).bind fun r_1 =>
            some (decide (r_.frm ≤ r_1.to))))
          (some false))))
def R18_fine_l2 (l : (List Run)) (s : Int) : Option ((Int) ⊕ ((Unit) ⊕ (Unit))) :=
  match s with
  | i =>
    ifB (decide (i < (l.length : Int)))
    ((R18_fine_j1 l i).bind fun t54 =>
      ifB (t54)
      (some (.inr (.inr ())))
      (chk (InR .i64 (i + 1 : Int))
        (some (.inl (i + 1)))))
    (some (.inr (.inl ())))
noncomputable def R18_fine (l : (List Run)) : Option Bool :=
  (loopP (R18_fine_l2 l) 0).bind fun o => match o with
  | .inl _ => some (decide ((l.length : Int) > (0 : Int)))
  | .inr _ => some false
set_option maxRecDepth 100000 in
set_option maxHeartbeats 4000000 in
theorem R18_fine_ok {l : (List Run)} {r : Bool} (h : R18_fine l = some r) : ASpec Try.prog 54 [.p (encL Run.cs l)] [] (pB r) [] := by
  refine aspec_of Try.func54 (c := _) rfl (by kernel_rfl) (by rw [Try.ntmps54]; exact Nat.le_of_ble_eq_true rfl) ?_
  refine awp_seq ?_
  refine awp_regionD Try_mixed (orcs := []) (gs := [.keep [0] []]) (s' := ⟨[(0, .p (encL Run.cs l))], []⟩) (by kernel_rfl) (holds_of ((UU ∧ UU) ∧ (UU ∧ UU)) (by kernel_rfl) ⟨⟨TT, TT⟩, ⟨TT, TT⟩⟩) ?_
  refine Done.mk (thenQ_n ?_)
  refine awp_seq ?_
  refine awp_seq ?_
  refine awp_regionD Try_mixed (orcs := []) (gs := [.keep [0, 3] []]) (s' := ⟨[(0, .p (encL Run.cs l)), (3, pI 0)], []⟩) (by kernel_rfl) (holds_of ((UU ∧ UU) ∧ (UU ∧ UU)) (by kernel_rfl) ⟨⟨TT, TT⟩, ⟨TT, TT⟩⟩) ?_
  refine Done.mk (thenQ_n ?_)
  refine awp_block ?_
  refine bind_el h (fun o hm h => ?_)
  refine awp_gh [.keep [0, 3] [], .keep [0, 3] []] (s' := ⟨[(0, .p (encL Run.cs l)), (3, pI 0)], []⟩) (by kernel_rfl) (holds_of (UU ∧ UU ∧ UU) (by kernel_rfl) ⟨TT, TT, TT⟩) ?_
  refine awp_tail (fun o => match o with | .inl _ => (Exit.exit 0) | .inr _ => Exit.ret) (fun o => match o with | .inl _ => ⟨[(0, .p (encL Run.cs l))], []⟩ | .inr _ => ⟨[(2, pB false)], []⟩) hm (fun o h => ?_) ?_
  · refine awp_loop' (fun s => match s with | i => ⟨[(0, .p (encL Run.cs l)), (3, pI i)], []⟩) h (by kernel_rfl) (fun i out h => ?_)
    refine awp_seq ?_
    refine awp_seq ?_
    refine awp_regionD Try_mixed (orcs := []) (gs := [.keep [0, 3, 7] []]) (s' := ⟨[(0, .p (encL Run.cs l)), (3, pI i), (7, pB (decide (i < (l.length : Int))))], []⟩) (by kernel_rfl) (holds_of ((UU ∧ UU ∧ UU ∧ UU ∧ UU) ∧ (UU ∧ UU)) (by kernel_rfl) ⟨⟨TT, TT, TT, TT, TT⟩, ⟨TT, TT⟩⟩) ?_
    refine Done.mk (thenQ_n ?_)
    refine ifB_el h (fun k1 h => ?_) (fun k1 h => ?_)
    · refine awp_cond_t (b := decide (i < (l.length : Int))) (by kernel_rfl) k1 ?_
      refine doneSkip ?_
      refine Done.mk (thenQ_n ?_)
      refine awp_seq ?_
      refine awp_block ?_
      refine awp_seq ?_
      refine bind_el h (fun t54 hm h => ?_)
      refine awp_tail (fun _ => Exit.normal) (fun o => match o with | t54 => ⟨[(0, .p (encL Run.cs l)), (3, pI i), (54, pB t54)], []⟩) hm (fun o h => ?_) ?_
      · refine bind_el h (fun r_ k2 h => ?_)
        replace k2 := getI_el k2
        refine ifB_el h (fun k3 h => ?_) (fun k3 h => ?_)
        · refine awp_regionD Try_mixed (orcs := [(4, tV (pI r_.frm)), (6, tB true)]) (gs := [.keep [0, 3, 54] []]) (s' := ⟨[(0, .p (encL Run.cs l)), (3, pI i), (54, pB true)], []⟩) (by kernel_rfl) (holds_of ((UU ∧ UU ∧ ((0 ≤ i ∧ i < (l.length : Int))) ∧ UU ∧ ((l.flatMap Run.cs)[i.toNat * 2]? = some (vI r_.frm)) ∧ UU ∧ ((UU ∧ some (pB (decide (r_.frm < (-4096 : Int)))) = some (pB true))) ∧ UU ∧ UU ∧ UU ∧ UU ∧ UU ∧ UU) ∧ (UU ∧ UU)) (by kernel_rfl) ⟨⟨TT, TT, k2.2, TT, row_at Run.cs_len k2.1 (j := 0) (by omega) (by decide), TT, ⟨TT, by rw [k3]⟩, TT, TT, TT, TT, TT, TT⟩, ⟨TT, TT⟩⟩) ?_
          refine Done.mk ?_
          obtain rfl := Option.some.inj h
          exact ⟨rfl, by kernel_rfl⟩
        · refine ifB_el h (fun k4 h => ?_) (fun k4 h => ?_)
          · refine awp_regionD Try_mixed (orcs := [(4, tV (pI r_.frm)), (6, tB false), (11, tV (pI r_.frm)), (16, tV (pI r_.to)), (19, tB true)]) (gs := [.keep [0, 3, 54] []]) (s' := ⟨[(0, .p (encL Run.cs l)), (3, pI i), (54, pB true)], []⟩) (by kernel_rfl) (holds_of ((UU ∧ UU ∧ ((0 ≤ i ∧ i < (l.length : Int))) ∧ UU ∧ ((l.flatMap Run.cs)[i.toNat * 2]? = some (vI r_.frm)) ∧ UU ∧ ((UU ∧ some (pB (decide (r_.frm < (-4096 : Int)))) = some (pB false))) ∧ UU ∧ UU ∧ ((0 ≤ i ∧ i < (l.length : Int))) ∧ UU ∧ ((l.flatMap Run.cs)[i.toNat * 2]? = some (vI r_.frm)) ∧ UU ∧ UU ∧ ((0 ≤ i ∧ i < (l.length : Int))) ∧ UU ∧ ((l.flatMap Run.cs)[i.toNat * 2 + 1]? = some (vI r_.to)) ∧ UU ∧ UU ∧ ((UU ∧ some (pB (decide (r_.frm ≥ r_.to))) = some (pB true))) ∧ UU ∧ UU ∧ UU ∧ UU) ∧ (UU ∧ UU)) (by kernel_rfl) ⟨⟨TT, TT, k2.2, TT, row_at Run.cs_len k2.1 (j := 0) (by omega) (by decide), TT, ⟨TT, by rw [k3]⟩, TT, TT, k2.2, TT, row_at Run.cs_len k2.1 (j := 0) (by omega) (by decide), TT, TT, k2.2, TT, row_at Run.cs_len k2.1 (j := 1) (by omega) (by decide), TT, TT, ⟨TT, by rw [k4]⟩, TT, TT, TT, TT⟩, ⟨TT, TT⟩⟩) ?_
            refine Done.mk ?_
            obtain rfl := Option.some.inj h
            exact ⟨rfl, by kernel_rfl⟩
          · refine ifB_el h (fun k5 h => ?_) (fun k5 h => ?_)
            · refine awp_regionD Try_mixed (orcs := [(4, tV (pI r_.frm)), (6, tB false), (11, tV (pI r_.frm)), (16, tV (pI r_.to)), (19, tB false), (24, tV (pI r_.to)), (27, tB true)]) (gs := [.keep [0, 3, 54] []]) (s' := ⟨[(0, .p (encL Run.cs l)), (3, pI i), (54, pB true)], []⟩) (by kernel_rfl) (holds_of ((UU ∧ UU ∧ ((0 ≤ i ∧ i < (l.length : Int))) ∧ UU ∧ ((l.flatMap Run.cs)[i.toNat * 2]? = some (vI r_.frm)) ∧ UU ∧ ((UU ∧ some (pB (decide (r_.frm < (-4096 : Int)))) = some (pB false))) ∧ UU ∧ UU ∧ ((0 ≤ i ∧ i < (l.length : Int))) ∧ UU ∧ ((l.flatMap Run.cs)[i.toNat * 2]? = some (vI r_.frm)) ∧ UU ∧ UU ∧ ((0 ≤ i ∧ i < (l.length : Int))) ∧ UU ∧ ((l.flatMap Run.cs)[i.toNat * 2 + 1]? = some (vI r_.to)) ∧ UU ∧ UU ∧ ((UU ∧ some (pB (decide (r_.frm ≥ r_.to))) = some (pB false))) ∧ UU ∧ UU ∧ ((0 ≤ i ∧ i < (l.length : Int))) ∧ UU ∧ ((l.flatMap Run.cs)[i.toNat * 2 + 1]? = some (vI r_.to)) ∧ UU ∧ UU ∧ ((UU ∧ some (pB (decide (r_.to > (4096 : Int)))) = some (pB true))) ∧ UU ∧ UU) ∧ (UU ∧ UU)) (by kernel_rfl) ⟨⟨TT, TT, k2.2, TT, row_at Run.cs_len k2.1 (j := 0) (by omega) (by decide), TT, ⟨TT, by rw [k3]⟩, TT, TT, k2.2, TT, row_at Run.cs_len k2.1 (j := 0) (by omega) (by decide), TT, TT, k2.2, TT, row_at Run.cs_len k2.1 (j := 1) (by omega) (by decide), TT, TT, ⟨TT, by rw [k4]⟩, TT, TT, k2.2, TT, row_at Run.cs_len k2.1 (j := 1) (by omega) (by decide), TT, TT, ⟨TT, by rw [k5]⟩, TT, TT⟩, ⟨TT, TT⟩⟩) ?_
              refine Done.mk ?_
              obtain rfl := Option.some.inj h
              exact ⟨rfl, by kernel_rfl⟩
            · refine ifB_el h (fun k6 h => ?_) (fun k6 h => ?_)
              · refine chk_el h (fun k7 h => ?_)
                refine bind_el h (fun r_1 k8 h => ?_)
                replace k8 := getI_el k8
                refine awp_regionD Try_mixed (orcs := [(4, tV (pI r_.frm)), (6, tB false), (11, tV (pI r_.frm)), (16, tV (pI r_.to)), (19, tB false), (24, tV (pI r_.to)), (27, tB false), (30, tB true), (35, tV (pI r_.frm)), (41, tV (pI r_1.to))]) (gs := [.keep [0, 3, 54] []]) (s' := ⟨[(0, .p (encL Run.cs l)), (3, pI i), (54, pB (decide (r_.frm ≤ r_1.to)))], []⟩) (by kernel_rfl) (holds_of ((UU ∧ UU ∧ ((0 ≤ i ∧ i < (l.length : Int))) ∧ UU ∧ ((l.flatMap Run.cs)[i.toNat * 2]? = some (vI r_.frm)) ∧ UU ∧ ((UU ∧ some (pB (decide (r_.frm < (-4096 : Int)))) = some (pB false))) ∧ UU ∧ UU ∧ ((0 ≤ i ∧ i < (l.length : Int))) ∧ UU ∧ ((l.flatMap Run.cs)[i.toNat * 2]? = some (vI r_.frm)) ∧ UU ∧ UU ∧ ((0 ≤ i ∧ i < (l.length : Int))) ∧ UU ∧ ((l.flatMap Run.cs)[i.toNat * 2 + 1]? = some (vI r_.to)) ∧ UU ∧ UU ∧ ((UU ∧ some (pB (decide (r_.frm ≥ r_.to))) = some (pB false))) ∧ UU ∧ UU ∧ ((0 ≤ i ∧ i < (l.length : Int))) ∧ UU ∧ ((l.flatMap Run.cs)[i.toNat * 2 + 1]? = some (vI r_.to)) ∧ UU ∧ UU ∧ ((UU ∧ some (pB (decide (r_.to > (4096 : Int)))) = some (pB false))) ∧ UU ∧ UU ∧ ((UU ∧ some (pB (decide (i > (0 : Int)))) = some (pB true))) ∧ UU ∧ UU ∧ ((0 ≤ i ∧ i < (l.length : Int))) ∧ UU ∧ ((l.flatMap Run.cs)[i.toNat * 2]? = some (vI r_.frm)) ∧ UU ∧ UU ∧ (InR .i64 (i - 1 : Int)) ∧ ((0 ≤ (i - 1 : Int) ∧ (i - 1 : Int) < (l.length : Int))) ∧ UU ∧ ((l.flatMap Run.cs)[(i - 1 : Int).toNat * 2 + 1]? = some (vI r_1.to)) ∧ UU ∧ UU ∧ UU ∧ UU) ∧ (UU ∧ UU)) (by kernel_rfl) ⟨⟨TT, TT, k2.2, TT, row_at Run.cs_len k2.1 (j := 0) (by omega) (by decide), TT, ⟨TT, by rw [k3]⟩, TT, TT, k2.2, TT, row_at Run.cs_len k2.1 (j := 0) (by omega) (by decide), TT, TT, k2.2, TT, row_at Run.cs_len k2.1 (j := 1) (by omega) (by decide), TT, TT, ⟨TT, by rw [k4]⟩, TT, TT, k2.2, TT, row_at Run.cs_len k2.1 (j := 1) (by omega) (by decide), TT, TT, ⟨TT, by rw [k5]⟩, TT, TT, ⟨TT, by rw [k6]⟩, TT, TT, k2.2, TT, row_at Run.cs_len k2.1 (j := 0) (by omega) (by decide), TT, TT, k7, k8.2, TT, row_at Run.cs_len k8.1 (j := 1) (by omega) (by decide), TT, TT, TT, TT⟩, ⟨TT, TT⟩⟩) ?_
                refine Done.mk ?_
                obtain rfl := Option.some.inj h
                exact ⟨rfl, by kernel_rfl⟩
              · refine awp_regionD Try_mixed (orcs := [(4, tV (pI r_.frm)), (6, tB false), (11, tV (pI r_.frm)), (16, tV (pI r_.to)), (19, tB false), (24, tV (pI r_.to)), (27, tB false), (30, tB false)]) (gs := [.keep [0, 3, 54] []]) (s' := ⟨[(0, .p (encL Run.cs l)), (3, pI i), (54, pB false)], []⟩) (by kernel_rfl) (holds_of ((UU ∧ UU ∧ ((0 ≤ i ∧ i < (l.length : Int))) ∧ UU ∧ ((l.flatMap Run.cs)[i.toNat * 2]? = some (vI r_.frm)) ∧ UU ∧ ((UU ∧ some (pB (decide (r_.frm < (-4096 : Int)))) = some (pB false))) ∧ UU ∧ UU ∧ ((0 ≤ i ∧ i < (l.length : Int))) ∧ UU ∧ ((l.flatMap Run.cs)[i.toNat * 2]? = some (vI r_.frm)) ∧ UU ∧ UU ∧ ((0 ≤ i ∧ i < (l.length : Int))) ∧ UU ∧ ((l.flatMap Run.cs)[i.toNat * 2 + 1]? = some (vI r_.to)) ∧ UU ∧ UU ∧ ((UU ∧ some (pB (decide (r_.frm ≥ r_.to))) = some (pB false))) ∧ UU ∧ UU ∧ ((0 ≤ i ∧ i < (l.length : Int))) ∧ UU ∧ ((l.flatMap Run.cs)[i.toNat * 2 + 1]? = some (vI r_.to)) ∧ UU ∧ UU ∧ ((UU ∧ some (pB (decide (r_.to > (4096 : Int)))) = some (pB false))) ∧ UU ∧ UU ∧ ((UU ∧ some (pB (decide (i > (0 : Int)))) = some (pB false))) ∧ UU ∧ UU ∧ UU) ∧ (UU ∧ UU)) (by kernel_rfl) ⟨⟨TT, TT, k2.2, TT, row_at Run.cs_len k2.1 (j := 0) (by omega) (by decide), TT, ⟨TT, by rw [k3]⟩, TT, TT, k2.2, TT, row_at Run.cs_len k2.1 (j := 0) (by omega) (by decide), TT, TT, k2.2, TT, row_at Run.cs_len k2.1 (j := 1) (by omega) (by decide), TT, TT, ⟨TT, by rw [k4]⟩, TT, TT, k2.2, TT, row_at Run.cs_len k2.1 (j := 1) (by omega) (by decide), TT, TT, ⟨TT, by rw [k5]⟩, TT, TT, ⟨TT, by rw [k6]⟩, TT, TT, TT⟩, ⟨TT, TT⟩⟩) ?_
                refine Done.mk ?_
                obtain rfl := Option.some.inj h
                exact ⟨rfl, by kernel_rfl⟩
      · have _ := hm
        refine Done.as (e := Exit.normal) (s := ⟨[(0, .p (encL Run.cs l)), (3, pI i), (54, pB t54)], []⟩) rfl (by kernel_rfl) ?_
        refine Done.mk (thenQ_n ?_)
        refine ifB_el h (fun k9 h => ?_) (fun k9 h => ?_)
        · refine awp_cond_t (b := t54) (by kernel_rfl) k9 ?_
          refine awp_seq ?_
          refine awp_regionD Try_mixed (orcs := []) (gs := [.keep [2] []]) (s' := ⟨[(2, pB false)], []⟩) (by kernel_rfl) (holds_of ((UU ∧ UU) ∧ (UU ∧ UU)) (by kernel_rfl) ⟨⟨TT, TT⟩, ⟨TT, TT⟩⟩) ?_
          refine Done.mk (thenQ_n ?_)
          refine doneRet ?_
          refine Done.mk (inB_r (thenQ_r ?_))
          obtain rfl := Option.some.inj h
          exact ⟨fun q => (by cases q), fun q => (by subst q; exact ⟨rfl, by kernel_rfl⟩)⟩
        · refine awp_cond_f (b := t54) (by kernel_rfl) k9 ?_
          refine doneSkip ?_
          refine Done.mk (inB_n (thenQ_n ?_))
          refine chk_el h (fun k10 h => ?_)
          refine awp_regionD Try_mixed (orcs := []) (gs := [.keep [0, 3] []]) (s' := ⟨[(0, .p (encL Run.cs l)), (3, pI (i + 1))], []⟩) (by kernel_rfl) (holds_of ((UU ∧ (InR .i64 (i + 1 : Int)) ∧ UU ∧ UU) ∧ (UU ∧ UU)) (by kernel_rfl) ⟨⟨TT, k10, TT, TT⟩, ⟨TT, TT⟩⟩) ?_
          refine Done.mk ?_
          obtain rfl := Option.some.inj h
          exact ⟨rfl, by kernel_rfl⟩
    · refine awp_cond_f (b := decide (i < (l.length : Int))) (by kernel_rfl) k1 ?_
      refine doneExit ?_
      refine Done.gh [.keep [0] [], .keep [0] []] (s' := ⟨[(0, .p (encL Run.cs l))], []⟩) (by kernel_rfl) (holds_of (UU ∧ UU ∧ UU) (by kernel_rfl) ⟨TT, TT, TT⟩) ?_
      refine Done.mk (thenQ_x ?_)
      obtain rfl := Option.some.inj h
      exact ⟨fun q => (by cases q), fun q => (by subst q; exact ⟨rfl, by kernel_rfl⟩)⟩
  · rcases o with _u | _u
    · refine Done.as (e := (Exit.exit 0)) (s := ⟨[(0, .p (encL Run.cs l))], []⟩) rfl (by kernel_rfl) ?_
      refine Done.mk (inB_hit (thenQ_n ?_))
      refine awp_seq ?_
      refine awp_regionD Try_mixed (orcs := []) (gs := [.keep [2] []]) (s' := ⟨[(2, pB (decide ((l.length : Int) > (0 : Int))))], []⟩) (by kernel_rfl) (holds_of ((UU ∧ UU ∧ UU ∧ UU ∧ UU) ∧ (UU ∧ UU)) (by kernel_rfl) ⟨⟨TT, TT, TT, TT, TT⟩, ⟨TT, TT⟩⟩) ?_
      refine Done.mk (thenQ_n ?_)
      refine doneRet ?_
      refine Done.mk ?_
      obtain rfl := Option.some.inj h
      exact ⟨Or.inr rfl, by kernel_rfl, by kernel_rfl⟩
    · refine Done.as (e := Exit.ret) (s := ⟨[(2, pB false)], []⟩) rfl (by kernel_rfl) ?_
      refine Done.mk (inB_r (thenQ_r ?_))
      obtain rfl := Option.some.inj h
      exact ⟨Or.inr rfl, by kernel_rfl, by kernel_rfl⟩
end
end Go.AM
end
section
namespace Go.AM
open Go Go.RowKit Go.Proofs
noncomputable section
def R18_Valid_j1 (r_1 : Row) (i : Int) (r_ : Region) : Option (Bool) :=
    ifB (decide (r_1.y < (-4096 : Int)))
    (some true)
    (ifB (decide (r_1.y ≥ (4096 : Int)))
      (some true)
      (ifB (decide (i > (0 : Int)))
        (chk (InR .i64 (i - 1 : Int))
          ((getI r_.rows (i - 1 : Int)).bind fun r_2 =>
          ifB (decide (r_1.y ≤ r_2.y))
          (some true)
          ((R18_fine r_1.runs).bind fun b =>
            some (!b))))
        ((R18_fine r_1.runs).bind fun b1 =>
          some (!b1))))
def R18_Valid_l2 (r_ : Region) (s : Int) : Option ((Int) ⊕ ((Unit) ⊕ (Unit))) :=
  match s with
  | i =>
    ifB (decide (i < (r_.rows.length : Int)))
    ((getI r_.rows i).bind fun r_1 =>
      (R18_Valid_j1 r_1 i r_).bind fun t48 =>
      ifB (t48)
      (some (.inr (.inr ())))
      (chk (InR .i64 (i + 1 : Int))
        (some (.inl (i + 1)))))
    (some (.inr (.inl ())))
noncomputable def R18_Valid (r_ : Region) : Option Bool :=
  (loopP (R18_Valid_l2 r_) 0).bind fun o => match o with
  | .inl _ => some true
  | .inr _ => some false
set_option maxRecDepth 100000 in
set_option maxHeartbeats 4000000 in
theorem R18_Valid_ok {r_ : Region} {r : Bool} (h : R18_Valid r_ = some r) : ASpec Try.prog 33 [.agg [.p (encL Row.cs r_.rows)]] [] (pB r) [] := by
  refine aspec_of Try.func33 (c := _) rfl (by kernel_rfl) (by rw [Try.ntmps33]; exact Nat.le_of_ble_eq_true rfl) ?_
  refine awp_seq ?_
  refine awp_regionD Try_mixed (orcs := []) (gs := [.keep [1] [1]]) (s' := ⟨[(1, .ptr 1 0)], [(1, .lit 24 [.p (encL Row.cs r_.rows)])]⟩) (by kernel_rfl) (holds_of ((UU ∧ UU ∧ UU) ∧ (UU ∧ UU)) (by kernel_rfl) ⟨⟨TT, TT, TT⟩, ⟨TT, TT⟩⟩) ?_
  refine Done.mk (thenQ_n ?_)
  refine awp_seq ?_
  refine awp_seq ?_
  refine awp_regionD Try_mixed (orcs := []) (gs := [.keep [1, 3] [1]]) (s' := ⟨[(1, .ptr 1 0), (3, pI 0)], [(1, .lit 24 [.p (encL Row.cs r_.rows)])]⟩) (by kernel_rfl) (holds_of ((UU ∧ UU) ∧ (UU ∧ UU)) (by kernel_rfl) ⟨⟨TT, TT⟩, ⟨TT, TT⟩⟩) ?_
  refine Done.mk (thenQ_n ?_)
  refine awp_block ?_
  refine bind_el h (fun o hm h => ?_)
  refine awp_gh [.keep [1, 3] [1], .keep [1, 3] [1]] (s' := ⟨[(1, .ptr 1 0), (3, pI 0)], [(1, .lit 24 [.p (encL Row.cs r_.rows)])]⟩) (by kernel_rfl) (holds_of (UU ∧ UU ∧ UU) (by kernel_rfl) ⟨TT, TT, TT⟩) ?_
  refine awp_tail (fun o => match o with | .inl _ => (Exit.exit 0) | .inr _ => Exit.ret) (fun o => match o with | .inl _ => ⟨[], []⟩ | .inr _ => ⟨[(2, pB false)], []⟩) hm (fun o h => ?_) ?_
  · refine awp_loop' (fun s => match s with | i => ⟨[(1, .ptr 1 0), (3, pI i)], [(1, .lit 24 [.p (encL Row.cs r_.rows)])]⟩) h (by kernel_rfl) (fun i out h => ?_)
    refine awp_seq ?_
    refine awp_seq ?_
    refine awp_regionD Try_mixed (orcs := []) (gs := [.keep [1, 3, 9] [1]]) (s' := ⟨[(1, .ptr 1 0), (3, pI i), (9, pB (decide (i < (r_.rows.length : Int))))], [(1, .lit 24 [.p (encL Row.cs r_.rows)])]⟩) (by kernel_rfl) (holds_of ((UU ∧ UU ∧ UU ∧ UU ∧ UU ∧ UU) ∧ (UU ∧ UU)) (by kernel_rfl) ⟨⟨TT, TT, TT, TT, TT, TT⟩, ⟨TT, TT⟩⟩) ?_
    refine Done.mk (thenQ_n ?_)
    refine ifB_el h (fun k1 h => ?_) (fun k1 h => ?_)
    · refine awp_cond_t (b := decide (i < (r_.rows.length : Int))) (by kernel_rfl) k1 ?_
      refine doneSkip ?_
      refine Done.mk (thenQ_n ?_)
      refine awp_seq ?_
      refine awp_block ?_
      refine awp_seq ?_
      refine bind_el h (fun r_1 k2 h => ?_)
      replace k2 := getI_el k2
      refine awp_regionD Try_mixed (orcs := [(5, tV (pI r_1.y))]) (gs := [.keep [1, 3, 4] [1]]) (s' := ⟨[(1, .ptr 1 0), (3, pI i), (4, pI r_1.y)], [(1, .lit 24 [.p (encL Row.cs r_.rows)])]⟩) (by kernel_rfl) (holds_of ((UU ∧ UU ∧ UU ∧ ((0 ≤ i ∧ i < (r_.rows.length : Int))) ∧ UU ∧ ((r_.rows.flatMap Row.cs)[i.toNat * 2]? = some (vI r_1.y)) ∧ UU ∧ UU) ∧ (UU ∧ UU)) (by kernel_rfl) ⟨⟨TT, TT, TT, k2.2, TT, row_at Row.cs_len k2.1 (j := 0) (by omega) (by decide), TT, TT⟩, ⟨TT, TT⟩⟩) ?_
      refine Done.mk (thenQ_n ?_)
      refine awp_seq ?_
      refine bind_el h (fun t48 hm h => ?_)
      refine awp_tail (fun _ => Exit.normal) (fun o => match o with | t48 => ⟨[(1, .ptr 1 0), (3, pI i), (48, pB t48)], [(1, .lit 24 [.p (encL Row.cs r_.rows)])]⟩) hm (fun o h => ?_) ?_
      · refine ifB_el h (fun k3 h => ?_) (fun k3 h => ?_)
        · refine awp_regionD Try_mixed (orcs := [(2, tB true)]) (gs := [.keep [1, 3, 48] [1]]) (s' := ⟨[(1, .ptr 1 0), (3, pI i), (48, pB true)], [(1, .lit 24 [.p (encL Row.cs r_.rows)])]⟩) (by kernel_rfl) (holds_of ((UU ∧ UU ∧ ((UU ∧ some (pB (decide (r_1.y < (-4096 : Int)))) = some (pB true))) ∧ UU ∧ UU ∧ UU ∧ UU ∧ UU ∧ UU) ∧ (UU ∧ UU)) (by kernel_rfl) ⟨⟨TT, TT, ⟨TT, by rw [k3]⟩, TT, TT, TT, TT, TT, TT⟩, ⟨TT, TT⟩⟩) ?_
          refine Done.mk ?_
          obtain rfl := Option.some.inj h
          exact ⟨rfl, by kernel_rfl⟩
        · refine ifB_el h (fun k4 h => ?_) (fun k4 h => ?_)
          · refine awp_regionD Try_mixed (orcs := [(2, tB false), (6, tB true)]) (gs := [.keep [1, 3, 48] [1]]) (s' := ⟨[(1, .ptr 1 0), (3, pI i), (48, pB true)], [(1, .lit 24 [.p (encL Row.cs r_.rows)])]⟩) (by kernel_rfl) (holds_of ((UU ∧ UU ∧ ((UU ∧ some (pB (decide (r_1.y < (-4096 : Int)))) = some (pB false))) ∧ UU ∧ UU ∧ UU ∧ ((UU ∧ some (pB (decide (r_1.y ≥ (4096 : Int)))) = some (pB true))) ∧ UU ∧ UU ∧ UU ∧ UU) ∧ (UU ∧ UU)) (by kernel_rfl) ⟨⟨TT, TT, ⟨TT, by rw [k3]⟩, TT, TT, TT, ⟨TT, by rw [k4]⟩, TT, TT, TT, TT⟩, ⟨TT, TT⟩⟩) ?_
            refine Done.mk ?_
            obtain rfl := Option.some.inj h
            exact ⟨rfl, by kernel_rfl⟩
          · refine ifB_el h (fun k5 h => ?_) (fun k5 h => ?_)
            · refine chk_el h (fun k6 h => ?_)
              refine bind_el h (fun r_2 k7 h => ?_)
              replace k7 := getI_el k7
              refine ifB_el h (fun k8 h => ?_) (fun k8 h => ?_)
              · refine awp_regionD Try_mixed (orcs := [(2, tB false), (6, tB false), (9, tB true), (17, tV (pI r_2.y)), (21, tB true)]) (gs := [.keep [1, 3, 48] [1]]) (s' := ⟨[(1, .ptr 1 0), (3, pI i), (48, pB true)], [(1, .lit 24 [.p (encL Row.cs r_.rows)])]⟩) (by kernel_rfl) (holds_of ((UU ∧ UU ∧ ((UU ∧ some (pB (decide (r_1.y < (-4096 : Int)))) = some (pB false))) ∧ UU ∧ UU ∧ UU ∧ ((UU ∧ some (pB (decide (r_1.y ≥ (4096 : Int)))) = some (pB false))) ∧ UU ∧ UU ∧ ((UU ∧ some (pB (decide (i > (0 : Int)))) = some (pB true))) ∧ UU ∧ UU ∧ UU ∧ UU ∧ (InR .i64 (i - 1 : Int)) ∧ ((0 ≤ (i - 1 : Int) ∧ (i - 1 : Int) < (r_.rows.length : Int))) ∧ UU ∧ ((r_.rows.flatMap Row.cs)[(i - 1 : Int).toNat * 2]? = some (vI r_2.y)) ∧ UU ∧ UU ∧ UU ∧ ((UU ∧ some (pB (decide (r_1.y ≤ r_2.y))) = some (pB true))) ∧ UU ∧ UU) ∧ (UU ∧ UU)) (by kernel_rfl) ⟨⟨TT, TT, ⟨TT, by rw [k3]⟩, TT, TT, TT, ⟨TT, by rw [k4]⟩, TT, TT, ⟨TT, by rw [k5]⟩, TT, TT, TT, TT, k6, k7.2, TT, row_at Row.cs_len k7.1 (j := 0) (by omega) (by decide), TT, TT, TT, ⟨TT, by rw [k8]⟩, TT, TT⟩, ⟨TT, TT⟩⟩) ?_
                refine Done.mk ?_
                obtain rfl := Option.some.inj h
                exact ⟨rfl, by kernel_rfl⟩
              · refine bind_el h (fun b k9 h => ?_)
                refine awp_regionD Try_mixed (orcs := [(2, tB false), (6, tB false), (9, tB true), (17, tV (pI r_2.y)), (21, tB false), (27, tV (.p (encL Run.cs r_1.runs))), (28, tV (pB b))]) (gs := [.keep [1, 3, 48] [1]]) (s' := ⟨[(1, .ptr 1 0), (3, pI i), (48, pB (!b))], [(1, .lit 24 [.p (encL Row.cs r_.rows)])]⟩) (by kernel_rfl) (holds_of ((UU ∧ UU ∧ ((UU ∧ some (pB (decide (r_1.y < (-4096 : Int)))) = some (pB false))) ∧ UU ∧ UU ∧ UU ∧ ((UU ∧ some (pB (decide (r_1.y ≥ (4096 : Int)))) = some (pB false))) ∧ UU ∧ UU ∧ ((UU ∧ some (pB (decide (i > (0 : Int)))) = some (pB true))) ∧ UU ∧ UU ∧ UU ∧ UU ∧ (InR .i64 (i - 1 : Int)) ∧ ((0 ≤ (i - 1 : Int) ∧ (i - 1 : Int) < (r_.rows.length : Int))) ∧ UU ∧ ((r_.rows.flatMap Row.cs)[(i - 1 : Int).toNat * 2]? = some (vI r_2.y)) ∧ UU ∧ UU ∧ UU ∧ ((UU ∧ some (pB (decide (r_1.y ≤ r_2.y))) = some (pB false))) ∧ UU ∧ UU ∧ UU ∧ ((0 ≤ i ∧ i < (r_.rows.length : Int))) ∧ UU ∧ ((r_.rows.flatMap Row.cs)[i.toNat * 2 + 1]? = some (encL Run.cs r_1.runs)) ∧ (ASpec Try.prog 54 [.p (encL Run.cs r_1.runs)] [] (pB b) []) ∧ UU ∧ UU ∧ UU) ∧ (UU ∧ UU)) (by kernel_rfl) ⟨⟨TT, TT, ⟨TT, by rw [k3]⟩, TT, TT, TT, ⟨TT, by rw [k4]⟩, TT, TT, ⟨TT, by rw [k5]⟩, TT, TT, TT, TT, k6, k7.2, TT, row_at Row.cs_len k7.1 (j := 0) (by omega) (by decide), TT, TT, TT, ⟨TT, by rw [k8]⟩, TT, TT, TT, k2.2, TT, row_at Row.cs_len k2.1 (j := 1) (by omega) (by decide), R18_fine_ok k9, TT, TT, TT⟩, ⟨TT, TT⟩⟩) ?_
                refine Done.mk ?_
                obtain rfl := Option.some.inj h
                exact ⟨rfl, by kernel_rfl⟩
            · refine bind_el h (fun b1 k10 h => ?_)
              refine awp_regionD Try_mixed (orcs := [(2, tB false), (6, tB false), (9, tB false), (27, tV (.p (encL Run.cs r_1.runs))), (28, tV (pB b1))]) (gs := [.keep [1, 3, 48] [1]]) (s' := ⟨[(1, .ptr 1 0), (3, pI i), (48, pB (!b1))], [(1, .lit 24 [.p (encL Row.cs r_.rows)])]⟩) (by kernel_rfl) (holds_of ((UU ∧ UU ∧ ((UU ∧ some (pB (decide (r_1.y < (-4096 : Int)))) = some (pB false))) ∧ UU ∧ UU ∧ UU ∧ ((UU ∧ some (pB (decide (r_1.y ≥ (4096 : Int)))) = some (pB false))) ∧ UU ∧ UU ∧ ((UU ∧ some (pB (decide (i > (0 : Int)))) = some (pB false))) ∧ UU ∧ UU ∧ UU ∧ UU ∧ UU ∧ UU ∧ ((0 ≤ i ∧ i < (r_.rows.length : Int))) ∧ UU ∧ ((r_.rows.flatMap Row.cs)[i.toNat * 2 + 1]? = some (encL Run.cs r_1.runs)) ∧ (ASpec Try.prog 54 [.p (encL Run.cs r_1.runs)] [] (pB b1) []) ∧ UU ∧ UU ∧ UU) ∧ (UU ∧ UU)) (by kernel_rfl) ⟨⟨TT, TT, ⟨TT, by rw [k3]⟩, TT, TT, TT, ⟨TT, by rw [k4]⟩, TT, TT, ⟨TT, by rw [k5]⟩, TT, TT, TT, TT, TT, TT, k2.2, TT, row_at Row.cs_len k2.1 (j := 1) (by omega) (by decide), R18_fine_ok k10, TT, TT, TT⟩, ⟨TT, TT⟩⟩) ?_
              refine Done.mk ?_
              obtain rfl := Option.some.inj h
              exact ⟨rfl, by kernel_rfl⟩
      · have _ := hm
        refine Done.as (e := Exit.normal) (s := ⟨[(1, .ptr 1 0), (3, pI i), (48, pB t48)], [(1, .lit 24 [.p (encL Row.cs r_.rows)])]⟩) rfl (by kernel_rfl) ?_
        refine Done.mk (thenQ_n ?_)
        refine ifB_el h (fun k11 h => ?_) (fun k11 h => ?_)
        · refine awp_cond_t (b := t48) (by kernel_rfl) k11 ?_
          refine awp_seq ?_
          refine awp_regionD Try_mixed (orcs := []) (gs := [.keep [2] []]) (s' := ⟨[(2, pB false)], []⟩) (by kernel_rfl) (holds_of ((UU ∧ UU) ∧ (UU ∧ UU)) (by kernel_rfl) ⟨⟨TT, TT⟩, ⟨TT, TT⟩⟩) ?_
          refine Done.mk (thenQ_n ?_)
          refine doneRet ?_
          refine Done.mk (inB_r (thenQ_r ?_))
          obtain rfl := Option.some.inj h
          exact ⟨fun q => (by cases q), fun q => (by subst q; exact ⟨rfl, by kernel_rfl⟩)⟩
        · refine awp_cond_f (b := t48) (by kernel_rfl) k11 ?_
          refine doneSkip ?_
          refine Done.mk (inB_n (thenQ_n ?_))
          refine chk_el h (fun k12 h => ?_)
          refine awp_regionD Try_mixed (orcs := []) (gs := [.keep [1, 3] [1]]) (s' := ⟨[(1, .ptr 1 0), (3, pI (i + 1))], [(1, .lit 24 [.p (encL Row.cs r_.rows)])]⟩) (by kernel_rfl) (holds_of ((UU ∧ (InR .i64 (i + 1 : Int)) ∧ UU ∧ UU) ∧ (UU ∧ UU)) (by kernel_rfl) ⟨⟨TT, k12, TT, TT⟩, ⟨TT, TT⟩⟩) ?_
          refine Done.mk ?_
          obtain rfl := Option.some.inj h
          exact ⟨rfl, by kernel_rfl⟩
    · refine awp_cond_f (b := decide (i < (r_.rows.length : Int))) (by kernel_rfl) k1 ?_
      refine doneExit ?_
      refine Done.gh [.keep [] [], .keep [] []] (s' := ⟨[], []⟩) (by kernel_rfl) (holds_of (UU ∧ UU ∧ UU) (by kernel_rfl) ⟨TT, TT, TT⟩) ?_
      refine Done.mk (thenQ_x ?_)
      obtain rfl := Option.some.inj h
      exact ⟨fun q => (by cases q), fun q => (by subst q; exact ⟨rfl, by kernel_rfl⟩)⟩
  · rcases o with _u | _u
    · refine Done.as (e := (Exit.exit 0)) (s := ⟨[], []⟩) rfl (by kernel_rfl) ?_
      refine Done.mk (inB_hit (thenQ_n ?_))
      refine awp_seq ?_
      refine awp_regionD Try_mixed (orcs := []) (gs := [.keep [2] []]) (s' := ⟨[(2, pB true)], []⟩) (by kernel_rfl) (holds_of ((UU ∧ UU) ∧ (UU ∧ UU)) (by kernel_rfl) ⟨⟨TT, TT⟩, ⟨TT, TT⟩⟩) ?_
      refine Done.mk (thenQ_n ?_)
      refine doneRet ?_
      refine Done.mk ?_
      obtain rfl := Option.some.inj h
      exact ⟨Or.inr rfl, by kernel_rfl, by kernel_rfl⟩
    · refine Done.as (e := Exit.ret) (s := ⟨[(2, pB false)], []⟩) rfl (by kernel_rfl) ?_
      refine Done.mk (inB_r (thenQ_r ?_))
      obtain rfl := Option.some.inj h
      exact ⟨Or.inr rfl, by kernel_rfl, by kernel_rfl⟩
end
end Go.AM
end
