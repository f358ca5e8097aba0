/- Models of functions, and that their calls do what the models say. Printed by gen.py. -/
import Derived.Test.YtijdlphadhpabaaProg
import Derived.Test.YtijdlphadhpabaaA3
import Derived.Test.YtijdlphadhpabaaA6
import Derived.Test.YtijdlphadhpabaaA1
import Derived.Test.YtijdlphadhpabaaA8
import Derived.Test.YtijdlphadhpabaaA5
import Derived.Test.YtijdlphadhpabaaA7
import Derived.Test.YtijdlphadhpabaaA2
import Derived.Test.YtijdlphadhpabaaA4
import Derived.Test.YtijdlphadhpabaaF1
import Derived.Test.YtijdlphadhpabaaF2
import Derived.Test.YtijdlphadhpabaaA9
section
namespace Go.AM
open Go Go.RowKit Go.Proofs
noncomputable section
set_option maxRecDepth 100000 in
set_option maxHeartbeats 4000000 in
theorem runs_sweep_ok {t0 : (List Run)} {t1 : (List Run)} {r : (List Run)} (h : runs_sweep t0 t1 = some r) : ASpec Try.prog 61 [.p (encL Run.cs t0), .p (encL Run.cs t1), .fn 62 [] []] [] (.p (encL Run.cs r)) [] := by
  refine aspec_of Try.func61 (c := _) rfl (by kernel_rfl) (by rw [Try.ntmps61]; exact Nat.le_of_ble_eq_true rfl) ?_
  refine awp_seq ?_
  refine awp_regionD Try_mixed (orcs := []) (gs := [.keep [0, 1, 2] []]) (s' := ⟨[(0, .p (encL Run.cs t0)), (1, .p (encL Run.cs t1)), (2, .fn 62 [] [])], []⟩) (by kernel_rfl) (holds_of ((UU ∧ UU) ∧ (UU ∧ UU)) (by kernel_rfl) ⟨⟨TT, TT⟩, ⟨TT, TT⟩⟩) ?_
  refine Done.mk (thenQ_n ?_)
  refine awp_seq ?_
  refine awp_seq ?_
  refine bind_el h (fun t20 hm h => ?_)
  refine awp_tail (fun _ => Exit.normal) (fun o => match o with | t20 => ⟨[(0, .p (encL Run.cs t0)), (1, .p (encL Run.cs t1)), (2, .fn 62 [] []), (20, pB t20)], []⟩) hm (fun o h => ?_) ?_
  · refine bind_el h (fun b k1 h => ?_)
    refine ifB_el h (fun k2 h => ?_) (fun k2 h => ?_)
    · refine awp_regionD Try_mixed (orcs := [(1, tV (pB b)), (3, tB true)]) (gs := [.keep [0, 1, 2, 20] []]) (s' := ⟨[(0, .p (encL Run.cs t0)), (1, .p (encL Run.cs t1)), (2, .fn 62 [] []), (20, pB true)], []⟩) (by kernel_rfl) (holds_of ((UU ∧ (ASpec Try.prog 43 [.p (encL Run.cs t0)] [] (pB b) []) ∧ UU ∧ ((UU ∧ some (pB (!b)) = some (pB true))) ∧ UU ∧ UU) ∧ (UU ∧ UU)) (by kernel_rfl) ⟨⟨TT, runs_Valid_ok k1, TT, ⟨TT, by rw [k2]⟩, TT, TT⟩, ⟨TT, TT⟩⟩) ?_
      refine Done.mk ?_
      obtain rfl := Option.some.inj h
      exact ⟨rfl, by kernel_rfl⟩
    · refine bind_el h (fun b1 k3 h => ?_)
      refine awp_regionD Try_mixed (orcs := [(1, tV (pB b)), (3, tB false), (5, tV (pB b1))]) (gs := [.keep [0, 1, 2, 20] []]) (s' := ⟨[(0, .p (encL Run.cs t0)), (1, .p (encL Run.cs t1)), (2, .fn 62 [] []), (20, pB (!b1))], []⟩) (by kernel_rfl) (holds_of ((UU ∧ (ASpec Try.prog 43 [.p (encL Run.cs t0)] [] (pB b) []) ∧ UU ∧ ((UU ∧ some (pB (!b)) = some (pB false))) ∧ UU ∧ (ASpec Try.prog 43 [.p (encL Run.cs t1)] [] (pB b1) []) ∧ UU ∧ UU ∧ UU) ∧ (UU ∧ UU)) (by kernel_rfl) ⟨⟨TT, runs_Valid_ok k1, TT, ⟨TT, by rw [k2]⟩, TT, runs_Valid_ok k3, TT, TT, TT⟩, ⟨TT, TT⟩⟩) ?_
      refine Done.mk ?_
      obtain rfl := Option.some.inj h
      exact ⟨rfl, by kernel_rfl⟩
  · have _ := hm
    refine Done.as (e := Exit.normal) (s := ⟨[(0, .p (encL Run.cs t0)), (1, .p (encL Run.cs t1)), (2, .fn 62 [] []), (20, pB t20)], []⟩) rfl (by kernel_rfl) ?_
    refine Done.mk (thenQ_n ?_)
    refine ifB_el h (fun k4 h => ?_) (fun k4 h => ?_)
    · refine awp_cond_t (b := t20) (by kernel_rfl) k4 ?_
      refine awp_seq ?_
      refine awp_regionD Try_mixed (orcs := []) (gs := [.keep [6] []]) (s' := ⟨[(6, .nils)], []⟩) (by kernel_rfl) (holds_of ((UU ∧ UU) ∧ (UU ∧ UU)) (by kernel_rfl) ⟨⟨TT, TT⟩, ⟨TT, TT⟩⟩) ?_
      refine Done.mk (thenQ_n ?_)
      refine doneRet ?_
      refine Done.gh [.pureT 6, .keep [6] []] (s' := ⟨[(6, .p (.sl [] 0))], []⟩) (by kernel_rfl) (holds_of (UU ∧ UU ∧ UU) (by kernel_rfl) ⟨TT, TT, TT⟩) ?_
      refine Done.mk (thenQ_r ?_)
      obtain rfl := Option.some.inj h
      exact ⟨Or.inr rfl, by kernel_rfl, by kernel_rfl⟩
    · refine awp_cond_f (b := t20) (by kernel_rfl) k4 ?_
      refine doneSkip ?_
      refine Done.mk (thenQ_n ?_)
      refine awp_seq ?_
      refine awp_regionD Try_mixed (orcs := []) (gs := [.keep [2, 7, 8] [23, 26]]) (s' := ⟨[(2, .fn 62 [] []), (7, .ptr 23 0), (8, .ptr 26 0)], [(23, .lit 125 [.p (encL Run.cs t0), pI 0]), (26, .lit 125 [.p (encL Run.cs t1), pI 0])]⟩) (by kernel_rfl) (holds_of ((UU ∧ UU ∧ UU ∧ UU ∧ UU ∧ UU ∧ UU ∧ UU ∧ UU) ∧ (UU ∧ UU)) (by kernel_rfl) ⟨⟨TT, TT, TT, TT, TT, TT, TT, TT, TT⟩, ⟨TT, TT⟩⟩) ?_
      refine Done.mk (thenQ_n ?_)
      refine awp_seq ?_
      refine awp_regionD Try_mixed (orcs := []) (gs := [.keep [2, 7, 8, 9] [23, 26]]) (s' := ⟨[(2, .fn 62 [] []), (7, .ptr 23 0), (8, .ptr 26 0), (9, .nils)], [(23, .lit 125 [.p (encL Run.cs t0), pI 0]), (26, .lit 125 [.p (encL Run.cs t1), pI 0])]⟩) (by kernel_rfl) (holds_of ((UU ∧ UU) ∧ (UU ∧ UU)) (by kernel_rfl) ⟨⟨TT, TT⟩, ⟨TT, TT⟩⟩) ?_
      refine Done.mk (thenQ_n ?_)
      refine awp_seq ?_
      refine awp_regionD Try_mixed (orcs := []) (gs := [.keep [2, 7, 8, 9, 10] [23, 26]]) (s' := ⟨[(2, .fn 62 [] []), (7, .ptr 23 0), (8, .ptr 26 0), (9, .nils), (10, pB false)], [(23, .lit 125 [.p (encL Run.cs t0), pI 0]), (26, .lit 125 [.p (encL Run.cs t1), pI 0])]⟩) (by kernel_rfl) (holds_of ((UU ∧ UU) ∧ (UU ∧ UU)) (by kernel_rfl) ⟨⟨TT, TT⟩, ⟨TT, TT⟩⟩) ?_
      refine Done.mk (thenQ_n ?_)
      refine awp_seq ?_
      refine awp_block ?_
      refine bind_el h (fun t92 hm h => ?_)
      refine awp_gh [.keep [2, 7, 8, 9, 10] [23, 26], .opn 9 5002 57 2, .keep [2, 7, 8, 9, 10] [23, 26, 5002]] (s' := ⟨[(2, .fn 62 [] []), (7, .ptr 23 0), (8, .ptr 26 0), (9, .own 5002 0 (([] : List Run)).length 2), (10, pB false)], [(23, .lit 125 [.p (encL Run.cs t0), pI 0]), (26, .lit 125 [.p (encL Run.cs t1), pI 0]), (5002, .row 57 ((([] : List Run)).flatMap Run.cs))]⟩) (by kernel_rfl) (holds_of (UU ∧ UU ∧ UU ∧ UU) (by kernel_rfl) ⟨TT, TT, TT, TT⟩) ?_
      refine awp_tail (fun _ => (Exit.exit 0)) (fun o => match o with | t92 => ⟨[(9, .own 5002 0 t92.length 2)], [(5002, .row 57 (t92.flatMap Run.cs))]⟩) hm (fun o h => ?_) ?_
      · refine awp_loop' (fun s => match s with | (t91, t10, t23At, t26At) => ⟨[(2, .fn 62 [] []), (7, .ptr 23 0), (8, .ptr 26 0), (9, .own 5002 0 t91.length 2), (10, pB t10)], [(23, .lit 125 [.p (encL Run.cs t0), pI t23At]), (26, .lit 125 [.p (encL Run.cs t1), pI t26At]), (5002, .row 57 (t91.flatMap Run.cs))]⟩) h (by kernel_rfl) (fun s out h => ?_)
        obtain ⟨t91, t10, t23At, t26At⟩ := s
        refine awp_seq ?_
        refine awp_seq ?_
        refine bind_el h (fun t34 hm h => ?_)
        refine awp_tail (fun _ => Exit.normal) (fun o => match o with | t34 => ⟨[(2, .fn 62 [] []), (7, .ptr 23 0), (8, .ptr 26 0), (9, .own 5002 0 t91.length 2), (10, pB t10), (34, pB t34)], [(23, .lit 125 [.p (encL Run.cs t0), pI t23At]), (26, .lit 125 [.p (encL Run.cs t1), pI t26At]), (5002, .row 57 (t91.flatMap Run.cs))]⟩) hm (fun o h => ?_) ?_
        · refine bind_el h (fun b2 k5 h => ?_)
          refine ifB_el h (fun k6 h => ?_) (fun k6 h => ?_)
          · refine awp_regionD Try_mixed (orcs := [(1, { r := some (pB b2), fp := [23], post := [(23, .lit 125 [.p (encL Run.cs t0), pI t23At])] }), (3, tB true)]) (gs := [.keep [2, 7, 8, 9, 10, 34] [23, 26, 5002]]) (s' := ⟨[(2, .fn 62 [] []), (7, .ptr 23 0), (8, .ptr 26 0), (9, .own 5002 0 t91.length 2), (10, pB t10), (34, pB true)], [(23, .lit 125 [.p (encL Run.cs t0), pI t23At]), (26, .lit 125 [.p (encL Run.cs t1), pI t26At]), (5002, .row 57 (t91.flatMap Run.cs))]⟩) (by kernel_rfl) (holds_of ((UU ∧ (ASpec Try.prog 78 [.ptr 23 0] [(23, .lit 125 [.p (encL Run.cs t0), pI t23At])] (pB b2) [(23, .lit 125 [.p (encL Run.cs t0), pI t23At])]) ∧ UU ∧ ((UU ∧ some (pB (!b2)) = some (pB true))) ∧ UU ∧ UU) ∧ (UU ∧ UU)) (by kernel_rfl) ⟨⟨TT, aspec_at (runs_bounds_over_ok k5) 0 23 (by kernel_rfl), TT, ⟨TT, by rw [k6]⟩, TT, TT⟩, ⟨TT, TT⟩⟩) ?_
            refine Done.mk ?_
            obtain rfl := Option.some.inj h
            exact ⟨rfl, by kernel_rfl⟩
          · refine bind_el h (fun b3 k7 h => ?_)
            refine awp_regionD Try_mixed (orcs := [(1, { r := some (pB b2), fp := [23], post := [(23, .lit 125 [.p (encL Run.cs t0), pI t23At])] }), (3, tB false), (5, { r := some (pB b3), fp := [26], post := [(26, .lit 125 [.p (encL Run.cs t1), pI t26At])] })]) (gs := [.keep [2, 7, 8, 9, 10, 34] [23, 26, 5002]]) (s' := ⟨[(2, .fn 62 [] []), (7, .ptr 23 0), (8, .ptr 26 0), (9, .own 5002 0 t91.length 2), (10, pB t10), (34, pB (!b3))], [(23, .lit 125 [.p (encL Run.cs t0), pI t23At]), (26, .lit 125 [.p (encL Run.cs t1), pI t26At]), (5002, .row 57 (t91.flatMap Run.cs))]⟩) (by kernel_rfl) (holds_of ((UU ∧ (ASpec Try.prog 78 [.ptr 23 0] [(23, .lit 125 [.p (encL Run.cs t0), pI t23At])] (pB b2) [(23, .lit 125 [.p (encL Run.cs t0), pI t23At])]) ∧ UU ∧ ((UU ∧ some (pB (!b2)) = some (pB false))) ∧ UU ∧ (ASpec Try.prog 78 [.ptr 26 0] [(26, .lit 125 [.p (encL Run.cs t1), pI t26At])] (pB b3) [(26, .lit 125 [.p (encL Run.cs t1), pI t26At])]) ∧ UU ∧ UU ∧ UU) ∧ (UU ∧ UU)) (by kernel_rfl) ⟨⟨TT, aspec_at (runs_bounds_over_ok k5) 0 23 (by kernel_rfl), TT, ⟨TT, by rw [k6]⟩, TT, aspec_at (runs_bounds_over_ok k7) 0 26 (by kernel_rfl), TT, TT, TT⟩, ⟨TT, TT⟩⟩) ?_
            refine Done.mk ?_
            obtain rfl := Option.some.inj h
            exact ⟨rfl, by kernel_rfl⟩
        · have _ := hm
          refine Done.as (e := Exit.normal) (s := ⟨[(2, .fn 62 [] []), (7, .ptr 23 0), (8, .ptr 26 0), (9, .own 5002 0 t91.length 2), (10, pB t10), (34, pB t34)], [(23, .lit 125 [.p (encL Run.cs t0), pI t23At]), (26, .lit 125 [.p (encL Run.cs t1), pI t26At]), (5002, .row 57 (t91.flatMap Run.cs))]⟩) rfl (by kernel_rfl) ?_
          refine Done.mk (thenQ_n ?_)
          refine ifB_el h (fun k8 h => ?_) (fun k8 h => ?_)
          · refine awp_cond_t (b := t34) (by kernel_rfl) k8 ?_
            refine doneSkip ?_
            refine Done.mk (thenQ_n ?_)
            refine awp_block ?_
            refine awp_seq ?_
            refine bind_el h (fun n k9 h => ?_)
            refine bind_el h (fun n1 k10 h => ?_)
            refine awp_regionD Try_mixed (orcs := [(1, { r := some (pI n), fp := [23], post := [(23, .lit 125 [.p (encL Run.cs t0), pI t23At])] }), (3, { r := some (pI n1), fp := [26], post := [(26, .lit 125 [.p (encL Run.cs t1), pI t26At])] })]) (gs := [.keep [2, 7, 8, 9, 10, 11] [23, 26, 5002]]) (s' := ⟨[(2, .fn 62 [] []), (7, .ptr 23 0), (8, .ptr 26 0), (9, .own 5002 0 t91.length 2), (10, pB t10), (11, pI (min n n1))], [(23, .lit 125 [.p (encL Run.cs t0), pI t23At]), (26, .lit 125 [.p (encL Run.cs t1), pI t26At]), (5002, .row 57 (t91.flatMap Run.cs))]⟩) (by kernel_rfl) (holds_of ((UU ∧ (ASpec Try.prog 79 [.ptr 23 0] [(23, .lit 125 [.p (encL Run.cs t0), pI t23At])] (pI n) [(23, .lit 125 [.p (encL Run.cs t0), pI t23At])]) ∧ UU ∧ (ASpec Try.prog 79 [.ptr 26 0] [(26, .lit 125 [.p (encL Run.cs t1), pI t26At])] (pI n1) [(26, .lit 125 [.p (encL Run.cs t1), pI t26At])]) ∧ UU ∧ UU ∧ UU) ∧ (UU ∧ UU)) (by kernel_rfl) ⟨⟨TT, aspec_at (runs_bounds_next_ok k9) 0 23 (by kernel_rfl), TT, aspec_at (runs_bounds_next_ok k10) 0 26 (by kernel_rfl), TT, TT, TT⟩, ⟨TT, TT⟩⟩) ?_
            refine Done.mk (thenQ_n ?_)
            refine awp_seq ?_
            refine bind_el h (fun n2 k11 h => ?_)
            refine awp_regionD Try_mixed (orcs := [(2, { r := some (.tup []), fp := [23], post := [(23, .lit 125 [.p (encL Run.cs t0), pI n2])] })]) (gs := [.keep [2, 7, 8, 9, 10, 11] [23, 26, 5002]]) (s' := ⟨[(2, .fn 62 [] []), (7, .ptr 23 0), (8, .ptr 26 0), (9, .own 5002 0 t91.length 2), (10, pB t10), (11, pI (min n n1))], [(23, .lit 125 [.p (encL Run.cs t0), pI n2]), (26, .lit 125 [.p (encL Run.cs t1), pI t26At]), (5002, .row 57 (t91.flatMap Run.cs))]⟩) (by kernel_rfl) (holds_of ((UU ∧ UU ∧ (ASpec Try.prog 80 [.ptr 23 0, pI (min n n1)] [(23, .lit 125 [.p (encL Run.cs t0), pI t23At])] (.tup []) [(23, .lit 125 [.p (encL Run.cs t0), pI n2])]) ∧ UU) ∧ (UU ∧ UU)) (by kernel_rfl) ⟨⟨TT, TT, aspec_at (runs_bounds_pass_ok k11) 0 23 (by kernel_rfl), TT⟩, ⟨TT, TT⟩⟩) ?_
            refine Done.mk (thenQ_n ?_)
            refine awp_seq ?_
            refine bind_el h (fun n3 k12 h => ?_)
            refine awp_regionD Try_mixed (orcs := [(2, { r := some (.tup []), fp := [26], post := [(26, .lit 125 [.p (encL Run.cs t1), pI n3])] })]) (gs := [.keep [2, 7, 8, 9, 10, 11] [23, 26, 5002]]) (s' := ⟨[(2, .fn 62 [] []), (7, .ptr 23 0), (8, .ptr 26 0), (9, .own 5002 0 t91.length 2), (10, pB t10), (11, pI (min n n1))], [(23, .lit 125 [.p (encL Run.cs t0), pI n2]), (26, .lit 125 [.p (encL Run.cs t1), pI n3]), (5002, .row 57 (t91.flatMap Run.cs))]⟩) (by kernel_rfl) (holds_of ((UU ∧ UU ∧ (ASpec Try.prog 80 [.ptr 26 0, pI (min n n1)] [(26, .lit 125 [.p (encL Run.cs t1), pI t26At])] (.tup []) [(26, .lit 125 [.p (encL Run.cs t1), pI n3])]) ∧ UU) ∧ (UU ∧ UU)) (by kernel_rfl) ⟨⟨TT, TT, aspec_at (runs_bounds_pass_ok k12) 0 26 (by kernel_rfl), TT⟩, ⟨TT, TT⟩⟩) ?_
            refine Done.mk (thenQ_n ?_)
            refine awp_seq ?_
            refine bind_el h (fun b4 k13 h => ?_)
            refine bind_el h (fun b5 k14 h => ?_)
            refine bind_el h (fun b6 k15 h => ?_)
            refine awp_regionD Try_mixed (orcs := [(2, { r := some (pB b4), fp := [23], post := [(23, .lit 125 [.p (encL Run.cs t0), pI n2])] }), (4, { r := some (pB b5), fp := [26], post := [(26, .lit 125 [.p (encL Run.cs t1), pI n3])] }), (5, tV (pB b6))]) (gs := [.keep [2, 7, 8, 9, 10, 11, 12] [23, 26, 5002]]) (s' := ⟨[(2, .fn 62 [] []), (7, .ptr 23 0), (8, .ptr 26 0), (9, .own 5002 0 t91.length 2), (10, pB t10), (11, pI (min n n1)), (12, pB b6)], [(23, .lit 125 [.p (encL Run.cs t0), pI n2]), (26, .lit 125 [.p (encL Run.cs t1), pI n3]), (5002, .row 57 (t91.flatMap Run.cs))]⟩) (by kernel_rfl) (holds_of ((UU ∧ UU ∧ (ASpec Try.prog 81 [.ptr 23 0] [(23, .lit 125 [.p (encL Run.cs t0), pI n2])] (pB b4) [(23, .lit 125 [.p (encL Run.cs t0), pI n2])]) ∧ UU ∧ (ASpec Try.prog 81 [.ptr 26 0] [(26, .lit 125 [.p (encL Run.cs t1), pI n3])] (pB b5) [(26, .lit 125 [.p (encL Run.cs t1), pI n3])]) ∧ (ASpec Try.prog 62 [pB b4, pB b5] [] (pB b6) []) ∧ UU ∧ UU) ∧ (UU ∧ UU)) (by kernel_rfl) ⟨⟨TT, TT, aspec_at (runs_bounds_inside_ok k13) 0 23 (by kernel_rfl), TT, aspec_at (runs_bounds_inside_ok k14) 0 26 (by kernel_rfl), runs_Subtract_1_ok k15, TT, TT⟩, ⟨TT, TT⟩⟩) ?_
            refine Done.mk (thenQ_n ?_)
            refine awp_seq ?_
            refine bind_el h (fun t9 hm h => ?_)
            refine awp_tail (fun _ => Exit.normal) (fun o => match o with | t9 => ⟨[(2, .fn 62 [] []), (7, .ptr 23 0), (8, .ptr 26 0), (9, .own 5003 0 t9.length 2), (12, pB b6)], [(23, .lit 125 [.p (encL Run.cs t0), pI n2]), (26, .lit 125 [.p (encL Run.cs t1), pI n3]), (5003, .row 57 (t9.flatMap Run.cs))]⟩) hm (fun o h => ?_) ?_
            · refine awp_block ?_
              refine awp_seq ?_
              refine bind_el h (fun t52 hm h => ?_)
              refine awp_tail (fun _ => Exit.normal) (fun o => match o with | t52 => ⟨[(2, .fn 62 [] []), (7, .ptr 23 0), (8, .ptr 26 0), (9, .own 5002 0 t91.length 2), (10, pB t10), (11, pI (min n n1)), (12, pB b6), (52, pB t52)], [(23, .lit 125 [.p (encL Run.cs t0), pI n2]), (26, .lit 125 [.p (encL Run.cs t1), pI n3]), (5002, .row 57 (t91.flatMap Run.cs))]⟩) hm (fun o h => ?_) ?_
              · refine ifB_el h (fun k16 h => ?_) (fun k16 h => ?_)
                · refine awp_regionD Try_mixed (orcs := [(1, tB true)]) (gs := [.keep [2, 7, 8, 9, 10, 11, 12, 52] [23, 26, 5002]]) (s' := ⟨[(2, .fn 62 [] []), (7, .ptr 23 0), (8, .ptr 26 0), (9, .own 5002 0 t91.length 2), (10, pB t10), (11, pI (min n n1)), (12, pB b6), (52, pB (!t10))], [(23, .lit 125 [.p (encL Run.cs t0), pI n2]), (26, .lit 125 [.p (encL Run.cs t1), pI n3]), (5002, .row 57 (t91.flatMap Run.cs))]⟩) (by kernel_rfl) (holds_of ((UU ∧ ((UU ∧ some (pB b6) = some (pB true))) ∧ UU ∧ UU ∧ UU ∧ UU ∧ UU) ∧ (UU ∧ UU)) (by kernel_rfl) ⟨⟨TT, ⟨TT, by rw [k16]⟩, TT, TT, TT, TT, TT⟩, ⟨TT, TT⟩⟩) ?_
                  refine Done.mk ?_
                  obtain rfl := Option.some.inj h
                  exact ⟨rfl, by kernel_rfl⟩
                · refine awp_regionD Try_mixed (orcs := [(1, tB false)]) (gs := [.keep [2, 7, 8, 9, 10, 11, 12, 52] [23, 26, 5002]]) (s' := ⟨[(2, .fn 62 [] []), (7, .ptr 23 0), (8, .ptr 26 0), (9, .own 5002 0 t91.length 2), (10, pB t10), (11, pI (min n n1)), (12, pB b6), (52, pB false)], [(23, .lit 125 [.p (encL Run.cs t0), pI n2]), (26, .lit 125 [.p (encL Run.cs t1), pI n3]), (5002, .row 57 (t91.flatMap Run.cs))]⟩) (by kernel_rfl) (holds_of ((UU ∧ ((UU ∧ some (pB b6) = some (pB false))) ∧ UU ∧ UU ∧ UU) ∧ (UU ∧ UU)) (by kernel_rfl) ⟨⟨TT, ⟨TT, by rw [k16]⟩, TT, TT, TT⟩, ⟨TT, TT⟩⟩) ?_
                  refine Done.mk ?_
                  obtain rfl := Option.some.inj h
                  exact ⟨rfl, by kernel_rfl⟩
              · have _ := hm
                refine Done.as (e := Exit.normal) (s := ⟨[(2, .fn 62 [] []), (7, .ptr 23 0), (8, .ptr 26 0), (9, .own 5002 0 t91.length 2), (10, pB t10), (11, pI (min n n1)), (12, pB b6), (52, pB t52)], [(23, .lit 125 [.p (encL Run.cs t0), pI n2]), (26, .lit 125 [.p (encL Run.cs t1), pI n3]), (5002, .row 57 (t91.flatMap Run.cs))]⟩) rfl (by kernel_rfl) ?_
                refine Done.mk (thenQ_n ?_)
                refine ifB_el h (fun k17 h => ?_) (fun k17 h => ?_)
                · refine awp_cond_t (b := t52) (by kernel_rfl) k17 ?_
                  refine chk_el h (fun k18 h => ?_)
                  refine awp_regionD Try_mixed (orcs := [(4, tV (.own 62 0 (t91 ++ ([Run.mk (min n n1) 0])).length 2))]) (gs := [.castB 62 (.row 57 ((t91 ++ ([Run.mk (min n n1) 0])).flatMap Run.cs)), .keep [2, 7, 8, 9, 12] [23, 26, 62]]) (s' := ⟨[(2, .fn 62 [] []), (7, .ptr 23 0), (8, .ptr 26 0), (9, .own 62 0 (t91 ++ ([Run.mk (min n n1) 0])).length 2), (12, pB b6)], [(23, .lit 125 [.p (encL Run.cs t0), pI n2]), (26, .lit 125 [.p (encL Run.cs t1), pI n3]), (62, .row 57 ((t91 ++ ([Run.mk (min n n1) 0])).flatMap Run.cs))]⟩) (by kernel_rfl) (holds_of ((UU ∧ UU ∧ UU ∧ UU ∧ ((((t91.flatMap Run.cs).length = t91.length * 2 ∧ (([Run.mk (min n n1) 0]).flatMap Run.cs).length = ([Run.mk (min n n1) 0]).length * 2 ∧ (t91.length + ([Run.mk (min n n1) 0]).length) * 16 ≤ 140737488355328 ∧ t91.length + ([Run.mk (min n n1) 0]).length ≤ 9223372036854775807) ∧ some (AV.own 62 0 (t91.length + ([Run.mk (min n n1) 0]).length) 2) = some (AV.own 62 0 (t91 ++ ([Run.mk (min n n1) 0])).length 2))) ∧ UU ∧ UU) ∧ ((some (ABlk.row 57 (t91.flatMap Run.cs ++ ([Run.mk (min n n1) 0]).flatMap Run.cs)) = some (ABlk.row 57 ((t91 ++ ([Run.mk (min n n1) 0])).flatMap Run.cs))) ∧ UU ∧ UU)) (by kernel_rfl) ⟨⟨TT, TT, TT, TT, ⟨⟨flat_len Run.cs_len _, flat_len Run.cs_len _, by omega, by omega⟩, app_len _ _ _ _⟩, TT, TT⟩, ⟨(app_row Run.cs _ _ _), TT, TT⟩⟩) ?_
                  refine Done.gh [.keep [2, 7, 8, 9, 12] [23, 26, 62], .ren 62 5003, .keep [2, 7, 8, 9, 12] [23, 26, 5003]] (s' := ⟨[(2, .fn 62 [] []), (7, .ptr 23 0), (8, .ptr 26 0), (9, .own 5003 0 (t91 ++ ([Run.mk (min n n1) 0])).length 2), (12, pB b6)], [(23, .lit 125 [.p (encL Run.cs t0), pI n2]), (26, .lit 125 [.p (encL Run.cs t1), pI n3]), (5003, .row 57 ((t91 ++ ([Run.mk (min n n1) 0])).flatMap Run.cs))]⟩) (by kernel_rfl) (holds_of (UU ∧ UU ∧ UU ∧ UU) (by kernel_rfl) ⟨TT, TT, TT, TT⟩) ?_
                  refine Done.mk (inB_n ?_)
                  obtain rfl := Option.some.inj h
                  exact ⟨rfl, by kernel_rfl⟩
                · refine awp_cond_f (b := t52) (by kernel_rfl) k17 ?_
                  refine awp_seq ?_
                  refine bind_el h (fun t63 hm h => ?_)
                  refine awp_tail (fun _ => Exit.normal) (fun o => match o with | t63 => ⟨[(2, .fn 62 [] []), (7, .ptr 23 0), (8, .ptr 26 0), (9, .own 5002 0 t91.length 2), (11, pI (min n n1)), (12, pB b6), (63, pB t63)], [(23, .lit 125 [.p (encL Run.cs t0), pI n2]), (26, .lit 125 [.p (encL Run.cs t1), pI n3]), (5002, .row 57 (t91.flatMap Run.cs))]⟩) hm (fun o h => ?_) ?_
                  · refine ifB_el h (fun k19 h => ?_) (fun k19 h => ?_)
                    · refine awp_regionD Try_mixed (orcs := [(2, tB true)]) (gs := [.keep [2, 7, 8, 9, 11, 12, 63] [23, 26, 5002]]) (s' := ⟨[(2, .fn 62 [] []), (7, .ptr 23 0), (8, .ptr 26 0), (9, .own 5002 0 t91.length 2), (11, pI (min n n1)), (12, pB b6), (63, pB t10)], [(23, .lit 125 [.p (encL Run.cs t0), pI n2]), (26, .lit 125 [.p (encL Run.cs t1), pI n3]), (5002, .row 57 (t91.flatMap Run.cs))]⟩) (by kernel_rfl) (holds_of ((UU ∧ UU ∧ ((UU ∧ some (pB (!b6)) = some (pB true))) ∧ UU ∧ UU ∧ UU ∧ UU) ∧ (UU ∧ UU)) (by kernel_rfl) ⟨⟨TT, TT, ⟨TT, by rw [k19]⟩, TT, TT, TT, TT⟩, ⟨TT, TT⟩⟩) ?_
                      refine Done.mk ?_
                      obtain rfl := Option.some.inj h
                      exact ⟨rfl, by kernel_rfl⟩
                    · refine awp_regionD Try_mixed (orcs := [(2, tB false)]) (gs := [.keep [2, 7, 8, 9, 11, 12, 63] [23, 26, 5002]]) (s' := ⟨[(2, .fn 62 [] []), (7, .ptr 23 0), (8, .ptr 26 0), (9, .own 5002 0 t91.length 2), (11, pI (min n n1)), (12, pB b6), (63, pB false)], [(23, .lit 125 [.p (encL Run.cs t0), pI n2]), (26, .lit 125 [.p (encL Run.cs t1), pI n3]), (5002, .row 57 (t91.flatMap Run.cs))]⟩) (by kernel_rfl) (holds_of ((UU ∧ UU ∧ ((UU ∧ some (pB (!b6)) = some (pB false))) ∧ UU ∧ UU ∧ UU) ∧ (UU ∧ UU)) (by kernel_rfl) ⟨⟨TT, TT, ⟨TT, by rw [k19]⟩, TT, TT, TT⟩, ⟨TT, TT⟩⟩) ?_
                      refine Done.mk ?_
                      obtain rfl := Option.some.inj h
                      exact ⟨rfl, by kernel_rfl⟩
                  · have _ := hm
                    refine Done.as (e := Exit.normal) (s := ⟨[(2, .fn 62 [] []), (7, .ptr 23 0), (8, .ptr 26 0), (9, .own 5002 0 t91.length 2), (11, pI (min n n1)), (12, pB b6), (63, pB t63)], [(23, .lit 125 [.p (encL Run.cs t0), pI n2]), (26, .lit 125 [.p (encL Run.cs t1), pI n3]), (5002, .row 57 (t91.flatMap Run.cs))]⟩) rfl (by kernel_rfl) ?_
                    refine Done.mk (thenQ_n ?_)
                    refine ifB_el h (fun k20 h => ?_) (fun k20 h => ?_)
                    · refine awp_cond_t (b := t63) (by kernel_rfl) k20 ?_
                      refine chk_el h (fun k21 h => ?_)
                      refine bind_el h (fun r_ k22 h => ?_)
                      replace k22 := getI_el k22
                      refine awp_regionD Try_mixed (orcs := []) (gs := [.castB 5002 (.row 57 ((t91.set (((t91.length : Int)) - 1 : Int).toNat (Run.mk r_.frm (min n n1))).flatMap Run.cs)), .castT 9 (.own 5002 0 (t91.set (((t91.length : Int)) - 1 : Int).toNat (Run.mk r_.frm (min n n1))).length 2), .keep [2, 7, 8, 9, 12] [23, 26, 5002]]) (s' := ⟨[(2, .fn 62 [] []), (7, .ptr 23 0), (8, .ptr 26 0), (9, .own 5002 0 (t91.set (((t91.length : Int)) - 1 : Int).toNat (Run.mk r_.frm (min n n1))).length 2), (12, pB b6)], [(23, .lit 125 [.p (encL Run.cs t0), pI n2]), (26, .lit 125 [.p (encL Run.cs t1), pI n3]), (5002, .row 57 ((t91.set (((t91.length : Int)) - 1 : Int).toNat (Run.mk r_.frm (min n n1))).flatMap Run.cs))]⟩) (by kernel_rfl) (holds_of ((UU ∧ UU ∧ UU ∧ (InR .i64 (((t91.length : Int)) - 1 : Int)) ∧ UU ∧ ((0 ≤ (((t91.length : Int)) - 1 : Int) ∧ (((t91.length : Int)) - 1 : Int) < (t91.length : Int))) ∧ UU ∧ (0 + (((t91.length : Int)) - 1 : Int).toNat * 2 + 1 + 1 ≤ (t91.flatMap Run.cs).length) ∧ UU) ∧ ((some (ABlk.row 57 (setL (t91.flatMap Run.cs) (0 + (((t91.length : Int)) - 1 : Int).toNat * 2 + 1) [vI (min n n1)])) = some (ABlk.row 57 ((t91.set (((t91.length : Int)) - 1 : Int).toNat (Run.mk r_.frm (min n n1))).flatMap Run.cs))) ∧ (some (AV.own 5002 0 t91.length 2) = some (AV.own 5002 0 (t91.set (((t91.length : Int)) - 1 : Int).toNat (Run.mk r_.frm (min n n1))).length 2)) ∧ UU ∧ UU)) (by kernel_rfl) ⟨⟨TT, TT, TT, k21, TT, k22.2, TT, set_le Run.cs_len k22.1 (o := 1) (m := 1) (by omega) (by decide), TT⟩, ⟨(set_row Run.cs_len k22.1 (x' := Run.mk r_.frm (min n n1)) (o := 1) (by omega) rfl (Nat.le_of_ble_eq_true rfl) _), set_len, TT, TT⟩⟩) ?_
                      refine Done.gh [.keep [2, 7, 8, 9, 12] [23, 26, 5002], .ren 5002 5003, .keep [2, 7, 8, 9, 12] [23, 26, 5003]] (s' := ⟨[(2, .fn 62 [] []), (7, .ptr 23 0), (8, .ptr 26 0), (9, .own 5003 0 (t91.set (((t91.length : Int)) - 1 : Int).toNat (Run.mk r_.frm (min n n1))).length 2), (12, pB b6)], [(23, .lit 125 [.p (encL Run.cs t0), pI n2]), (26, .lit 125 [.p (encL Run.cs t1), pI n3]), (5003, .row 57 ((t91.set (((t91.length : Int)) - 1 : Int).toNat (Run.mk r_.frm (min n n1))).flatMap Run.cs))]⟩) (by kernel_rfl) (holds_of (UU ∧ UU ∧ UU ∧ UU) (by kernel_rfl) ⟨TT, TT, TT, TT⟩) ?_
                      refine Done.mk (inB_n ?_)
                      obtain rfl := Option.some.inj h
                      exact ⟨rfl, by kernel_rfl⟩
                    · refine awp_cond_f (b := t63) (by kernel_rfl) k20 ?_
                      refine doneSkip ?_
                      refine Done.gh [.keep [2, 7, 8, 9, 12] [23, 26, 5002], .ren 5002 5003, .keep [2, 7, 8, 9, 12] [23, 26, 5003]] (s' := ⟨[(2, .fn 62 [] []), (7, .ptr 23 0), (8, .ptr 26 0), (9, .own 5003 0 t91.length 2), (12, pB b6)], [(23, .lit 125 [.p (encL Run.cs t0), pI n2]), (26, .lit 125 [.p (encL Run.cs t1), pI n3]), (5003, .row 57 (t91.flatMap Run.cs))]⟩) (by kernel_rfl) (holds_of (UU ∧ UU ∧ UU ∧ UU) (by kernel_rfl) ⟨TT, TT, TT, TT⟩) ?_
                      refine Done.mk (inB_n ?_)
                      obtain rfl := Option.some.inj h
                      exact ⟨rfl, by kernel_rfl⟩
            · have _ := hm
              refine Done.as (e := Exit.normal) (s := ⟨[(2, .fn 62 [] []), (7, .ptr 23 0), (8, .ptr 26 0), (9, .own 5003 0 t9.length 2), (12, pB b6)], [(23, .lit 125 [.p (encL Run.cs t0), pI n2]), (26, .lit 125 [.p (encL Run.cs t1), pI n3]), (5003, .row 57 (t9.flatMap Run.cs))]⟩) rfl (by kernel_rfl) ?_
              refine Done.mk (thenQ_n ?_)
              refine awp_regionD Try_mixed (orcs := []) (gs := [.keep [2, 7, 8, 9, 10] [23, 26, 5003]]) (s' := ⟨[(2, .fn 62 [] []), (7, .ptr 23 0), (8, .ptr 26 0), (9, .own 5003 0 t9.length 2), (10, pB b6)], [(23, .lit 125 [.p (encL Run.cs t0), pI n2]), (26, .lit 125 [.p (encL Run.cs t1), pI n3]), (5003, .row 57 (t9.flatMap Run.cs))]⟩) (by kernel_rfl) (holds_of ((UU ∧ UU ∧ UU) ∧ (UU ∧ UU)) (by kernel_rfl) ⟨⟨TT, TT, TT⟩, ⟨TT, TT⟩⟩) ?_
              refine Done.gh [.keep [2, 7, 8, 9, 10] [23, 26, 5003], .ren 5003 5002, .keep [2, 7, 8, 9, 10] [23, 26, 5002]] (s' := ⟨[(2, .fn 62 [] []), (7, .ptr 23 0), (8, .ptr 26 0), (9, .own 5002 0 t9.length 2), (10, pB b6)], [(23, .lit 125 [.p (encL Run.cs t0), pI n2]), (26, .lit 125 [.p (encL Run.cs t1), pI n3]), (5002, .row 57 (t9.flatMap Run.cs))]⟩) (by kernel_rfl) (holds_of (UU ∧ UU ∧ UU ∧ UU) (by kernel_rfl) ⟨TT, TT, TT, TT⟩) ?_
              refine Done.mk (inB_n ?_)
              obtain rfl := Option.some.inj h
              exact ⟨rfl, by kernel_rfl⟩
          · refine awp_cond_f (b := t34) (by kernel_rfl) k8 ?_
            refine doneExit ?_
            refine Done.gh [.keep [9] [5002], .keep [9] [5002]] (s' := ⟨[(9, .own 5002 0 t91.length 2)], [(5002, .row 57 (t91.flatMap Run.cs))]⟩) (by kernel_rfl) (holds_of (UU ∧ UU ∧ UU) (by kernel_rfl) ⟨TT, TT, TT⟩) ?_
            refine Done.mk (thenQ_x ?_)
            obtain rfl := Option.some.inj h
            exact ⟨fun q => (by cases q), fun q => (by subst q; exact ⟨rfl, by kernel_rfl⟩)⟩
      · have _ := hm
        refine Done.as (e := (Exit.exit 0)) (s := ⟨[(9, .own 5002 0 t92.length 2)], [(5002, .row 57 (t92.flatMap Run.cs))]⟩) rfl (by kernel_rfl) ?_
        refine Done.mk (inB_hit (thenQ_n ?_))
        refine awp_seq ?_
        refine awp_regionD Try_mixed (orcs := []) (gs := [.keep [6] [5002]]) (s' := ⟨[(6, .own 5002 0 t92.length 2)], [(5002, .row 57 (t92.flatMap Run.cs))]⟩) (by kernel_rfl) (holds_of ((UU ∧ UU ∧ UU) ∧ (UU ∧ UU)) (by kernel_rfl) ⟨⟨TT, TT, TT⟩, ⟨TT, TT⟩⟩) ?_
        refine Done.mk (thenQ_n ?_)
        refine doneRet ?_
        refine Done.gh [.frz 5002, .keep [6] []] (s' := ⟨[(6, .p (encL Run.cs t92))], []⟩) (by kernel_rfl) (holds_of (UU ∧ UU ∧ UU) (by kernel_rfl) ⟨TT, TT, TT⟩) ?_
        refine Done.mk ?_
        obtain rfl := Option.some.inj h
        exact ⟨Or.inr rfl, by kernel_rfl, by kernel_rfl⟩
end
end Go.AM
end
section
namespace Go.AM
open Go Go.RowKit Go.Proofs
noncomputable section
set_option maxRecDepth 100000 in
set_option maxHeartbeats 4000000 in
theorem runs_Subtract_ok {a : (List Run)} {b : (List Run)} {r : (List Run)} (h : runs_Subtract a b = some r) : ASpec Try.prog 45 [.p (encL Run.cs a), .p (encL Run.cs b)] [] (.p (encL Run.cs r)) [] := by
  refine aspec_of Try.func45 (c := _) rfl (by kernel_rfl) (by rw [Try.ntmps45]; exact Nat.le_of_ble_eq_true rfl) ?_
  refine awp_seq ?_
  refine awp_regionD Try_mixed (orcs := []) (gs := [.keep [0, 1] []]) (s' := ⟨[(0, .p (encL Run.cs a)), (1, .p (encL Run.cs b))], []⟩) (by kernel_rfl) (holds_of ((UU ∧ UU) ∧ (UU ∧ UU)) (by kernel_rfl) ⟨⟨TT, TT⟩, ⟨TT, TT⟩⟩) ?_
  refine Done.mk (thenQ_n ?_)
  refine awp_seq ?_
  refine bind_el h (fun v k1 h => ?_)
  refine awp_regionD Try_mixed (orcs := [(2, tV (.p (encL Run.cs v)))]) (gs := [.keep [4] []]) (s' := ⟨[(4, .p (encL Run.cs v))], []⟩) (by kernel_rfl) (holds_of ((UU ∧ UU ∧ (ASpec Try.prog 61 [.p (encL Run.cs a), .p (encL Run.cs b), .fn 62 [] []] [] (.p (encL Run.cs v)) []) ∧ UU ∧ UU) ∧ (UU ∧ UU)) (by kernel_rfl) ⟨⟨TT, TT, runs_sweep_ok k1, TT, TT⟩, ⟨TT, TT⟩⟩) ?_
  refine Done.mk (thenQ_n ?_)
  refine doneRet ?_
  refine Done.mk ?_
  obtain rfl := Option.some.inj h
  exact ⟨Or.inr rfl, by kernel_rfl, by kernel_rfl⟩
end
end Go.AM
end
section
namespace Go.AM
open Go Go.RowKit Go.Proofs
set_option maxRecDepth 100000 in
set_option maxHeartbeats 4000000 in
theorem cracks_add_ok {m : Cracks} {p : Pt} {h : Int} (hb : (rowM p m).length ≤ 1099511627776) :
    ASpec Try.prog 46 [.map 0, .agg [pI p.x, pI p.y], pI h] [(0, .tab 2 89 (encM m))] (.tup []) [(0, .tab 2 89 (encM (addM p h m)))] := by
  refine aspec_of Try.func46 (c := _) rfl (by kernel_rfl) (by rw [Try.ntmps46]; exact Nat.le_of_ble_eq_true rfl) ?_
  refine awp_seq ?_
  refine awp_regionD Try_mixed (orcs := []) (gs := [.keep [0, 2, 4] [0, 4]]) (s' := ⟨[(0, .map 0), (2, pI h), (4, .ptr 4 0)], [(0, .tab 2 89 (encM m)), (4, .lit 63 [pI p.x, pI p.y])]⟩) (by kernel_rfl) (holds_of ((True ∧ True) ∧ (True ∧ True)) (by kernel_rfl) ⟨⟨trivial, trivial⟩, ⟨trivial, trivial⟩⟩) ?_
  refine Done.mk (thenQ_n ?_)
  have hi : (Try.prog.info? 89).map (fun i => (i.size, i.bytes, i.zero)) = some (1, 8, some (.int .i64 0)) := by kernel_rfl
  obtain ⟨i, hi1, hi2⟩ := Option.map_eq_some_iff.1 hi
  simp only [Prod.mk.injEq] at hi2
  obtain ⟨i1, i2, i3⟩ := hi2
  have hz : (Try.prog.info? 66).bind (·.zero) = some (.slice none 0 0) := by kernel_rfl
  obtain ⟨j, hj1, hj2⟩ := Option.bind_eq_some_iff.1 hz
  have hr := tRow_encM p m
  refine awp_add (n := 4) (t := 61) (kt := 63) (et := 66) (ts := 66) (ty := 66) (kind := 89) (ag := 2) (id := 0) (tm := 6) (tk := 7) (tx := 10) (d1 := 11) (d2 := 8) (d3 := 12) (d4 := 13) (k := keyM p) (kx := .agg [pI p.x, pI p.y]) (m := encM m) (p := vI h) []
    (s1 := ⟨[(10, .p (.sl [vI h] 1)), (9, pI h), (7, .agg [pI p.x, pI p.y]), (6, .map 0), (0, .map 0), (2, pI h), (4, .ptr 4 0)], [(0, .tab 2 89 (encM m)), (4, .lit 63 [pI p.x, pI p.y])]⟩)
    rfl (by kernel_rfl) (holds_of (True ∧ True ∧ True ∧ True ∧ True) (by kernel_rfl) ⟨trivial, trivial, trivial, trivial, trivial⟩)
    (by kernel_rfl) (by kernel_rfl) (fun w => by simp [zeroValue, typeInfo, hj1, hj2]) (by kernel_rfl) hi1 i1 i3 rfl
    ⟨rfl, rfl, rfl, rfl⟩ ⟨rfl, rfl, rfl, rfl⟩ ⟨rfl, rfl, rfl, rfl, rfl⟩ ⟨rfl, rfl, rfl, rfl⟩ ⟨rfl, rfl, rfl, rfl⟩ (by decide) (by rw [Try.ntmps46]; decide) rfl rfl rfl rfl rfl ?_ ?_ ?_
  · rw [hr, i2]; simp only; omega
  · rw [hr]; simp only; omega
  refine Done.as (e := .normal) (s := ⟨[(10, .p (.sl [vI h] 1)), (9, pI h), (7, .agg [pI p.x, pI p.y]), (6, .map 0), (0, .map 0), (2, pI h), (4, .ptr 4 0)], [(0, .tab 2 89 (encM (addM p h m))), (4, .lit 63 [pI p.x, pI p.y])]⟩) rfl (by rw [tApp_encM]; kernel_rfl) ?_
  exact Done.mk ⟨Or.inl rfl, by kernel_rfl, by kernel_rfl⟩
theorem cracks_add_ok' {m : Cracks} {p : Pt} {h : Int} {r : Cracks} (hr : cracks_add m p h = some r) :
    ASpec Try.prog 46 [.map 0, .agg [pI p.x, pI p.y], pI h] [(0, .tab 2 89 (encM m))] (.tup []) [(0, .tab 2 89 (encM r))] := by
  refine chk_el hr fun hb hr => ?_
  obtain rfl := Option.some.inj hr
  exact cracks_add_ok hb
end Go.AM
end
