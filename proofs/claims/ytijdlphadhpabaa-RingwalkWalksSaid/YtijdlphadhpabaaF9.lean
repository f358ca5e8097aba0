/- Models of functions, and that their calls do what the models say. Printed by gen.py. -/
import Derived.Test.YtijdlphadhpabaaProg
import Derived.Test.YtijdlphadhpabaaF8
section
namespace Go.AM
open Go Go.RowKit Go.Proofs
noncomputable section
def R22_cracks_j1 (c : Cell) (t0 : Region) (t34 : (List Crack)) : Option ((List Crack)) :=
    chk (InR .i64 (c.y - 1 : Int))
    ((R18_Contains t0 (Cell.mk c.x (c.y - 1))).bind fun b =>
    ifB (!b)
    (chk (t34.length + ([Crack.mk (Pt.mk c.x c.y) (Pt.mk (c.x + 1) c.y)]).length ≤ 1099511627776)
      (some (t34 ++ ([Crack.mk (Pt.mk c.x c.y) (Pt.mk (c.x + 1) c.y)]))))
    (some t34))
def R22_cracks_j2 (c : Cell) (t0 : Region) (t3 : (List Crack)) : Option ((List Crack)) :=
    chk (InR .i64 (c.x + 1 : Int))
    ((R18_Contains t0 (Cell.mk (c.x + 1) c.y)).bind fun b1 =>
    ifB (!b1)
    (chk (t3.length + ([Crack.mk (Pt.mk (c.x + 1) c.y) (Pt.mk (c.x + 1) (c.y + 1))]).length ≤ 1099511627776)
      (some (t3 ++ ([Crack.mk (Pt.mk (c.x + 1) c.y) (Pt.mk (c.x + 1) (c.y + 1))]))))
    (some t3))
def R22_cracks_j3 (c : Cell) (t0 : Region) (t31 : (List Crack)) : Option ((List Crack)) :=
    chk (InR .i64 (c.y + 1 : Int))
    ((R18_Contains t0 (Cell.mk c.x (c.y + 1))).bind fun b2 =>
    ifB (!b2)
    (chk (t31.length + ([Crack.mk (Pt.mk (c.x + 1) (c.y + 1)) (Pt.mk c.x (c.y + 1))]).length ≤ 1099511627776)
      (some (t31 ++ ([Crack.mk (Pt.mk (c.x + 1) (c.y + 1)) (Pt.mk c.x (c.y + 1))]))))
    (some t31))
def R22_cracks_j4 (v : (List Cell)) (t5 : Int) (t0 : Region) (t34 : (List Crack)) : Option ((List Crack)) :=
    (getI v t5).bind fun c =>
    chk (InR .i64 (c.x + 1 : Int))
    (chk (InR .i64 (c.y + 1 : Int))
    ((R22_cracks_j1 c t0 t34).bind fun t3 =>
    (R22_cracks_j2 c t0 t3).bind fun t31 =>
    (R22_cracks_j3 c t0 t31).bind fun t32 =>
    chk (InR .i64 (c.x - 1 : Int))
    ((R18_Contains t0 (Cell.mk (c.x - 1) c.y)).bind fun b3 =>
    ifB (!b3)
    (chk (t32.length + ([Crack.mk (Pt.mk c.x (c.y + 1)) (Pt.mk c.x c.y)]).length ≤ 1099511627776)
      (some (t32 ++ ([Crack.mk (Pt.mk c.x (c.y + 1)) (Pt.mk c.x c.y)]))))
    (some t32))))
def R22_cracks_l5 (v : (List Cell)) (t0 : Region) (s : (List Crack) × Int) : Option (((List Crack) × Int) ⊕ ((List Crack))) :=
  match s with
  | (t34, t5) =>
    ifB (decide (t5 < (v.length : Int)))
    ((R22_cracks_j4 v t5 t0 t34).bind fun t33 =>
      chk (InR .i64 (t5 + 1 : Int))
      (some (.inl (t33, t5 + 1))))
    (some (.inr t34))
noncomputable def R22_cracks (t0 : Region) : Option (List Crack) :=
  (R18_Cells t0).bind fun v =>
  (loopP (R22_cracks_l5 v t0) (([] : List Crack), 0)).bind fun t35 =>
  some t35
set_option maxRecDepth 100000 in
set_option maxHeartbeats 4000000 in
theorem R22_cracks_ok {t0 : Region} {r : (List Crack)} (h : R22_cracks t0 = some r) : ASpec Try.prog 37 [.agg [.p (encL Row.cs t0.rows)]] [] (.p (encL Crack.cs r)) [] := by
  refine aspec_of Try.func37 (c := _) rfl (by kernel_rfl) (by rw [Try.ntmps37]; exact Nat.le_of_ble_eq_true rfl) ?_
  refine awp_seq ?_
  refine awp_regionD Try_mixed (orcs := []) (gs := [.keep [1] [1]]) (s' := ⟨[(1, .ptr 1 0)], [(1, .lit 24 [.p (encL Row.cs t0.rows)])]⟩) (by kernel_rfl) (holds_of ((UU ∧ UU ∧ UU) ∧ (UU ∧ UU)) (by kernel_rfl) ⟨⟨TT, TT, TT⟩, ⟨TT, TT⟩⟩) ?_
  refine Done.mk (thenQ_n ?_)
  refine awp_seq ?_
  refine awp_regionD Try_mixed (orcs := []) (gs := [.keep [1, 3] [1]]) (s' := ⟨[(1, .ptr 1 0), (3, .nils)], [(1, .lit 24 [.p (encL Row.cs t0.rows)])]⟩) (by kernel_rfl) (holds_of ((UU ∧ UU) ∧ (UU ∧ UU)) (by kernel_rfl) ⟨⟨TT, TT⟩, ⟨TT, TT⟩⟩) ?_
  refine Done.mk (thenQ_n ?_)
  refine awp_seq ?_
  refine bind_el h (fun v k1 h => ?_)
  refine awp_regionD Try_mixed (orcs := [(1, tV (.p (encL Cell.cs v)))]) (gs := [.keep [1, 3, 4] [1]]) (s' := ⟨[(1, .ptr 1 0), (3, .nils), (4, .p (encL Cell.cs v))], [(1, .lit 24 [.p (encL Row.cs t0.rows)])]⟩) (by kernel_rfl) (holds_of ((UU ∧ (ASpec Try.prog 56 [.agg [.p (encL Row.cs t0.rows)]] [] (.p (encL Cell.cs v)) []) ∧ UU ∧ UU) ∧ (UU ∧ UU)) (by kernel_rfl) ⟨⟨TT, R18_Cells_ok k1, TT, TT⟩, ⟨TT, TT⟩⟩) ?_
  refine Done.mk (thenQ_n ?_)
  refine awp_seq ?_
  refine awp_seq ?_
  refine awp_regionD Try_mixed (orcs := []) (gs := [.keep [1, 3, 4, 5] [1]]) (s' := ⟨[(1, .ptr 1 0), (3, .nils), (4, .p (encL Cell.cs v)), (5, pI 0)], [(1, .lit 24 [.p (encL Row.cs t0.rows)])]⟩) (by kernel_rfl) (holds_of ((UU ∧ UU) ∧ (UU ∧ UU)) (by kernel_rfl) ⟨⟨TT, TT⟩, ⟨TT, TT⟩⟩) ?_
  refine Done.mk (thenQ_n ?_)
  refine awp_block ?_
  refine bind_el h (fun t35 hm h => ?_)
  refine awp_gh [.keep [1, 3, 4, 5] [1], .opn 3 5005 81 4, .keep [1, 3, 4, 5] [1, 5005]] (s' := ⟨[(1, .ptr 1 0), (3, .own 5005 0 (([] : List Crack)).length 4), (4, .p (encL Cell.cs v)), (5, pI 0)], [(1, .lit 24 [.p (encL Row.cs t0.rows)]), (5005, .row 81 ((([] : List Crack)).flatMap Crack.cs))]⟩) (by kernel_rfl) (holds_of (UU ∧ UU ∧ UU ∧ UU) (by kernel_rfl) ⟨TT, TT, TT, TT⟩) ?_
  refine awp_tail (fun _ => (Exit.exit 0)) (fun o => match o with | t35 => ⟨[(3, .own 5005 0 t35.length 4)], [(5005, .row 81 (t35.flatMap Crack.cs))]⟩) hm (fun o h => ?_) ?_
  · refine awp_loop' (fun s => match s with | (t34, t5) => ⟨[(1, .ptr 1 0), (3, .own 5005 0 t34.length 4), (4, .p (encL Cell.cs v)), (5, pI t5)], [(1, .lit 24 [.p (encL Row.cs t0.rows)]), (5005, .row 81 (t34.flatMap Crack.cs))]⟩) h (by kernel_rfl) (fun s out h => ?_)
    obtain ⟨t34, t5⟩ := s
    refine awp_seq ?_
    refine awp_seq ?_
    refine awp_regionD Try_mixed (orcs := []) (gs := [.keep [1, 3, 4, 5, 17] [1, 5005]]) (s' := ⟨[(1, .ptr 1 0), (3, .own 5005 0 t34.length 4), (4, .p (encL Cell.cs v)), (5, pI t5), (17, pB (decide (t5 < (v.length : Int))))], [(1, .lit 24 [.p (encL Row.cs t0.rows)]), (5005, .row 81 (t34.flatMap Crack.cs))]⟩) (by kernel_rfl) (holds_of ((UU ∧ UU ∧ UU ∧ UU ∧ UU) ∧ (UU ∧ UU)) (by kernel_rfl) ⟨⟨TT, TT, TT, TT, TT⟩, ⟨TT, TT⟩⟩) ?_
    refine Done.mk (thenQ_n ?_)
    refine ifB_el h (fun k2 h => ?_) (fun k2 h => ?_)
    · refine awp_cond_t (b := decide (t5 < (v.length : Int))) (by kernel_rfl) k2 ?_
      refine doneSkip ?_
      refine Done.mk (thenQ_n ?_)
      refine awp_seq ?_
      refine bind_el h (fun t33 hm h => ?_)
      refine awp_tail (fun _ => Exit.normal) (fun o => match o with | t33 => ⟨[(1, .ptr 1 0), (3, .own 5009 0 t33.length 4), (4, .p (encL Cell.cs v)), (5, pI t5)], [(1, .lit 24 [.p (encL Row.cs t0.rows)]), (5009, .row 81 (t33.flatMap Crack.cs))]⟩) hm (fun o h => ?_) ?_
      · refine awp_block ?_
        refine awp_seq ?_
        refine bind_el h (fun c k3 h => ?_)
        replace k3 := getI_el k3
        refine awp_regionD Try_mixed (orcs := [(4, tV (pI c.x))]) (gs := [.keep [1, 3, 4, 5, 6] [1, 5005]]) (s' := ⟨[(1, .ptr 1 0), (3, .own 5005 0 t34.length 4), (4, .p (encL Cell.cs v)), (5, pI t5), (6, pI c.x)], [(1, .lit 24 [.p (encL Row.cs t0.rows)]), (5005, .row 81 (t34.flatMap Crack.cs))]⟩) (by kernel_rfl) (holds_of ((UU ∧ UU ∧ ((0 ≤ t5 ∧ t5 < (v.length : Int))) ∧ UU ∧ ((v.flatMap Cell.cs)[t5.toNat * 2]? = some (vI c.x)) ∧ UU ∧ UU) ∧ (UU ∧ UU)) (by kernel_rfl) ⟨⟨TT, TT, k3.2, TT, row_at Cell.cs_len k3.1 (j := 0) (by omega) (by decide), TT, TT⟩, ⟨TT, TT⟩⟩) ?_
        refine Done.mk (thenQ_n ?_)
        refine awp_seq ?_
        refine awp_regionD Try_mixed (orcs := [(4, tV (pI c.y))]) (gs := [.keep [1, 3, 4, 5, 6, 7] [1, 5005]]) (s' := ⟨[(1, .ptr 1 0), (3, .own 5005 0 t34.length 4), (4, .p (encL Cell.cs v)), (5, pI t5), (6, pI c.x), (7, pI c.y)], [(1, .lit 24 [.p (encL Row.cs t0.rows)]), (5005, .row 81 (t34.flatMap Crack.cs))]⟩) (by kernel_rfl) (holds_of ((UU ∧ UU ∧ ((0 ≤ t5 ∧ t5 < (v.length : Int))) ∧ UU ∧ ((v.flatMap Cell.cs)[t5.toNat * 2 + 1]? = some (vI c.y)) ∧ UU ∧ UU) ∧ (UU ∧ UU)) (by kernel_rfl) ⟨⟨TT, TT, k3.2, TT, row_at Cell.cs_len k3.1 (j := 1) (by omega) (by decide), TT, TT⟩, ⟨TT, TT⟩⟩) ?_
        refine Done.mk (thenQ_n ?_)
        refine awp_seq ?_
        refine awp_regionD Try_mixed (orcs := []) (gs := [.keep [1, 3, 4, 5, 6, 7, 8] [1, 8, 5005]]) (s' := ⟨[(1, .ptr 1 0), (3, .own 5005 0 t34.length 4), (4, .p (encL Cell.cs v)), (5, pI t5), (6, pI c.x), (7, pI c.y), (8, .ptr 8 0)], [(1, .lit 24 [.p (encL Row.cs t0.rows)]), (8, .lit 63 [pI c.x, pI c.y]), (5005, .row 81 (t34.flatMap Crack.cs))]⟩) (by kernel_rfl) (holds_of ((UU ∧ UU ∧ UU ∧ UU ∧ UU ∧ UU) ∧ (UU ∧ UU)) (by kernel_rfl) ⟨⟨TT, TT, TT, TT, TT, TT⟩, ⟨TT, TT⟩⟩) ?_
        refine Done.mk (thenQ_n ?_)
        refine awp_seq ?_
        refine chk_el h (fun k4 h => ?_)
        refine awp_regionD Try_mixed (orcs := []) (gs := [.keep [1, 3, 4, 5, 6, 7, 8, 9] [1, 8, 9, 5005]]) (s' := ⟨[(1, .ptr 1 0), (3, .own 5005 0 t34.length 4), (4, .p (encL Cell.cs v)), (5, pI t5), (6, pI c.x), (7, pI c.y), (8, .ptr 8 0), (9, .ptr 9 0)], [(1, .lit 24 [.p (encL Row.cs t0.rows)]), (8, .lit 63 [pI c.x, pI c.y]), (9, .lit 63 [pI (c.x + 1), pI c.y]), (5005, .row 81 (t34.flatMap Crack.cs))]⟩) (by kernel_rfl) (holds_of ((UU ∧ (InR .i64 (c.x + 1 : Int)) ∧ UU ∧ UU ∧ UU ∧ UU ∧ UU) ∧ (UU ∧ UU)) (by kernel_rfl) ⟨⟨TT, k4, TT, TT, TT, TT, TT⟩, ⟨TT, TT⟩⟩) ?_
        refine Done.mk (thenQ_n ?_)
        refine awp_seq ?_
        refine chk_el h (fun k5 h => ?_)
        refine awp_regionD Try_mixed (orcs := []) (gs := [.keep [1, 3, 4, 5, 6, 7, 8, 9, 10] [1, 8, 9, 10, 5005]]) (s' := ⟨[(1, .ptr 1 0), (3, .own 5005 0 t34.length 4), (4, .p (encL Cell.cs v)), (5, pI t5), (6, pI c.x), (7, pI c.y), (8, .ptr 8 0), (9, .ptr 9 0), (10, .ptr 10 0)], [(1, .lit 24 [.p (encL Row.cs t0.rows)]), (8, .lit 63 [pI c.x, pI c.y]), (9, .lit 63 [pI (c.x + 1), pI c.y]), (10, .lit 63 [pI (c.x + 1), pI (c.y + 1)]), (5005, .row 81 (t34.flatMap Crack.cs))]⟩) (by kernel_rfl) (holds_of ((UU ∧ (InR .i64 (c.x + 1 : Int)) ∧ UU ∧ (InR .i64 (c.y + 1 : Int)) ∧ UU ∧ UU ∧ UU ∧ UU) ∧ (UU ∧ UU)) (by kernel_rfl) ⟨⟨TT, k4, TT, k5, TT, TT, TT, TT⟩, ⟨TT, TT⟩⟩) ?_
        refine Done.mk (thenQ_n ?_)
        refine awp_seq ?_
        refine awp_regionD Try_mixed (orcs := []) (gs := [.keep [1, 3, 4, 5, 6, 7, 8, 9, 10, 11] [1, 8, 9, 10, 11, 5005]]) (s' := ⟨[(1, .ptr 1 0), (3, .own 5005 0 t34.length 4), (4, .p (encL Cell.cs v)), (5, pI t5), (6, pI c.x), (7, pI c.y), (8, .ptr 8 0), (9, .ptr 9 0), (10, .ptr 10 0), (11, .ptr 11 0)], [(1, .lit 24 [.p (encL Row.cs t0.rows)]), (8, .lit 63 [pI c.x, pI c.y]), (9, .lit 63 [pI (c.x + 1), pI c.y]), (10, .lit 63 [pI (c.x + 1), pI (c.y + 1)]), (11, .lit 63 [pI c.x, pI (c.y + 1)]), (5005, .row 81 (t34.flatMap Crack.cs))]⟩) (by kernel_rfl) (holds_of ((UU ∧ UU ∧ (InR .i64 (c.y + 1 : Int)) ∧ UU ∧ UU ∧ UU ∧ UU) ∧ (UU ∧ UU)) (by kernel_rfl) ⟨⟨TT, TT, k5, TT, TT, TT, TT⟩, ⟨TT, TT⟩⟩) ?_
        refine Done.mk (thenQ_n ?_)
        refine awp_seq ?_
        refine bind_el h (fun t3 hm h => ?_)
        refine awp_tail (fun _ => Exit.normal) (fun o => match o with | t3 => ⟨[(1, .ptr 1 0), (3, .own 5006 0 t3.length 4), (4, .p (encL Cell.cs v)), (5, pI t5), (6, pI c.x), (7, pI c.y), (8, .ptr 8 0), (9, .ptr 9 0), (10, .ptr 10 0), (11, .ptr 11 0)], [(1, .lit 24 [.p (encL Row.cs t0.rows)]), (8, .lit 63 [pI c.x, pI c.y]), (9, .lit 63 [pI (c.x + 1), pI c.y]), (10, .lit 63 [pI (c.x + 1), pI (c.y + 1)]), (11, .lit 63 [pI c.x, pI (c.y + 1)]), (5006, .row 81 (t3.flatMap Crack.cs))]⟩) hm (fun o h => ?_) ?_
        · refine awp_seq ?_
          refine chk_el h (fun k6 h => ?_)
          refine bind_el h (fun b k7 h => ?_)
          refine awp_regionD Try_mixed (orcs := [(5, tV (pB b))]) (gs := [.keep [1, 3, 4, 5, 6, 7, 8, 9, 10, 11, 52] [1, 8, 9, 10, 11, 5005]]) (s' := ⟨[(1, .ptr 1 0), (3, .own 5005 0 t34.length 4), (4, .p (encL Cell.cs v)), (5, pI t5), (6, pI c.x), (7, pI c.y), (8, .ptr 8 0), (9, .ptr 9 0), (10, .ptr 10 0), (11, .ptr 11 0), (52, pB (!b))], [(1, .lit 24 [.p (encL Row.cs t0.rows)]), (8, .lit 63 [pI c.x, pI c.y]), (9, .lit 63 [pI (c.x + 1), pI c.y]), (10, .lit 63 [pI (c.x + 1), pI (c.y + 1)]), (11, .lit 63 [pI c.x, pI (c.y + 1)]), (5005, .row 81 (t34.flatMap Crack.cs))]⟩) (by kernel_rfl) (holds_of ((UU ∧ UU ∧ UU ∧ (InR .i64 (c.y - 1 : Int)) ∧ UU ∧ (ASpec Try.prog 57 [.agg [.p (encL Row.cs t0.rows)], .agg [pI c.x, pI (c.y - 1)]] [] (pB b) []) ∧ UU ∧ UU) ∧ (UU ∧ UU)) (by kernel_rfl) ⟨⟨TT, TT, TT, k6, TT, R18_Contains_ok k7, TT, TT⟩, ⟨TT, TT⟩⟩) ?_
          refine Done.mk (thenQ_n ?_)
          refine ifB_el h (fun k8 h => ?_) (fun k8 h => ?_)
          · refine awp_cond_t (b := !b) (by kernel_rfl) k8 ?_
            refine chk_el h (fun k9 h => ?_)
            refine awp_regionD Try_mixed (orcs := [(5, tV (.own 58 0 (t34 ++ ([Crack.mk (Pt.mk c.x c.y) (Pt.mk (c.x + 1) c.y)])).length 4))]) (gs := [.castB 58 (.row 81 ((t34 ++ ([Crack.mk (Pt.mk c.x c.y) (Pt.mk (c.x + 1) c.y)])).flatMap Crack.cs)), .keep [1, 3, 4, 5, 6, 7, 8, 9, 10, 11] [1, 8, 9, 10, 11, 58]]) (s' := ⟨[(1, .ptr 1 0), (3, .own 58 0 (t34 ++ ([Crack.mk (Pt.mk c.x c.y) (Pt.mk (c.x + 1) c.y)])).length 4), (4, .p (encL Cell.cs v)), (5, pI t5), (6, pI c.x), (7, pI c.y), (8, .ptr 8 0), (9, .ptr 9 0), (10, .ptr 10 0), (11, .ptr 11 0)], [(1, .lit 24 [.p (encL Row.cs t0.rows)]), (8, .lit 63 [pI c.x, pI c.y]), (9, .lit 63 [pI (c.x + 1), pI c.y]), (10, .lit 63 [pI (c.x + 1), pI (c.y + 1)]), (11, .lit 63 [pI c.x, pI (c.y + 1)]), (58, .row 81 ((t34 ++ ([Crack.mk (Pt.mk c.x c.y) (Pt.mk (c.x + 1) c.y)])).flatMap Crack.cs))]⟩) (by kernel_rfl) (holds_of ((UU ∧ UU ∧ UU ∧ UU ∧ UU ∧ ((((t34.flatMap Crack.cs).length = t34.length * 4 ∧ (([Crack.mk (Pt.mk c.x c.y) (Pt.mk (c.x + 1) c.y)]).flatMap Crack.cs).length = ([Crack.mk (Pt.mk c.x c.y) (Pt.mk (c.x + 1) c.y)]).length * 4 ∧ (t34.length + ([Crack.mk (Pt.mk c.x c.y) (Pt.mk (c.x + 1) c.y)]).length) * 32 ≤ 140737488355328 ∧ t34.length + ([Crack.mk (Pt.mk c.x c.y) (Pt.mk (c.x + 1) c.y)]).length ≤ 9223372036854775807) ∧ some (AV.own 58 0 (t34.length + ([Crack.mk (Pt.mk c.x c.y) (Pt.mk (c.x + 1) c.y)]).length) 4) = some (AV.own 58 0 (t34 ++ ([Crack.mk (Pt.mk c.x c.y) (Pt.mk (c.x + 1) c.y)])).length 4))) ∧ UU ∧ UU) ∧ ((some (ABlk.row 81 (t34.flatMap Crack.cs ++ ([Crack.mk (Pt.mk c.x c.y) (Pt.mk (c.x + 1) c.y)]).flatMap Crack.cs)) = some (ABlk.row 81 ((t34 ++ ([Crack.mk (Pt.mk c.x c.y) (Pt.mk (c.x + 1) c.y)])).flatMap Crack.cs))) ∧ UU ∧ UU)) (by kernel_rfl) ⟨⟨TT, TT, TT, TT, TT, ⟨⟨flat_len Crack.cs_len _, flat_len Crack.cs_len _, by omega, by omega⟩, app_len _ _ _ _⟩, TT, TT⟩, ⟨(app_row Crack.cs _ _ _), TT, TT⟩⟩) ?_
            refine Done.gh [.keep [1, 3, 4, 5, 6, 7, 8, 9, 10, 11] [1, 8, 9, 10, 11, 58], .ren 58 5006, .keep [1, 3, 4, 5, 6, 7, 8, 9, 10, 11] [1, 8, 9, 10, 11, 5006]] (s' := ⟨[(1, .ptr 1 0), (3, .own 5006 0 (t34 ++ ([Crack.mk (Pt.mk c.x c.y) (Pt.mk (c.x + 1) c.y)])).length 4), (4, .p (encL Cell.cs v)), (5, pI t5), (6, pI c.x), (7, pI c.y), (8, .ptr 8 0), (9, .ptr 9 0), (10, .ptr 10 0), (11, .ptr 11 0)], [(1, .lit 24 [.p (encL Row.cs t0.rows)]), (8, .lit 63 [pI c.x, pI c.y]), (9, .lit 63 [pI (c.x + 1), pI c.y]), (10, .lit 63 [pI (c.x + 1), pI (c.y + 1)]), (11, .lit 63 [pI c.x, pI (c.y + 1)]), (5006, .row 81 ((t34 ++ ([Crack.mk (Pt.mk c.x c.y) (Pt.mk (c.x + 1) c.y)])).flatMap Crack.cs))]⟩) (by kernel_rfl) (holds_of (UU ∧ UU ∧ UU ∧ UU) (by kernel_rfl) ⟨TT, TT, TT, TT⟩) ?_
            refine Done.mk ?_
            obtain rfl := Option.some.inj h
            exact ⟨rfl, by kernel_rfl⟩
          · refine awp_cond_f (b := !b) (by kernel_rfl) k8 ?_
            refine doneSkip ?_
            refine Done.gh [.keep [1, 3, 4, 5, 6, 7, 8, 9, 10, 11] [1, 8, 9, 10, 11, 5005], .ren 5005 5006, .keep [1, 3, 4, 5, 6, 7, 8, 9, 10, 11] [1, 8, 9, 10, 11, 5006]] (s' := ⟨[(1, .ptr 1 0), (3, .own 5006 0 t34.length 4), (4, .p (encL Cell.cs v)), (5, pI t5), (6, pI c.x), (7, pI c.y), (8, .ptr 8 0), (9, .ptr 9 0), (10, .ptr 10 0), (11, .ptr 11 0)], [(1, .lit 24 [.p (encL Row.cs t0.rows)]), (8, .lit 63 [pI c.x, pI c.y]), (9, .lit 63 [pI (c.x + 1), pI c.y]), (10, .lit 63 [pI (c.x + 1), pI (c.y + 1)]), (11, .lit 63 [pI c.x, pI (c.y + 1)]), (5006, .row 81 (t34.flatMap Crack.cs))]⟩) (by kernel_rfl) (holds_of (UU ∧ UU ∧ UU ∧ UU) (by kernel_rfl) ⟨TT, TT, TT, TT⟩) ?_
            refine Done.mk ?_
            obtain rfl := Option.some.inj h
            exact ⟨rfl, by kernel_rfl⟩
        · have _ := hm
          refine Done.as (e := Exit.normal) (s := ⟨[(1, .ptr 1 0), (3, .own 5006 0 t3.length 4), (4, .p (encL Cell.cs v)), (5, pI t5), (6, pI c.x), (7, pI c.y), (8, .ptr 8 0), (9, .ptr 9 0), (10, .ptr 10 0), (11, .ptr 11 0)], [(1, .lit 24 [.p (encL Row.cs t0.rows)]), (8, .lit 63 [pI c.x, pI c.y]), (9, .lit 63 [pI (c.x + 1), pI c.y]), (10, .lit 63 [pI (c.x + 1), pI (c.y + 1)]), (11, .lit 63 [pI c.x, pI (c.y + 1)]), (5006, .row 81 (t3.flatMap Crack.cs))]⟩) rfl (by kernel_rfl) ?_
          refine Done.mk (thenQ_n ?_)
          refine awp_seq ?_
          refine bind_el h (fun t31 hm h => ?_)
          refine awp_tail (fun _ => Exit.normal) (fun o => match o with | t31 => ⟨[(1, .ptr 1 0), (3, .own 5007 0 t31.length 4), (4, .p (encL Cell.cs v)), (5, pI t5), (6, pI c.x), (7, pI c.y), (8, .ptr 8 0), (10, .ptr 10 0), (11, .ptr 11 0)], [(1, .lit 24 [.p (encL Row.cs t0.rows)]), (8, .lit 63 [pI c.x, pI c.y]), (10, .lit 63 [pI (c.x + 1), pI (c.y + 1)]), (11, .lit 63 [pI c.x, pI (c.y + 1)]), (5007, .row 81 (t31.flatMap Crack.cs))]⟩) hm (fun o h => ?_) ?_
          · refine awp_seq ?_
            refine chk_el h (fun k10 h => ?_)
            refine bind_el h (fun b1 k11 h => ?_)
            refine awp_regionD Try_mixed (orcs := [(5, tV (pB b1))]) (gs := [.keep [1, 3, 4, 5, 6, 7, 8, 9, 10, 11, 65] [1, 8, 9, 10, 11, 5006]]) (s' := ⟨[(1, .ptr 1 0), (3, .own 5006 0 t3.length 4), (4, .p (encL Cell.cs v)), (5, pI t5), (6, pI c.x), (7, pI c.y), (8, .ptr 8 0), (9, .ptr 9 0), (10, .ptr 10 0), (11, .ptr 11 0), (65, pB (!b1))], [(1, .lit 24 [.p (encL Row.cs t0.rows)]), (8, .lit 63 [pI c.x, pI c.y]), (9, .lit 63 [pI (c.x + 1), pI c.y]), (10, .lit 63 [pI (c.x + 1), pI (c.y + 1)]), (11, .lit 63 [pI c.x, pI (c.y + 1)]), (5006, .row 81 (t3.flatMap Crack.cs))]⟩) (by kernel_rfl) (holds_of ((UU ∧ UU ∧ (InR .i64 (c.x + 1 : Int)) ∧ UU ∧ UU ∧ (ASpec Try.prog 57 [.agg [.p (encL Row.cs t0.rows)], .agg [pI (c.x + 1), pI c.y]] [] (pB b1) []) ∧ UU ∧ UU) ∧ (UU ∧ UU)) (by kernel_rfl) ⟨⟨TT, TT, k10, TT, TT, R18_Contains_ok k11, TT, TT⟩, ⟨TT, TT⟩⟩) ?_
            refine Done.mk (thenQ_n ?_)
            refine ifB_el h (fun k12 h => ?_) (fun k12 h => ?_)
            · refine awp_cond_t (b := !b1) (by kernel_rfl) k12 ?_
              refine chk_el h (fun k13 h => ?_)
              refine awp_regionD Try_mixed (orcs := [(5, tV (.own 71 0 (t3 ++ ([Crack.mk (Pt.mk (c.x + 1) c.y) (Pt.mk (c.x + 1) (c.y + 1))])).length 4))]) (gs := [.castB 71 (.row 81 ((t3 ++ ([Crack.mk (Pt.mk (c.x + 1) c.y) (Pt.mk (c.x + 1) (c.y + 1))])).flatMap Crack.cs)), .keep [1, 3, 4, 5, 6, 7, 8, 10, 11] [1, 8, 10, 11, 71]]) (s' := ⟨[(1, .ptr 1 0), (3, .own 71 0 (t3 ++ ([Crack.mk (Pt.mk (c.x + 1) c.y) (Pt.mk (c.x + 1) (c.y + 1))])).length 4), (4, .p (encL Cell.cs v)), (5, pI t5), (6, pI c.x), (7, pI c.y), (8, .ptr 8 0), (10, .ptr 10 0), (11, .ptr 11 0)], [(1, .lit 24 [.p (encL Row.cs t0.rows)]), (8, .lit 63 [pI c.x, pI c.y]), (10, .lit 63 [pI (c.x + 1), pI (c.y + 1)]), (11, .lit 63 [pI c.x, pI (c.y + 1)]), (71, .row 81 ((t3 ++ ([Crack.mk (Pt.mk (c.x + 1) c.y) (Pt.mk (c.x + 1) (c.y + 1))])).flatMap Crack.cs))]⟩) (by kernel_rfl) (holds_of ((UU ∧ UU ∧ UU ∧ UU ∧ UU ∧ ((((t3.flatMap Crack.cs).length = t3.length * 4 ∧ (([Crack.mk (Pt.mk (c.x + 1) c.y) (Pt.mk (c.x + 1) (c.y + 1))]).flatMap Crack.cs).length = ([Crack.mk (Pt.mk (c.x + 1) c.y) (Pt.mk (c.x + 1) (c.y + 1))]).length * 4 ∧ (t3.length + ([Crack.mk (Pt.mk (c.x + 1) c.y) (Pt.mk (c.x + 1) (c.y + 1))]).length) * 32 ≤ 140737488355328 ∧ t3.length + ([Crack.mk (Pt.mk (c.x + 1) c.y) (Pt.mk (c.x + 1) (c.y + 1))]).length ≤ 9223372036854775807) ∧ some (AV.own 71 0 (t3.length + ([Crack.mk (Pt.mk (c.x + 1) c.y) (Pt.mk (c.x + 1) (c.y + 1))]).length) 4) = some (AV.own 71 0 (t3 ++ ([Crack.mk (Pt.mk (c.x + 1) c.y) (Pt.mk (c.x + 1) (c.y + 1))])).length 4))) ∧ UU ∧ UU) ∧ ((some (ABlk.row 81 (t3.flatMap Crack.cs ++ ([Crack.mk (Pt.mk (c.x + 1) c.y) (Pt.mk (c.x + 1) (c.y + 1))]).flatMap Crack.cs)) = some (ABlk.row 81 ((t3 ++ ([Crack.mk (Pt.mk (c.x + 1) c.y) (Pt.mk (c.x + 1) (c.y + 1))])).flatMap Crack.cs))) ∧ UU ∧ UU)) (by kernel_rfl) ⟨⟨TT, TT, TT, TT, TT, ⟨⟨flat_len Crack.cs_len _, flat_len Crack.cs_len _, by omega, by omega⟩, app_len _ _ _ _⟩, TT, TT⟩, ⟨(app_row Crack.cs _ _ _), TT, TT⟩⟩) ?_
              refine Done.gh [.keep [1, 3, 4, 5, 6, 7, 8, 10, 11] [1, 8, 10, 11, 71], .ren 71 5007, .keep [1, 3, 4, 5, 6, 7, 8, 10, 11] [1, 8, 10, 11, 5007]] (s' := ⟨[(1, .ptr 1 0), (3, .own 5007 0 (t3 ++ ([Crack.mk (Pt.mk (c.x + 1) c.y) (Pt.mk (c.x + 1) (c.y + 1))])).length 4), (4, .p (encL Cell.cs v)), (5, pI t5), (6, pI c.x), (7, pI c.y), (8, .ptr 8 0), (10, .ptr 10 0), (11, .ptr 11 0)], [(1, .lit 24 [.p (encL Row.cs t0.rows)]), (8, .lit 63 [pI c.x, pI c.y]), (10, .lit 63 [pI (c.x + 1), pI (c.y + 1)]), (11, .lit 63 [pI c.x, pI (c.y + 1)]), (5007, .row 81 ((t3 ++ ([Crack.mk (Pt.mk (c.x + 1) c.y) (Pt.mk (c.x + 1) (c.y + 1))])).flatMap Crack.cs))]⟩) (by kernel_rfl) (holds_of (UU ∧ UU ∧ UU ∧ UU) (by kernel_rfl) ⟨TT, TT, TT, TT⟩) ?_
              refine Done.mk ?_
              obtain rfl := Option.some.inj h
              exact ⟨rfl, by kernel_rfl⟩
            · refine awp_cond_f (b := !b1) (by kernel_rfl) k12 ?_
              refine doneSkip ?_
              refine Done.gh [.keep [1, 3, 4, 5, 6, 7, 8, 10, 11] [1, 8, 10, 11, 5006], .ren 5006 5007, .keep [1, 3, 4, 5, 6, 7, 8, 10, 11] [1, 8, 10, 11, 5007]] (s' := ⟨[(1, .ptr 1 0), (3, .own 5007 0 t3.length 4), (4, .p (encL Cell.cs v)), (5, pI t5), (6, pI c.x), (7, pI c.y), (8, .ptr 8 0), (10, .ptr 10 0), (11, .ptr 11 0)], [(1, .lit 24 [.p (encL Row.cs t0.rows)]), (8, .lit 63 [pI c.x, pI c.y]), (10, .lit 63 [pI (c.x + 1), pI (c.y + 1)]), (11, .lit 63 [pI c.x, pI (c.y + 1)]), (5007, .row 81 (t3.flatMap Crack.cs))]⟩) (by kernel_rfl) (holds_of (UU ∧ UU ∧ UU ∧ UU) (by kernel_rfl) ⟨TT, TT, TT, TT⟩) ?_
              refine Done.mk ?_
              obtain rfl := Option.some.inj h
              exact ⟨rfl, by kernel_rfl⟩
          · have _ := hm
            refine Done.as (e := Exit.normal) (s := ⟨[(1, .ptr 1 0), (3, .own 5007 0 t31.length 4), (4, .p (encL Cell.cs v)), (5, pI t5), (6, pI c.x), (7, pI c.y), (8, .ptr 8 0), (10, .ptr 10 0), (11, .ptr 11 0)], [(1, .lit 24 [.p (encL Row.cs t0.rows)]), (8, .lit 63 [pI c.x, pI c.y]), (10, .lit 63 [pI (c.x + 1), pI (c.y + 1)]), (11, .lit 63 [pI c.x, pI (c.y + 1)]), (5007, .row 81 (t31.flatMap Crack.cs))]⟩) rfl (by kernel_rfl) ?_
            refine Done.mk (thenQ_n ?_)
            refine awp_seq ?_
            refine bind_el h (fun t32 hm h => ?_)
            refine awp_tail (fun _ => Exit.normal) (fun o => match o with | t32 => ⟨[(1, .ptr 1 0), (3, .own 5008 0 t32.length 4), (4, .p (encL Cell.cs v)), (5, pI t5), (6, pI c.x), (7, pI c.y), (8, .ptr 8 0), (11, .ptr 11 0)], [(1, .lit 24 [.p (encL Row.cs t0.rows)]), (8, .lit 63 [pI c.x, pI c.y]), (11, .lit 63 [pI c.x, pI (c.y + 1)]), (5008, .row 81 (t32.flatMap Crack.cs))]⟩) hm (fun o h => ?_) ?_
            · refine awp_seq ?_
              refine chk_el h (fun k14 h => ?_)
              refine bind_el h (fun b2 k15 h => ?_)
              refine awp_regionD Try_mixed (orcs := [(5, tV (pB b2))]) (gs := [.keep [1, 3, 4, 5, 6, 7, 8, 10, 11, 78] [1, 8, 10, 11, 5007]]) (s' := ⟨[(1, .ptr 1 0), (3, .own 5007 0 t31.length 4), (4, .p (encL Cell.cs v)), (5, pI t5), (6, pI c.x), (7, pI c.y), (8, .ptr 8 0), (10, .ptr 10 0), (11, .ptr 11 0), (78, pB (!b2))], [(1, .lit 24 [.p (encL Row.cs t0.rows)]), (8, .lit 63 [pI c.x, pI c.y]), (10, .lit 63 [pI (c.x + 1), pI (c.y + 1)]), (11, .lit 63 [pI c.x, pI (c.y + 1)]), (5007, .row 81 (t31.flatMap Crack.cs))]⟩) (by kernel_rfl) (holds_of ((UU ∧ UU ∧ UU ∧ (InR .i64 (c.y + 1 : Int)) ∧ UU ∧ (ASpec Try.prog 57 [.agg [.p (encL Row.cs t0.rows)], .agg [pI c.x, pI (c.y + 1)]] [] (pB b2) []) ∧ UU ∧ UU) ∧ (UU ∧ UU)) (by kernel_rfl) ⟨⟨TT, TT, TT, k14, TT, R18_Contains_ok k15, TT, TT⟩, ⟨TT, TT⟩⟩) ?_
              refine Done.mk (thenQ_n ?_)
              refine ifB_el h (fun k16 h => ?_) (fun k16 h => ?_)
              · refine awp_cond_t (b := !b2) (by kernel_rfl) k16 ?_
                refine chk_el h (fun k17 h => ?_)
                refine awp_regionD Try_mixed (orcs := [(5, tV (.own 84 0 (t31 ++ ([Crack.mk (Pt.mk (c.x + 1) (c.y + 1)) (Pt.mk c.x (c.y + 1))])).length 4))]) (gs := [.castB 84 (.row 81 ((t31 ++ ([Crack.mk (Pt.mk (c.x + 1) (c.y + 1)) (Pt.mk c.x (c.y + 1))])).flatMap Crack.cs)), .keep [1, 3, 4, 5, 6, 7, 8, 11] [1, 8, 11, 84]]) (s' := ⟨[(1, .ptr 1 0), (3, .own 84 0 (t31 ++ ([Crack.mk (Pt.mk (c.x + 1) (c.y + 1)) (Pt.mk c.x (c.y + 1))])).length 4), (4, .p (encL Cell.cs v)), (5, pI t5), (6, pI c.x), (7, pI c.y), (8, .ptr 8 0), (11, .ptr 11 0)], [(1, .lit 24 [.p (encL Row.cs t0.rows)]), (8, .lit 63 [pI c.x, pI c.y]), (11, .lit 63 [pI c.x, pI (c.y + 1)]), (84, .row 81 ((t31 ++ ([Crack.mk (Pt.mk (c.x + 1) (c.y + 1)) (Pt.mk c.x (c.y + 1))])).flatMap Crack.cs))]⟩) (by kernel_rfl) (holds_of ((UU ∧ UU ∧ UU ∧ UU ∧ UU ∧ ((((t31.flatMap Crack.cs).length = t31.length * 4 ∧ (([Crack.mk (Pt.mk (c.x + 1) (c.y + 1)) (Pt.mk c.x (c.y + 1))]).flatMap Crack.cs).length = ([Crack.mk (Pt.mk (c.x + 1) (c.y + 1)) (Pt.mk c.x (c.y + 1))]).length * 4 ∧ (t31.length + ([Crack.mk (Pt.mk (c.x + 1) (c.y + 1)) (Pt.mk c.x (c.y + 1))]).length) * 32 ≤ 140737488355328 ∧ t31.length + ([Crack.mk (Pt.mk (c.x + 1) (c.y + 1)) (Pt.mk c.x (c.y + 1))]).length ≤ 9223372036854775807) ∧ some (AV.own 84 0 (t31.length + ([Crack.mk (Pt.mk (c.x + 1) (c.y + 1)) (Pt.mk c.x (c.y + 1))]).length) 4) = some (AV.own 84 0 (t31 ++ ([Crack.mk (Pt.mk (c.x + 1) (c.y + 1)) (Pt.mk c.x (c.y + 1))])).length 4))) ∧ UU ∧ UU) ∧ ((some (ABlk.row 81 (t31.flatMap Crack.cs ++ ([Crack.mk (Pt.mk (c.x + 1) (c.y + 1)) (Pt.mk c.x (c.y + 1))]).flatMap Crack.cs)) = some (ABlk.row 81 ((t31 ++ ([Crack.mk (Pt.mk (c.x + 1) (c.y + 1)) (Pt.mk c.x (c.y + 1))])).flatMap Crack.cs))) ∧ UU ∧ UU)) (by kernel_rfl) ⟨⟨TT, TT, TT, TT, TT, ⟨⟨flat_len Crack.cs_len _, flat_len Crack.cs_len _, by omega, by omega⟩, app_len _ _ _ _⟩, TT, TT⟩, ⟨(app_row Crack.cs _ _ _), TT, TT⟩⟩) ?_
                refine Done.gh [.keep [1, 3, 4, 5, 6, 7, 8, 11] [1, 8, 11, 84], .ren 84 5008, .keep [1, 3, 4, 5, 6, 7, 8, 11] [1, 8, 11, 5008]] (s' := ⟨[(1, .ptr 1 0), (3, .own 5008 0 (t31 ++ ([Crack.mk (Pt.mk (c.x + 1) (c.y + 1)) (Pt.mk c.x (c.y + 1))])).length 4), (4, .p (encL Cell.cs v)), (5, pI t5), (6, pI c.x), (7, pI c.y), (8, .ptr 8 0), (11, .ptr 11 0)], [(1, .lit 24 [.p (encL Row.cs t0.rows)]), (8, .lit 63 [pI c.x, pI c.y]), (11, .lit 63 [pI c.x, pI (c.y + 1)]), (5008, .row 81 ((t31 ++ ([Crack.mk (Pt.mk (c.x + 1) (c.y + 1)) (Pt.mk c.x (c.y + 1))])).flatMap Crack.cs))]⟩) (by kernel_rfl) (holds_of (UU ∧ UU ∧ UU ∧ UU) (by kernel_rfl) ⟨TT, TT, TT, TT⟩) ?_
                refine Done.mk ?_
                obtain rfl := Option.some.inj h
                exact ⟨rfl, by kernel_rfl⟩
              · refine awp_cond_f (b := !b2) (by kernel_rfl) k16 ?_
                refine doneSkip ?_
                refine Done.gh [.keep [1, 3, 4, 5, 6, 7, 8, 11] [1, 8, 11, 5007], .ren 5007 5008, .keep [1, 3, 4, 5, 6, 7, 8, 11] [1, 8, 11, 5008]] (s' := ⟨[(1, .ptr 1 0), (3, .own 5008 0 t31.length 4), (4, .p (encL Cell.cs v)), (5, pI t5), (6, pI c.x), (7, pI c.y), (8, .ptr 8 0), (11, .ptr 11 0)], [(1, .lit 24 [.p (encL Row.cs t0.rows)]), (8, .lit 63 [pI c.x, pI c.y]), (11, .lit 63 [pI c.x, pI (c.y + 1)]), (5008, .row 81 (t31.flatMap Crack.cs))]⟩) (by kernel_rfl) (holds_of (UU ∧ UU ∧ UU ∧ UU) (by kernel_rfl) ⟨TT, TT, TT, TT⟩) ?_
                refine Done.mk ?_
                obtain rfl := Option.some.inj h
                exact ⟨rfl, by kernel_rfl⟩
            · have _ := hm
              refine Done.as (e := Exit.normal) (s := ⟨[(1, .ptr 1 0), (3, .own 5008 0 t32.length 4), (4, .p (encL Cell.cs v)), (5, pI t5), (6, pI c.x), (7, pI c.y), (8, .ptr 8 0), (11, .ptr 11 0)], [(1, .lit 24 [.p (encL Row.cs t0.rows)]), (8, .lit 63 [pI c.x, pI c.y]), (11, .lit 63 [pI c.x, pI (c.y + 1)]), (5008, .row 81 (t32.flatMap Crack.cs))]⟩) rfl (by kernel_rfl) ?_
              refine Done.mk (thenQ_n ?_)
              refine awp_seq ?_
              refine chk_el h (fun k18 h => ?_)
              refine bind_el h (fun b3 k19 h => ?_)
              refine awp_regionD Try_mixed (orcs := [(5, tV (pB b3))]) (gs := [.keep [1, 3, 4, 5, 8, 11, 91] [1, 8, 11, 5008]]) (s' := ⟨[(1, .ptr 1 0), (3, .own 5008 0 t32.length 4), (4, .p (encL Cell.cs v)), (5, pI t5), (8, .ptr 8 0), (11, .ptr 11 0), (91, pB (!b3))], [(1, .lit 24 [.p (encL Row.cs t0.rows)]), (8, .lit 63 [pI c.x, pI c.y]), (11, .lit 63 [pI c.x, pI (c.y + 1)]), (5008, .row 81 (t32.flatMap Crack.cs))]⟩) (by kernel_rfl) (holds_of ((UU ∧ UU ∧ (InR .i64 (c.x - 1 : Int)) ∧ UU ∧ UU ∧ (ASpec Try.prog 57 [.agg [.p (encL Row.cs t0.rows)], .agg [pI (c.x - 1), pI c.y]] [] (pB b3) []) ∧ UU ∧ UU) ∧ (UU ∧ UU)) (by kernel_rfl) ⟨⟨TT, TT, k18, TT, TT, R18_Contains_ok k19, TT, TT⟩, ⟨TT, TT⟩⟩) ?_
              refine Done.mk (thenQ_n ?_)
              refine ifB_el h (fun k20 h => ?_) (fun k20 h => ?_)
              · refine awp_cond_t (b := !b3) (by kernel_rfl) k20 ?_
                refine chk_el h (fun k21 h => ?_)
                refine awp_regionD Try_mixed (orcs := [(5, tV (.own 97 0 (t32 ++ ([Crack.mk (Pt.mk c.x (c.y + 1)) (Pt.mk c.x c.y)])).length 4))]) (gs := [.castB 97 (.row 81 ((t32 ++ ([Crack.mk (Pt.mk c.x (c.y + 1)) (Pt.mk c.x c.y)])).flatMap Crack.cs)), .keep [1, 3, 4, 5] [1, 97]]) (s' := ⟨[(1, .ptr 1 0), (3, .own 97 0 (t32 ++ ([Crack.mk (Pt.mk c.x (c.y + 1)) (Pt.mk c.x c.y)])).length 4), (4, .p (encL Cell.cs v)), (5, pI t5)], [(1, .lit 24 [.p (encL Row.cs t0.rows)]), (97, .row 81 ((t32 ++ ([Crack.mk (Pt.mk c.x (c.y + 1)) (Pt.mk c.x c.y)])).flatMap Crack.cs))]⟩) (by kernel_rfl) (holds_of ((UU ∧ UU ∧ UU ∧ UU ∧ UU ∧ ((((t32.flatMap Crack.cs).length = t32.length * 4 ∧ (([Crack.mk (Pt.mk c.x (c.y + 1)) (Pt.mk c.x c.y)]).flatMap Crack.cs).length = ([Crack.mk (Pt.mk c.x (c.y + 1)) (Pt.mk c.x c.y)]).length * 4 ∧ (t32.length + ([Crack.mk (Pt.mk c.x (c.y + 1)) (Pt.mk c.x c.y)]).length) * 32 ≤ 140737488355328 ∧ t32.length + ([Crack.mk (Pt.mk c.x (c.y + 1)) (Pt.mk c.x c.y)]).length ≤ 9223372036854775807) ∧ some (AV.own 97 0 (t32.length + ([Crack.mk (Pt.mk c.x (c.y + 1)) (Pt.mk c.x c.y)]).length) 4) = some (AV.own 97 0 (t32 ++ ([Crack.mk (Pt.mk c.x (c.y + 1)) (Pt.mk c.x c.y)])).length 4))) ∧ UU ∧ UU) ∧ ((some (ABlk.row 81 (t32.flatMap Crack.cs ++ ([Crack.mk (Pt.mk c.x (c.y + 1)) (Pt.mk c.x c.y)]).flatMap Crack.cs)) = some (ABlk.row 81 ((t32 ++ ([Crack.mk (Pt.mk c.x (c.y + 1)) (Pt.mk c.x c.y)])).flatMap Crack.cs))) ∧ UU ∧ UU)) (by kernel_rfl) ⟨⟨TT, TT, TT, TT, TT, ⟨⟨flat_len Crack.cs_len _, flat_len Crack.cs_len _, by omega, by omega⟩, app_len _ _ _ _⟩, TT, TT⟩, ⟨(app_row Crack.cs _ _ _), TT, TT⟩⟩) ?_
                refine Done.gh [.keep [1, 3, 4, 5] [1, 97], .ren 97 5009, .keep [1, 3, 4, 5] [1, 5009]] (s' := ⟨[(1, .ptr 1 0), (3, .own 5009 0 (t32 ++ ([Crack.mk (Pt.mk c.x (c.y + 1)) (Pt.mk c.x c.y)])).length 4), (4, .p (encL Cell.cs v)), (5, pI t5)], [(1, .lit 24 [.p (encL Row.cs t0.rows)]), (5009, .row 81 ((t32 ++ ([Crack.mk (Pt.mk c.x (c.y + 1)) (Pt.mk c.x c.y)])).flatMap Crack.cs))]⟩) (by kernel_rfl) (holds_of (UU ∧ UU ∧ UU ∧ UU) (by kernel_rfl) ⟨TT, TT, TT, TT⟩) ?_
                refine Done.mk (inB_n ?_)
                obtain rfl := Option.some.inj h
                exact ⟨rfl, by kernel_rfl⟩
              · refine awp_cond_f (b := !b3) (by kernel_rfl) k20 ?_
                refine doneSkip ?_
                refine Done.gh [.keep [1, 3, 4, 5] [1, 5008], .ren 5008 5009, .keep [1, 3, 4, 5] [1, 5009]] (s' := ⟨[(1, .ptr 1 0), (3, .own 5009 0 t32.length 4), (4, .p (encL Cell.cs v)), (5, pI t5)], [(1, .lit 24 [.p (encL Row.cs t0.rows)]), (5009, .row 81 (t32.flatMap Crack.cs))]⟩) (by kernel_rfl) (holds_of (UU ∧ UU ∧ UU ∧ UU) (by kernel_rfl) ⟨TT, TT, TT, TT⟩) ?_
                refine Done.mk (inB_n ?_)
                obtain rfl := Option.some.inj h
                exact ⟨rfl, by kernel_rfl⟩
      · have _ := hm
        refine Done.as (e := Exit.normal) (s := ⟨[(1, .ptr 1 0), (3, .own 5009 0 t33.length 4), (4, .p (encL Cell.cs v)), (5, pI t5)], [(1, .lit 24 [.p (encL Row.cs t0.rows)]), (5009, .row 81 (t33.flatMap Crack.cs))]⟩) rfl (by kernel_rfl) ?_
        refine Done.mk (thenQ_n ?_)
        refine chk_el h (fun k22 h => ?_)
        refine awp_regionD Try_mixed (orcs := []) (gs := [.keep [1, 3, 4, 5] [1, 5009]]) (s' := ⟨[(1, .ptr 1 0), (3, .own 5009 0 t33.length 4), (4, .p (encL Cell.cs v)), (5, pI (t5 + 1))], [(1, .lit 24 [.p (encL Row.cs t0.rows)]), (5009, .row 81 (t33.flatMap Crack.cs))]⟩) (by kernel_rfl) (holds_of ((UU ∧ (InR .i64 (t5 + 1 : Int)) ∧ UU ∧ UU) ∧ (UU ∧ UU)) (by kernel_rfl) ⟨⟨TT, k22, TT, TT⟩, ⟨TT, TT⟩⟩) ?_
        refine Done.gh [.keep [1, 3, 4, 5] [1, 5009], .ren 5009 5005, .keep [1, 3, 4, 5] [1, 5005]] (s' := ⟨[(1, .ptr 1 0), (3, .own 5005 0 t33.length 4), (4, .p (encL Cell.cs v)), (5, pI (t5 + 1))], [(1, .lit 24 [.p (encL Row.cs t0.rows)]), (5005, .row 81 (t33.flatMap Crack.cs))]⟩) (by kernel_rfl) (holds_of (UU ∧ UU ∧ UU ∧ UU) (by kernel_rfl) ⟨TT, TT, TT, TT⟩) ?_
        refine Done.mk ?_
        obtain rfl := Option.some.inj h
        exact ⟨rfl, by kernel_rfl⟩
    · refine awp_cond_f (b := decide (t5 < (v.length : Int))) (by kernel_rfl) k2 ?_
      refine doneExit ?_
      refine Done.gh [.keep [3] [5005], .keep [3] [5005]] (s' := ⟨[(3, .own 5005 0 t34.length 4)], [(5005, .row 81 (t34.flatMap Crack.cs))]⟩) (by kernel_rfl) (holds_of (UU ∧ UU ∧ UU) (by kernel_rfl) ⟨TT, TT, TT⟩) ?_
      refine Done.mk (thenQ_x ?_)
      obtain rfl := Option.some.inj h
      exact ⟨fun q => (by cases q), fun q => (by subst q; exact ⟨rfl, by kernel_rfl⟩)⟩
  · have _ := hm
    refine Done.as (e := (Exit.exit 0)) (s := ⟨[(3, .own 5005 0 t35.length 4)], [(5005, .row 81 (t35.flatMap Crack.cs))]⟩) rfl (by kernel_rfl) ?_
    refine Done.mk (inB_hit (thenQ_n ?_))
    refine awp_seq ?_
    refine awp_regionD Try_mixed (orcs := []) (gs := [.keep [2] [5005]]) (s' := ⟨[(2, .own 5005 0 t35.length 4)], [(5005, .row 81 (t35.flatMap Crack.cs))]⟩) (by kernel_rfl) (holds_of ((UU ∧ UU ∧ UU) ∧ (UU ∧ UU)) (by kernel_rfl) ⟨⟨TT, TT, TT⟩, ⟨TT, TT⟩⟩) ?_
    refine Done.mk (thenQ_n ?_)
    refine doneRet ?_
    refine Done.gh [.frz 5005, .keep [2] []] (s' := ⟨[(2, .p (encL Crack.cs t35))], []⟩) (by kernel_rfl) (holds_of (UU ∧ UU ∧ UU) (by kernel_rfl) ⟨TT, TT, TT⟩) ?_
    refine Done.mk ?_
    obtain rfl := Option.some.inj h
    exact ⟨Or.inr rfl, by kernel_rfl, by kernel_rfl⟩
end
end Go.AM
end
section
namespace Go.AM
open Go Go.RowKit Go.Proofs
noncomputable section
def R22_after_j1 (l : (List Crack)) (i : Int) (at_ : Int) (next_1 : Int) : Option (Bool) :=
    (getI l i).bind fun c =>
    (getI l at_).bind fun c1 =>
    ifB ((c.frm.x == c1.to.x) && ((c.frm.y == c1.to.y) && true))
    (ifB (decide (next_1 < (0 : Int)))
      (some true)
      ((R22_left (Crack.mk (Pt.mk c1.frm.x c1.frm.y) (Pt.mk c1.to.x c1.to.y)) (Crack.mk (Pt.mk c.frm.x c.frm.y) (Pt.mk c.to.x c.to.y))).bind fun b =>
        some b))
    (some false)
def R22_after_j2 (l : (List Crack)) (i : Int) (at_ : Int) (next_1 : Int) : Option (Int) :=
    (R22_after_j1 l i at_ next_1).bind fun t38 =>
    ifB (t38)
    (some i)
    (some next_1)
def R22_after_l3 (l : (List Crack)) (at_ : Int) (s : Int × Int) : Option ((Int × Int) ⊕ (Int)) :=
  match s with
  | (next_1, i) =>
    ifB (decide (i < (l.length : Int)))
    ((R22_after_j2 l i at_ next_1).bind fun next_ =>
      chk (InR .i64 (i + 1 : Int))
      (some (.inl (next_, i + 1))))
    (some (.inr next_1))
noncomputable def R22_after (l : (List Crack)) (at_ : Int) : Option Int :=
  (loopP (R22_after_l3 l at_) (-1, 0)).bind fun next_2 =>
  some next_2
set_option maxRecDepth 100000 in
set_option maxHeartbeats 4000000 in
theorem R22_after_ok {l : (List Crack)} {at_ : Int} {r : Int} (h : R22_after l at_ = some r) : ASpec Try.prog 38 [.p (encL Crack.cs l), pI at_] [] (pI r) [] := by
  refine aspec_of Try.func38 (c := _) rfl (by kernel_rfl) (by rw [Try.ntmps38]; exact Nat.le_of_ble_eq_true rfl) ?_
  refine awp_seq ?_
  refine awp_regionD Try_mixed (orcs := []) (gs := [.keep [0, 1] []]) (s' := ⟨[(0, .p (encL Crack.cs l)), (1, pI at_)], []⟩) (by kernel_rfl) (holds_of ((UU ∧ UU) ∧ (UU ∧ UU)) (by kernel_rfl) ⟨⟨TT, TT⟩, ⟨TT, TT⟩⟩) ?_
  refine Done.mk (thenQ_n ?_)
  refine awp_seq ?_
  refine awp_regionD Try_mixed (orcs := []) (gs := [.keep [0, 1, 5] []]) (s' := ⟨[(0, .p (encL Crack.cs l)), (1, pI at_), (5, pI (-1))], []⟩) (by kernel_rfl) (holds_of ((UU ∧ UU) ∧ (UU ∧ UU)) (by kernel_rfl) ⟨⟨TT, TT⟩, ⟨TT, TT⟩⟩) ?_
  refine Done.mk (thenQ_n ?_)
  refine awp_seq ?_
  refine awp_seq ?_
  refine awp_regionD Try_mixed (orcs := []) (gs := [.keep [0, 1, 5, 6] []]) (s' := ⟨[(0, .p (encL Crack.cs l)), (1, pI at_), (5, pI (-1)), (6, pI 0)], []⟩) (by kernel_rfl) (holds_of ((UU ∧ UU) ∧ (UU ∧ UU)) (by kernel_rfl) ⟨⟨TT, TT⟩, ⟨TT, TT⟩⟩) ?_
  refine Done.mk (thenQ_n ?_)
  refine awp_block ?_
  refine bind_el h (fun next_2 hm h => ?_)
  refine awp_gh [.keep [0, 1, 5, 6] [], .keep [0, 1, 5, 6] []] (s' := ⟨[(0, .p (encL Crack.cs l)), (1, pI at_), (5, pI (-1)), (6, pI 0)], []⟩) (by kernel_rfl) (holds_of (UU ∧ UU ∧ UU) (by kernel_rfl) ⟨TT, TT, TT⟩) ?_
  refine awp_tail (fun _ => (Exit.exit 0)) (fun o => match o with | next_2 => ⟨[(5, pI next_2)], []⟩) hm (fun o h => ?_) ?_
  · refine awp_loop' (fun s => match s with | (next_1, i) => ⟨[(0, .p (encL Crack.cs l)), (1, pI at_), (5, pI next_1), (6, pI i)], []⟩) h (by kernel_rfl) (fun s out h => ?_)
    obtain ⟨next_1, i⟩ := s
    refine awp_seq ?_
    refine awp_seq ?_
    refine awp_regionD Try_mixed (orcs := []) (gs := [.keep [0, 1, 5, 6, 10] []]) (s' := ⟨[(0, .p (encL Crack.cs l)), (1, pI at_), (5, pI next_1), (6, pI i), (10, pB (decide (i < (l.length : Int))))], []⟩) (by kernel_rfl) (holds_of ((UU ∧ UU ∧ UU ∧ UU ∧ UU) ∧ (UU ∧ UU)) (by kernel_rfl) ⟨⟨TT, TT, TT, TT, TT⟩, ⟨TT, TT⟩⟩) ?_
    refine Done.mk (thenQ_n ?_)
    refine ifB_el h (fun k1 h => ?_) (fun k1 h => ?_)
    · refine awp_cond_t (b := decide (i < (l.length : Int))) (by kernel_rfl) k1 ?_
      refine doneSkip ?_
      refine Done.mk (thenQ_n ?_)
      refine awp_seq ?_
      refine bind_el h (fun next_ hm h => ?_)
      refine awp_tail (fun _ => Exit.normal) (fun o => match o with | next_ => ⟨[(0, .p (encL Crack.cs l)), (1, pI at_), (5, pI next_), (6, pI i)], []⟩) hm (fun o h => ?_) ?_
      · refine awp_block ?_
        refine awp_seq ?_
        refine bind_el h (fun t38 hm h => ?_)
        refine awp_tail (fun _ => Exit.normal) (fun o => match o with | t38 => ⟨[(0, .p (encL Crack.cs l)), (1, pI at_), (5, pI next_1), (6, pI i), (38, pB t38)], []⟩) hm (fun o h => ?_) ?_
        · refine bind_el h (fun c k2 h => ?_)
          replace k2 := getI_el k2
          refine bind_el h (fun c1 k3 h => ?_)
          replace k3 := getI_el k3
          refine ifB_el h (fun k4 h => ?_) (fun k4 h => ?_)
          · refine ifB_el h (fun k5 h => ?_) (fun k5 h => ?_)
            · refine awp_regionD Try_mixed (orcs := [(4, tV (.agg [pI c.frm.x, pI c.frm.y])), (9, tV (.agg [pI c1.to.x, pI c1.to.y])), (11, tB true), (14, tB true)]) (gs := [.keep [0, 1, 5, 6, 38] []]) (s' := ⟨[(0, .p (encL Crack.cs l)), (1, pI at_), (5, pI next_1), (6, pI i), (38, pB true)], []⟩) (by kernel_rfl) (holds_of ((UU ∧ UU ∧ ((0 ≤ i ∧ i < (l.length : Int))) ∧ UU ∧ (rowHas (l.flatMap Crack.cs) (i.toNat * 4) [pI c.frm.x, pI c.frm.y]) ∧ UU ∧ UU ∧ ((0 ≤ at_ ∧ at_ < (l.length : Int))) ∧ UU ∧ (rowHas (l.flatMap Crack.cs) (at_.toNat * 4 + 2) [pI c1.to.x, pI c1.to.y]) ∧ UU ∧ ((UU ∧ some (pB ((c.frm.x == c1.to.x) && ((c.frm.y == c1.to.y) && true))) = some (pB true))) ∧ UU ∧ UU ∧ ((UU ∧ some (pB (decide (next_1 < (0 : Int)))) = some (pB true))) ∧ UU ∧ UU ∧ UU) ∧ (UU ∧ UU)) (by kernel_rfl) ⟨⟨TT, TT, k2.2, TT, row_has Crack.cs_len k2.1 (o := 0) (m := 2) (by omega) (by decide), TT, TT, k3.2, TT, row_has Crack.cs_len k3.1 (o := 2) (m := 2) (by omega) (by decide), TT, ⟨TT, by rw [k4]⟩, TT, TT, ⟨TT, by rw [k5]⟩, TT, TT, TT⟩, ⟨TT, TT⟩⟩) ?_
              refine Done.mk ?_
              obtain rfl := Option.some.inj h
              exact ⟨rfl, by kernel_rfl⟩
            · refine bind_el h (fun b k6 h => ?_)
              refine awp_regionD Try_mixed (orcs := [(4, tV (.agg [pI c.frm.x, pI c.frm.y])), (9, tV (.agg [pI c1.to.x, pI c1.to.y])), (11, tB true), (14, tB false), (18, tV (.agg [pI c1.frm.x, pI c1.frm.y, pI c1.to.x, pI c1.to.y])), (22, tV (.agg [pI c.frm.x, pI c.frm.y, pI c.to.x, pI c.to.y])), (23, tV (pB b))]) (gs := [.keep [0, 1, 5, 6, 38] []]) (s' := ⟨[(0, .p (encL Crack.cs l)), (1, pI at_), (5, pI next_1), (6, pI i), (38, pB b)], []⟩) (by kernel_rfl) (holds_of ((UU ∧ UU ∧ ((0 ≤ i ∧ i < (l.length : Int))) ∧ UU ∧ (rowHas (l.flatMap Crack.cs) (i.toNat * 4) [pI c.frm.x, pI c.frm.y]) ∧ UU ∧ UU ∧ ((0 ≤ at_ ∧ at_ < (l.length : Int))) ∧ UU ∧ (rowHas (l.flatMap Crack.cs) (at_.toNat * 4 + 2) [pI c1.to.x, pI c1.to.y]) ∧ UU ∧ ((UU ∧ some (pB ((c.frm.x == c1.to.x) && ((c.frm.y == c1.to.y) && true))) = some (pB true))) ∧ UU ∧ UU ∧ ((UU ∧ some (pB (decide (next_1 < (0 : Int)))) = some (pB false))) ∧ UU ∧ UU ∧ ((0 ≤ at_ ∧ at_ < (l.length : Int))) ∧ (rowHas (l.flatMap Crack.cs) (at_.toNat * 4) [pI c1.frm.x, pI c1.frm.y, pI c1.to.x, pI c1.to.y]) ∧ UU ∧ UU ∧ ((0 ≤ i ∧ i < (l.length : Int))) ∧ (rowHas (l.flatMap Crack.cs) (i.toNat * 4) [pI c.frm.x, pI c.frm.y, pI c.to.x, pI c.to.y]) ∧ (ASpec Try.prog 58 [.agg [pI c1.frm.x, pI c1.frm.y, pI c1.to.x, pI c1.to.y], .agg [pI c.frm.x, pI c.frm.y, pI c.to.x, pI c.to.y]] [] (pB b) []) ∧ UU ∧ UU ∧ UU) ∧ (UU ∧ UU)) (by kernel_rfl) ⟨⟨TT, TT, k2.2, TT, row_has Crack.cs_len k2.1 (o := 0) (m := 2) (by omega) (by decide), TT, TT, k3.2, TT, row_has Crack.cs_len k3.1 (o := 2) (m := 2) (by omega) (by decide), TT, ⟨TT, by rw [k4]⟩, TT, TT, ⟨TT, by rw [k5]⟩, TT, TT, k3.2, row_has Crack.cs_len k3.1 (o := 0) (m := 4) (by omega) (by decide), TT, TT, k2.2, row_has Crack.cs_len k2.1 (o := 0) (m := 4) (by omega) (by decide), R22_left_ok k6, TT, TT, TT⟩, ⟨TT, TT⟩⟩) ?_
              refine Done.mk ?_
              obtain rfl := Option.some.inj h
              exact ⟨rfl, by kernel_rfl⟩
          · refine awp_regionD Try_mixed (orcs := [(4, tV (.agg [pI c.frm.x, pI c.frm.y])), (9, tV (.agg [pI c1.to.x, pI c1.to.y])), (11, tB false)]) (gs := [.keep [0, 1, 5, 6, 38] []]) (s' := ⟨[(0, .p (encL Crack.cs l)), (1, pI at_), (5, pI next_1), (6, pI i), (38, pB false)], []⟩) (by kernel_rfl) (holds_of ((UU ∧ UU ∧ ((0 ≤ i ∧ i < (l.length : Int))) ∧ UU ∧ (rowHas (l.flatMap Crack.cs) (i.toNat * 4) [pI c.frm.x, pI c.frm.y]) ∧ UU ∧ UU ∧ ((0 ≤ at_ ∧ at_ < (l.length : Int))) ∧ UU ∧ (rowHas (l.flatMap Crack.cs) (at_.toNat * 4 + 2) [pI c1.to.x, pI c1.to.y]) ∧ UU ∧ ((UU ∧ some (pB ((c.frm.x == c1.to.x) && ((c.frm.y == c1.to.y) && true))) = some (pB false))) ∧ UU ∧ UU) ∧ (UU ∧ UU)) (by kernel_rfl) ⟨⟨TT, TT, k2.2, TT, row_has Crack.cs_len k2.1 (o := 0) (m := 2) (by omega) (by decide), TT, TT, k3.2, TT, row_has Crack.cs_len k3.1 (o := 2) (m := 2) (by omega) (by decide), TT, ⟨TT, by rw [k4]⟩, TT, TT⟩, ⟨TT, TT⟩⟩) ?_
            refine Done.mk ?_
            obtain rfl := Option.some.inj h
            exact ⟨rfl, by kernel_rfl⟩
        · have _ := hm
          refine Done.as (e := Exit.normal) (s := ⟨[(0, .p (encL Crack.cs l)), (1, pI at_), (5, pI next_1), (6, pI i), (38, pB t38)], []⟩) rfl (by kernel_rfl) ?_
          refine Done.mk (thenQ_n ?_)
          refine ifB_el h (fun k7 h => ?_) (fun k7 h => ?_)
          · refine awp_cond_t (b := t38) (by kernel_rfl) k7 ?_
            refine awp_regionD Try_mixed (orcs := []) (gs := [.keep [0, 1, 5, 6] []]) (s' := ⟨[(0, .p (encL Crack.cs l)), (1, pI at_), (5, pI i), (6, pI i)], []⟩) (by kernel_rfl) (holds_of ((UU ∧ UU ∧ UU) ∧ (UU ∧ UU)) (by kernel_rfl) ⟨⟨TT, TT, TT⟩, ⟨TT, TT⟩⟩) ?_
            refine Done.mk (inB_n ?_)
            obtain rfl := Option.some.inj h
            exact ⟨rfl, by kernel_rfl⟩
          · refine awp_cond_f (b := t38) (by kernel_rfl) k7 ?_
            refine doneSkip ?_
            refine Done.gh [.keep [0, 1, 5, 6] [], .keep [0, 1, 5, 6] []] (s' := ⟨[(0, .p (encL Crack.cs l)), (1, pI at_), (5, pI next_1), (6, pI i)], []⟩) (by kernel_rfl) (holds_of (UU ∧ UU ∧ UU) (by kernel_rfl) ⟨TT, TT, TT⟩) ?_
            refine Done.mk (inB_n ?_)
            obtain rfl := Option.some.inj h
            exact ⟨rfl, by kernel_rfl⟩
      · have _ := hm
        refine Done.as (e := Exit.normal) (s := ⟨[(0, .p (encL Crack.cs l)), (1, pI at_), (5, pI next_), (6, pI i)], []⟩) rfl (by kernel_rfl) ?_
        refine Done.mk (thenQ_n ?_)
        refine chk_el h (fun k8 h => ?_)
        refine awp_regionD Try_mixed (orcs := []) (gs := [.keep [0, 1, 5, 6] []]) (s' := ⟨[(0, .p (encL Crack.cs l)), (1, pI at_), (5, pI next_), (6, pI (i + 1))], []⟩) (by kernel_rfl) (holds_of ((UU ∧ (InR .i64 (i + 1 : Int)) ∧ UU ∧ UU) ∧ (UU ∧ UU)) (by kernel_rfl) ⟨⟨TT, k8, TT, TT⟩, ⟨TT, TT⟩⟩) ?_
        refine Done.mk ?_
        obtain rfl := Option.some.inj h
        exact ⟨rfl, by kernel_rfl⟩
    · refine awp_cond_f (b := decide (i < (l.length : Int))) (by kernel_rfl) k1 ?_
      refine doneExit ?_
      refine Done.gh [.keep [5] [], .keep [5] []] (s' := ⟨[(5, pI next_1)], []⟩) (by kernel_rfl) (holds_of (UU ∧ UU ∧ UU) (by kernel_rfl) ⟨TT, TT, TT⟩) ?_
      refine Done.mk (thenQ_x ?_)
      obtain rfl := Option.some.inj h
      exact ⟨fun q => (by cases q), fun q => (by subst q; exact ⟨rfl, by kernel_rfl⟩)⟩
  · have _ := hm
    refine Done.as (e := (Exit.exit 0)) (s := ⟨[(5, pI next_2)], []⟩) rfl (by kernel_rfl) ?_
    refine Done.mk (inB_hit (thenQ_n ?_))
    refine awp_seq ?_
    refine awp_regionD Try_mixed (orcs := []) (gs := [.keep [4] []]) (s' := ⟨[(4, pI next_2)], []⟩) (by kernel_rfl) (holds_of ((UU ∧ UU ∧ UU) ∧ (UU ∧ UU)) (by kernel_rfl) ⟨⟨TT, TT, TT⟩, ⟨TT, TT⟩⟩) ?_
    refine Done.mk (thenQ_n ?_)
    refine doneRet ?_
    refine Done.mk ?_
    obtain rfl := Option.some.inj h
    exact ⟨Or.inr rfl, by kernel_rfl, by kernel_rfl⟩
end
end Go.AM
end
section
namespace Go.AM
open Go Go.RowKit Go.Proofs
noncomputable section
def R22_insert_j1 (k : Int) (l : (List Poly)) (p_ : Poly) : Option (Bool) :=
    ifB (decide (k < (l.length : Int)))
    ((getI l k).bind fun p_1 =>
      (getI p_1.pts (0 : Int)).bind fun p_2 =>
      (getI p_.pts (0 : Int)).bind fun p_3 =>
      (R22_lower p_2 p_3).bind fun b =>
      some b)
    (some false)
def R22_insert_l2 (l : (List Poly)) (p_ : Poly) (s : Int) : Option ((Int) ⊕ (Int)) :=
  match s with
  | k =>
    (R22_insert_j1 k l p_).bind fun t24 =>
    ifB (t24)
    (chk (InR .i64 (k + 1 : Int))
      (some (.inl (k + 1))))
    (some (.inr k))
noncomputable def R22_insert (l : (List Poly)) (p_ : Poly) : Option (List Poly) :=
  (loopP (R22_insert_l2 l p_) 0).bind fun k1 =>
  chk ((0 ≤ k1 ∧ k1 ≤ (l.length : Int)))
  (chk ((([] : List Poly)).length + (l.take k1.toNat).length ≤ 1099511627776)
  (chk (((([] : List Poly)) ++ (l.take k1.toNat)).length + ([p_]).length ≤ 1099511627776)
  (chk ((((([] : List Poly)) ++ (l.take k1.toNat)) ++ ([p_])).length + (l.drop k1.toNat).length ≤ 1099511627776)
  (some ((((([] : List Poly)) ++ (l.take k1.toNat)) ++ ([p_])) ++ (l.drop k1.toNat))))))
set_option maxRecDepth 100000 in
set_option maxHeartbeats 4000000 in
theorem R22_insert_ok {l : (List Poly)} {p_ : Poly} {r : (List Poly)} (h : R22_insert l p_ = some r) : ASpec Try.prog 39 [.p (encL Poly.cs l), .agg [.p (encL Pt.cs p_.pts)]] [] (.p (encL Poly.cs r)) [] := by
  refine aspec_of Try.func39 (c := _) rfl (by kernel_rfl) (by rw [Try.ntmps39]; exact Nat.le_of_ble_eq_true rfl) ?_
  refine awp_seq ?_
  refine awp_regionD Try_mixed (orcs := []) (gs := [.keep [0, 3] [3]]) (s' := ⟨[(0, .p (encL Poly.cs l)), (3, .ptr 3 0)], [(3, .lit 53 [.p (encL Pt.cs p_.pts)])]⟩) (by kernel_rfl) (holds_of ((UU ∧ UU ∧ UU) ∧ (UU ∧ UU)) (by kernel_rfl) ⟨⟨TT, TT, TT⟩, ⟨TT, TT⟩⟩) ?_
  refine Done.mk (thenQ_n ?_)
  refine awp_seq ?_
  refine awp_regionD Try_mixed (orcs := []) (gs := [.keep [0, 3, 5] [3]]) (s' := ⟨[(0, .p (encL Poly.cs l)), (3, .ptr 3 0), (5, pI 0)], [(3, .lit 53 [.p (encL Pt.cs p_.pts)])]⟩) (by kernel_rfl) (holds_of ((UU ∧ UU) ∧ (UU ∧ UU)) (by kernel_rfl) ⟨⟨TT, TT⟩, ⟨TT, TT⟩⟩) ?_
  refine Done.mk (thenQ_n ?_)
  refine awp_seq ?_
  refine awp_block ?_
  refine bind_el h (fun k1 hm h => ?_)
  refine awp_gh [.keep [0, 3, 5] [3], .keep [0, 3, 5] [3]] (s' := ⟨[(0, .p (encL Poly.cs l)), (3, .ptr 3 0), (5, pI 0)], [(3, .lit 53 [.p (encL Pt.cs p_.pts)])]⟩) (by kernel_rfl) (holds_of (UU ∧ UU ∧ UU) (by kernel_rfl) ⟨TT, TT, TT⟩) ?_
  refine awp_tail (fun _ => (Exit.exit 0)) (fun o => match o with | k1 => ⟨[(0, .p (encL Poly.cs l)), (3, .ptr 3 0), (5, pI k1)], [(3, .lit 53 [.p (encL Pt.cs p_.pts)])]⟩) hm (fun o h => ?_) ?_
  · refine awp_loop' (fun s => match s with | k => ⟨[(0, .p (encL Poly.cs l)), (3, .ptr 3 0), (5, pI k)], [(3, .lit 53 [.p (encL Pt.cs p_.pts)])]⟩) h (by kernel_rfl) (fun k out h => ?_)
    refine awp_seq ?_
    refine awp_seq ?_
    refine bind_el h (fun t24 hm h => ?_)
    refine awp_tail (fun _ => Exit.normal) (fun o => match o with | t24 => ⟨[(0, .p (encL Poly.cs l)), (3, .ptr 3 0), (5, pI k), (24, pB t24)], [(3, .lit 53 [.p (encL Pt.cs p_.pts)])]⟩) hm (fun o h => ?_) ?_
    · refine ifB_el h (fun k1 h => ?_) (fun k1 h => ?_)
      · refine bind_el h (fun p_1 k2 h => ?_)
        replace k2 := getI_el k2
        refine bind_el h (fun p_2 k3 h => ?_)
        replace k3 := getI_el k3
        refine bind_el h (fun p_3 k4 h => ?_)
        replace k4 := getI_el k4
        refine bind_el h (fun b k5 h => ?_)
        refine awp_regionD Try_mixed (orcs := [(4, tB true), (9, tV (.p (encL Pt.cs p_1.pts))), (11, tV (.agg [pI p_2.x, pI p_2.y])), (15, tV (.agg [pI p_3.x, pI p_3.y])), (16, tV (pB b))]) (gs := [.keep [0, 3, 5, 24] [3]]) (s' := ⟨[(0, .p (encL Poly.cs l)), (3, .ptr 3 0), (5, pI k), (24, pB b)], [(3, .lit 53 [.p (encL Pt.cs p_.pts)])]⟩) (by kernel_rfl) (holds_of ((UU ∧ UU ∧ UU ∧ UU ∧ ((UU ∧ some (pB (decide (k < (l.length : Int)))) = some (pB true))) ∧ UU ∧ UU ∧ ((0 ≤ k ∧ k < (l.length : Int))) ∧ UU ∧ ((l.flatMap Poly.cs)[k.toNat * 1]? = some (encL Pt.cs p_1.pts)) ∧ ((0 ≤ (0 : Int) ∧ (0 : Int) < (p_1.pts.length : Int))) ∧ (rowHas (p_1.pts.flatMap Pt.cs) ((0 : Int).toNat * 2) [pI p_2.x, pI p_2.y]) ∧ UU ∧ UU ∧ ((0 ≤ (0 : Int) ∧ (0 : Int) < (p_.pts.length : Int))) ∧ (rowHas (p_.pts.flatMap Pt.cs) ((0 : Int).toNat * 2) [pI p_3.x, pI p_3.y]) ∧ (ASpec Try.prog 59 [.agg [pI p_2.x, pI p_2.y], .agg [pI p_3.x, pI p_3.y]] [] (pB b) []) ∧ UU ∧ UU) ∧ (UU ∧ UU)) (by kernel_rfl) ⟨⟨TT, TT, TT, TT, ⟨TT, by rw [k1]⟩, TT, TT, k2.2, TT, row_at Poly.cs_len k2.1 (j := 0) (by omega) (by decide), k3.2, row_has Pt.cs_len k3.1 (o := 0) (m := 2) (by omega) (by decide), TT, TT, k4.2, row_has Pt.cs_len k4.1 (o := 0) (m := 2) (by omega) (by decide), R22_lower_ok k5, TT, TT⟩, ⟨TT, TT⟩⟩) ?_
        refine Done.mk ?_
        obtain rfl := Option.some.inj h
        exact ⟨rfl, by kernel_rfl⟩
      · refine awp_regionD Try_mixed (orcs := [(4, tB false)]) (gs := [.keep [0, 3, 5, 24] [3]]) (s' := ⟨[(0, .p (encL Poly.cs l)), (3, .ptr 3 0), (5, pI k), (24, pB false)], [(3, .lit 53 [.p (encL Pt.cs p_.pts)])]⟩) (by kernel_rfl) (holds_of ((UU ∧ UU ∧ UU ∧ UU ∧ ((UU ∧ some (pB (decide (k < (l.length : Int)))) = some (pB false))) ∧ UU ∧ UU) ∧ (UU ∧ UU)) (by kernel_rfl) ⟨⟨TT, TT, TT, TT, ⟨TT, by rw [k1]⟩, TT, TT⟩, ⟨TT, TT⟩⟩) ?_
        refine Done.mk ?_
        obtain rfl := Option.some.inj h
        exact ⟨rfl, by kernel_rfl⟩
    · have _ := hm
      refine Done.as (e := Exit.normal) (s := ⟨[(0, .p (encL Poly.cs l)), (3, .ptr 3 0), (5, pI k), (24, pB t24)], [(3, .lit 53 [.p (encL Pt.cs p_.pts)])]⟩) rfl (by kernel_rfl) ?_
      refine Done.mk (thenQ_n ?_)
      refine ifB_el h (fun k6 h => ?_) (fun k6 h => ?_)
      · refine awp_cond_t (b := t24) (by kernel_rfl) k6 ?_
        refine doneSkip ?_
        refine Done.mk (thenQ_n ?_)
        refine awp_block ?_
        refine chk_el h (fun k7 h => ?_)
        refine awp_regionD Try_mixed (orcs := []) (gs := [.keep [0, 3, 5] [3]]) (s' := ⟨[(0, .p (encL Poly.cs l)), (3, .ptr 3 0), (5, pI (k + 1))], [(3, .lit 53 [.p (encL Pt.cs p_.pts)])]⟩) (by kernel_rfl) (holds_of ((UU ∧ (InR .i64 (k + 1 : Int)) ∧ UU ∧ UU) ∧ (UU ∧ UU)) (by kernel_rfl) ⟨⟨TT, k7, TT, TT⟩, ⟨TT, TT⟩⟩) ?_
        refine Done.mk (inB_n ?_)
        obtain rfl := Option.some.inj h
        exact ⟨rfl, by kernel_rfl⟩
      · refine awp_cond_f (b := t24) (by kernel_rfl) k6 ?_
        refine doneExit ?_
        refine Done.gh [.keep [0, 3, 5] [3], .keep [0, 3, 5] [3]] (s' := ⟨[(0, .p (encL Poly.cs l)), (3, .ptr 3 0), (5, pI k)], [(3, .lit 53 [.p (encL Pt.cs p_.pts)])]⟩) (by kernel_rfl) (holds_of (UU ∧ UU ∧ UU) (by kernel_rfl) ⟨TT, TT, TT⟩) ?_
        refine Done.mk (thenQ_x ?_)
        obtain rfl := Option.some.inj h
        exact ⟨fun q => (by cases q), fun q => (by subst q; exact ⟨rfl, by kernel_rfl⟩)⟩
  · have _ := hm
    refine Done.as (e := (Exit.exit 0)) (s := ⟨[(0, .p (encL Poly.cs l)), (3, .ptr 3 0), (5, pI k1)], [(3, .lit 53 [.p (encL Pt.cs p_.pts)])]⟩) rfl (by kernel_rfl) ?_
    refine Done.mk (inB_hit (thenQ_n ?_))
    refine awp_seq ?_
    refine chk_el h (fun k8 h => ?_)
    refine chk_el h (fun k9 h => ?_)
    refine awp_regionD Try_mixed (orcs := [(0, { own := true }), (3, tV (.p (encL Poly.cs (l.take k1.toNat)))), (4, tV (.own 31 0 ((([] : List Poly)) ++ (l.take k1.toNat)).length 1))]) (gs := [.castB 31 (.row 53 (((([] : List Poly)) ++ (l.take k1.toNat)).flatMap Poly.cs)), .keep [0, 3, 5, 6] [3, 31]]) (s' := ⟨[(0, .p (encL Poly.cs l)), (3, .ptr 3 0), (5, pI k1), (6, .own 31 0 ((([] : List Poly)) ++ (l.take k1.toNat)).length 1)], [(3, .lit 53 [.p (encL Pt.cs p_.pts)]), (31, .row 53 (((([] : List Poly)) ++ (l.take k1.toNat)).flatMap Poly.cs))]⟩) (by kernel_rfl) (holds_of ((UU ∧ UU ∧ UU ∧ (((0 ≤ k1 ∧ k1 ≤ (l.length : Int)) ∧ some (AV.p (.sl ((l.flatMap Poly.cs).take (k1.toNat * 1)) k1.toNat)) = some (AV.p (encL Poly.cs (l.take k1.toNat))))) ∧ (((((([] : List Poly)).flatMap Poly.cs).length = (([] : List Poly)).length * 1 ∧ ((l.take k1.toNat).flatMap Poly.cs).length = (l.take k1.toNat).length * 1 ∧ ((([] : List Poly)).length + (l.take k1.toNat).length) * 24 ≤ 140737488355328 ∧ (([] : List Poly)).length + (l.take k1.toNat).length ≤ 9223372036854775807) ∧ some (AV.own 31 0 ((([] : List Poly)).length + (l.take k1.toNat).length) 1) = some (AV.own 31 0 ((([] : List Poly)) ++ (l.take k1.toNat)).length 1))) ∧ UU ∧ UU) ∧ ((some (ABlk.row 53 ((([] : List Poly)).flatMap Poly.cs ++ (l.take k1.toNat).flatMap Poly.cs)) = some (ABlk.row 53 (((([] : List Poly)) ++ (l.take k1.toNat)).flatMap Poly.cs))) ∧ UU ∧ UU)) (by kernel_rfl) ⟨⟨TT, TT, TT, ⟨k8, take_sl Poly.cs_len k8⟩, ⟨⟨flat_len Poly.cs_len _, flat_len Poly.cs_len _, by omega, by omega⟩, app_len _ _ _ _⟩, TT, TT⟩, ⟨(app_row Poly.cs _ _ _), TT, TT⟩⟩) ?_
    refine Done.mk (thenQ_n ?_)
    refine awp_seq ?_
    refine chk_el h (fun k10 h => ?_)
    refine awp_regionD Try_mixed (orcs := [(3, tV (.own 35 0 (((([] : List Poly)) ++ (l.take k1.toNat)) ++ ([p_])).length 1))]) (gs := [.castB 35 (.row 53 ((((([] : List Poly)) ++ (l.take k1.toNat)) ++ ([p_])).flatMap Poly.cs)), .keep [0, 5, 6] [35]]) (s' := ⟨[(0, .p (encL Poly.cs l)), (5, pI k1), (6, .own 35 0 (((([] : List Poly)) ++ (l.take k1.toNat)) ++ ([p_])).length 1)], [(35, .row 53 ((((([] : List Poly)) ++ (l.take k1.toNat)) ++ ([p_])).flatMap Poly.cs))]⟩) (by kernel_rfl) (holds_of ((UU ∧ UU ∧ UU ∧ ((((((([] : List Poly)) ++ (l.take k1.toNat)).flatMap Poly.cs).length = ((([] : List Poly)) ++ (l.take k1.toNat)).length * 1 ∧ (([p_]).flatMap Poly.cs).length = ([p_]).length * 1 ∧ (((([] : List Poly)) ++ (l.take k1.toNat)).length + ([p_]).length) * 24 ≤ 140737488355328 ∧ ((([] : List Poly)) ++ (l.take k1.toNat)).length + ([p_]).length ≤ 9223372036854775807) ∧ some (AV.own 35 0 (((([] : List Poly)) ++ (l.take k1.toNat)).length + ([p_]).length) 1) = some (AV.own 35 0 (((([] : List Poly)) ++ (l.take k1.toNat)) ++ ([p_])).length 1))) ∧ UU ∧ UU) ∧ ((some (ABlk.row 53 (((([] : List Poly)) ++ (l.take k1.toNat)).flatMap Poly.cs ++ ([p_]).flatMap Poly.cs)) = some (ABlk.row 53 ((((([] : List Poly)) ++ (l.take k1.toNat)) ++ ([p_])).flatMap Poly.cs))) ∧ UU ∧ UU)) (by kernel_rfl) ⟨⟨TT, TT, TT, ⟨⟨flat_len Poly.cs_len _, flat_len Poly.cs_len _, by omega, by omega⟩, app_len _ _ _ _⟩, TT, TT⟩, ⟨(app_row Poly.cs _ _ _), TT, TT⟩⟩) ?_
    refine Done.mk (thenQ_n ?_)
    refine awp_seq ?_
    refine chk_el h (fun k11 h => ?_)
    refine awp_regionD Try_mixed (orcs := [(3, tV (.p (encL Poly.cs (l.drop k1.toNat)))), (4, tV (.own 40 0 ((((([] : List Poly)) ++ (l.take k1.toNat)) ++ ([p_])) ++ (l.drop k1.toNat)).length 1))]) (gs := [.castB 40 (.row 53 (((((([] : List Poly)) ++ (l.take k1.toNat)) ++ ([p_])) ++ (l.drop k1.toNat)).flatMap Poly.cs)), .keep [4] [40]]) (s' := ⟨[(4, .own 40 0 ((((([] : List Poly)) ++ (l.take k1.toNat)) ++ ([p_])) ++ (l.drop k1.toNat)).length 1)], [(40, .row 53 (((((([] : List Poly)) ++ (l.take k1.toNat)) ++ ([p_])) ++ (l.drop k1.toNat)).flatMap Poly.cs))]⟩) (by kernel_rfl) (holds_of ((UU ∧ UU ∧ UU ∧ (((0 ≤ k1 ∧ k1 ≤ (l.length : Int) ∧ (l.flatMap Poly.cs).length = l.length * 1) ∧ some (AV.p (.sl ((l.flatMap Poly.cs).drop (k1.toNat * 1)) (l.length - k1.toNat))) = some (AV.p (encL Poly.cs (l.drop k1.toNat))))) ∧ (((((((([] : List Poly)) ++ (l.take k1.toNat)) ++ ([p_])).flatMap Poly.cs).length = (((([] : List Poly)) ++ (l.take k1.toNat)) ++ ([p_])).length * 1 ∧ ((l.drop k1.toNat).flatMap Poly.cs).length = (l.drop k1.toNat).length * 1 ∧ ((((([] : List Poly)) ++ (l.take k1.toNat)) ++ ([p_])).length + (l.drop k1.toNat).length) * 24 ≤ 140737488355328 ∧ (((([] : List Poly)) ++ (l.take k1.toNat)) ++ ([p_])).length + (l.drop k1.toNat).length ≤ 9223372036854775807) ∧ some (AV.own 40 0 ((((([] : List Poly)) ++ (l.take k1.toNat)) ++ ([p_])).length + (l.drop k1.toNat).length) 1) = some (AV.own 40 0 ((((([] : List Poly)) ++ (l.take k1.toNat)) ++ ([p_])) ++ (l.drop k1.toNat)).length 1))) ∧ UU ∧ UU) ∧ ((some (ABlk.row 53 ((((([] : List Poly)) ++ (l.take k1.toNat)) ++ ([p_])).flatMap Poly.cs ++ (l.drop k1.toNat).flatMap Poly.cs)) = some (ABlk.row 53 (((((([] : List Poly)) ++ (l.take k1.toNat)) ++ ([p_])) ++ (l.drop k1.toNat)).flatMap Poly.cs))) ∧ UU ∧ UU)) (by kernel_rfl) ⟨⟨TT, TT, TT, ⟨⟨k8.1, k8.2, flat_len Poly.cs_len _⟩, drop_sl Poly.cs_len⟩, ⟨⟨flat_len Poly.cs_len _, flat_len Poly.cs_len _, by omega, by omega⟩, app_len _ _ _ _⟩, TT, TT⟩, ⟨(app_row Poly.cs _ _ _), TT, TT⟩⟩) ?_
    refine Done.mk (thenQ_n ?_)
    refine doneRet ?_
    refine Done.gh [.frz 40, .keep [4] []] (s' := ⟨[(4, .p (encL Poly.cs ((((([] : List Poly)) ++ (l.take k1.toNat)) ++ ([p_])) ++ (l.drop k1.toNat))))], []⟩) (by kernel_rfl) (holds_of (UU ∧ UU ∧ UU) (by kernel_rfl) ⟨TT, TT, TT⟩) ?_
    refine Done.mk ?_
    obtain rfl := Option.some.inj h
    exact ⟨Or.inr rfl, by kernel_rfl, by kernel_rfl⟩
end
end Go.AM
end
