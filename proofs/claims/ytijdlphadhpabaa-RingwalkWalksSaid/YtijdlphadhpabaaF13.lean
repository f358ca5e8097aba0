/- Models of functions, and that their calls do what the models say. Printed by gen.py. -/
import Derived.Test.YtijdlphadhpabaaProg
import Derived.Test.YtijdlphadhpabaaF12
section
namespace Go.AM
open Go Go.RowKit Go.Proofs
noncomputable section
def ringwalk_Walk_j1 (v : (List Poly)) (t10 : Int) (out_1 : (List Track)) : Option ((List Track)) :=
    (getI v t10).bind fun p_ =>
    (ringwalk_walk p_.pts).bind fun v1 =>
    ifB (decide ((v1.length : Int) ≤ (65536 : Int)))
    (chk (out_1.length + ([Track.mk 1 true v1]).length ≤ 1099511627776)
      (some (out_1 ++ ([Track.mk 1 true v1]))))
    (some out_1)
def ringwalk_Walk_l2 (v : (List Poly)) (s : (List Track) × Int) : Option (((List Track) × Int) ⊕ ((List Track))) :=
  match s with
  | (out_1, t10) =>
    ifB (decide (t10 < (v.length : Int)))
    ((ringwalk_Walk_j1 v t10 out_1).bind fun out_ =>
      chk (InR .i64 (t10 + 1 : Int))
      (some (.inl (out_, t10 + 1))))
    (some (.inr out_1))
noncomputable def ringwalk_Walk (r_ : Region) : Option (List Track) :=
  (boundary_Trace r_).bind fun v =>
  (loopP (ringwalk_Walk_l2 v) (([] : List Track), 0)).bind fun out_2 =>
  some out_2
set_option maxRecDepth 100000 in
set_option maxHeartbeats 4000000 in
theorem ringwalk_Walk_ok {r_ : Region} {r : (List Track)} (h : ringwalk_Walk r_ = some r) : ASpec Try.prog 10 [.agg [.p (encL Row.cs r_.rows)]] [] (.p (encL Track.cs r)) [] := by
  refine aspec_of Try.func10 (c := _) rfl (by kernel_rfl) (by rw [Try.ntmps10]; exact Nat.le_of_ble_eq_true rfl) ?_
  refine awp_seq ?_
  refine awp_regionD Try_mixed (orcs := []) (gs := [.keep [1] [1]]) (s' := ⟨[(1, .ptr 1 0)], [(1, .lit 24 [.p (encL Row.cs r_.rows)])]⟩) (by kernel_rfl) (holds_of ((UU ∧ UU ∧ UU) ∧ (UU ∧ UU)) (by kernel_rfl) ⟨⟨TT, TT, TT⟩, ⟨TT, TT⟩⟩) ?_
  refine Done.mk (thenQ_n ?_)
  refine awp_seq ?_
  refine awp_regionD Try_mixed (orcs := []) (gs := [.keep [1, 3] [1]]) (s' := ⟨[(1, .ptr 1 0), (3, .nils)], [(1, .lit 24 [.p (encL Row.cs r_.rows)])]⟩) (by kernel_rfl) (holds_of ((UU ∧ UU) ∧ (UU ∧ UU)) (by kernel_rfl) ⟨⟨TT, TT⟩, ⟨TT, TT⟩⟩) ?_
  refine Done.mk (thenQ_n ?_)
  refine awp_seq ?_
  refine awp_seq ?_
  refine bind_el h (fun v k1 h => ?_)
  refine awp_regionD Try_mixed (orcs := [(1, tV (.p (encL Poly.cs v)))]) (gs := [.keep [3, 8, 9, 10] []]) (s' := ⟨[(3, .nils), (8, .p (encL Poly.cs v)), (9, pI ((v.length : Int))), (10, pI 0)], []⟩) (by kernel_rfl) (holds_of ((UU ∧ (ASpec Try.prog 14 [.agg [.p (encL Row.cs r_.rows)]] [] (.p (encL Poly.cs v)) []) ∧ UU ∧ UU ∧ UU) ∧ (UU ∧ UU)) (by kernel_rfl) ⟨⟨TT, boundary_Trace_ok k1, TT, TT, TT⟩, ⟨TT, TT⟩⟩) ?_
  refine Done.mk (thenQ_n ?_)
  refine awp_block ?_
  refine bind_el h (fun out_2 hm h => ?_)
  refine awp_gh [.keep [3, 8, 9, 10] [], .opn 3 5002 35 3, .keep [3, 8, 9, 10] [5002]] (s' := ⟨[(3, .own 5002 0 (([] : List Track)).length 3), (8, .p (encL Poly.cs v)), (9, pI ((v.length : Int))), (10, pI 0)], [(5002, .row 35 ((([] : List Track)).flatMap Track.cs))]⟩) (by kernel_rfl) (holds_of (UU ∧ UU ∧ UU ∧ UU) (by kernel_rfl) ⟨TT, TT, TT, TT⟩) ?_
  refine awp_tail (fun _ => (Exit.exit 0)) (fun o => match o with | out_2 => ⟨[(3, .own 5002 0 out_2.length 3)], [(5002, .row 35 (out_2.flatMap Track.cs))]⟩) hm (fun o h => ?_) ?_
  · refine awp_loop' (fun s => match s with | (out_1, t10) => ⟨[(3, .own 5002 0 out_1.length 3), (8, .p (encL Poly.cs v)), (9, pI ((v.length : Int))), (10, pI t10)], [(5002, .row 35 (out_1.flatMap Track.cs))]⟩) h (by kernel_rfl) (fun s out h => ?_)
    obtain ⟨out_1, t10⟩ := s
    refine awp_seq ?_
    refine awp_regionD Try_mixed (orcs := []) (gs := [.keep [3, 8, 9, 10, 11] [5002]]) (s' := ⟨[(3, .own 5002 0 out_1.length 3), (8, .p (encL Poly.cs v)), (9, pI ((v.length : Int))), (10, pI t10), (11, pB (decide (t10 < (v.length : Int))))], [(5002, .row 35 (out_1.flatMap Track.cs))]⟩) (by kernel_rfl) (holds_of ((UU ∧ UU) ∧ (UU ∧ UU)) (by kernel_rfl) ⟨⟨TT, TT⟩, ⟨TT, TT⟩⟩) ?_
    refine Done.mk (thenQ_n ?_)
    refine awp_seq ?_
    refine ifB_el h (fun k2 h => ?_) (fun k2 h => ?_)
    · refine awp_cond_t (b := decide (t10 < (v.length : Int))) (by kernel_rfl) k2 ?_
      refine doneSkip ?_
      refine Done.mk (thenQ_n ?_)
      refine awp_seq ?_
      refine bind_el h (fun out_ hm h => ?_)
      refine awp_tail (fun _ => Exit.normal) (fun o => match o with | out_ => ⟨[(3, .own 5003 0 out_.length 3), (8, .p (encL Poly.cs v)), (9, pI ((v.length : Int))), (10, pI t10)], [(5003, .row 35 (out_.flatMap Track.cs))]⟩) hm (fun o h => ?_) ?_
      · refine awp_block ?_
        refine awp_seq ?_
        refine bind_el h (fun p_ k3 h => ?_)
        replace k3 := getI_el k3
        refine awp_regionD Try_mixed (orcs := [(1, tV (.agg [.p (encL Pt.cs p_.pts)]))]) (gs := [.keep [3, 5, 8, 9, 10] [5, 5002]]) (s' := ⟨[(3, .own 5002 0 out_1.length 3), (5, .ptr 5 0), (8, .p (encL Poly.cs v)), (9, pI ((v.length : Int))), (10, pI t10)], [(5, .lit 53 [.p (encL Pt.cs p_.pts)]), (5002, .row 35 (out_1.flatMap Track.cs))]⟩) (by kernel_rfl) (holds_of ((((0 ≤ t10 ∧ t10 < (v.length : Int))) ∧ (rowHas (v.flatMap Poly.cs) (t10.toNat * 1) [.p (encL Pt.cs p_.pts)]) ∧ UU ∧ UU ∧ UU) ∧ (UU ∧ UU)) (by kernel_rfl) ⟨⟨k3.2, row_has Poly.cs_len k3.1 (o := 0) (m := 1) (by omega) (by decide), TT, TT, TT⟩, ⟨TT, TT⟩⟩) ?_
        refine Done.mk (thenQ_n ?_)
        refine awp_seq ?_
        refine bind_el h (fun v1 k4 h => ?_)
        refine awp_regionD Try_mixed (orcs := [(2, tV (.p (encL Cell.cs v1)))]) (gs := [.keep [3, 6, 8, 9, 10] [5002]]) (s' := ⟨[(3, .own 5002 0 out_1.length 3), (6, .p (encL Cell.cs v1)), (8, .p (encL Poly.cs v)), (9, pI ((v.length : Int))), (10, pI t10)], [(5002, .row 35 (out_1.flatMap Track.cs))]⟩) (by kernel_rfl) (holds_of ((UU ∧ UU ∧ (ASpec Try.prog 18 [.p (encL Pt.cs p_.pts)] [] (.p (encL Cell.cs v1)) []) ∧ UU ∧ UU) ∧ (UU ∧ UU)) (by kernel_rfl) ⟨⟨TT, TT, ringwalk_walk_ok k4, TT, TT⟩, ⟨TT, TT⟩⟩) ?_
        refine Done.mk (thenQ_n ?_)
        refine awp_seq ?_
        refine awp_regionD Try_mixed (orcs := []) (gs := [.keep [3, 6, 8, 9, 10, 19] [5002]]) (s' := ⟨[(3, .own 5002 0 out_1.length 3), (6, .p (encL Cell.cs v1)), (8, .p (encL Poly.cs v)), (9, pI ((v.length : Int))), (10, pI t10), (19, pB (decide ((v1.length : Int) ≤ (65536 : Int))))], [(5002, .row 35 (out_1.flatMap Track.cs))]⟩) (by kernel_rfl) (holds_of ((UU ∧ UU ∧ UU ∧ UU) ∧ (UU ∧ UU)) (by kernel_rfl) ⟨⟨TT, TT, TT, TT⟩, ⟨TT, TT⟩⟩) ?_
        refine Done.mk (thenQ_n ?_)
        refine ifB_el h (fun k5 h => ?_) (fun k5 h => ?_)
        · refine awp_cond_t (b := decide ((v1.length : Int) ≤ (65536 : Int))) (by kernel_rfl) k5 ?_
          refine chk_el h (fun k6 h => ?_)
          refine awp_regionD Try_mixed (orcs := [(4, tV (.own 24 0 (out_1 ++ ([Track.mk 1 true v1])).length 3))]) (gs := [.castB 24 (.row 35 ((out_1 ++ ([Track.mk 1 true v1])).flatMap Track.cs)), .keep [3, 8, 9, 10] [24]]) (s' := ⟨[(3, .own 24 0 (out_1 ++ ([Track.mk 1 true v1])).length 3), (8, .p (encL Poly.cs v)), (9, pI ((v.length : Int))), (10, pI t10)], [(24, .row 35 ((out_1 ++ ([Track.mk 1 true v1])).flatMap Track.cs))]⟩) (by kernel_rfl) (holds_of ((UU ∧ UU ∧ UU ∧ UU ∧ ((((out_1.flatMap Track.cs).length = out_1.length * 3 ∧ (([Track.mk 1 true v1]).flatMap Track.cs).length = ([Track.mk 1 true v1]).length * 3 ∧ (out_1.length + ([Track.mk 1 true v1]).length) * 40 ≤ 140737488355328 ∧ out_1.length + ([Track.mk 1 true v1]).length ≤ 9223372036854775807) ∧ some (AV.own 24 0 (out_1.length + ([Track.mk 1 true v1]).length) 3) = some (AV.own 24 0 (out_1 ++ ([Track.mk 1 true v1])).length 3))) ∧ UU ∧ UU) ∧ ((some (ABlk.row 35 (out_1.flatMap Track.cs ++ ([Track.mk 1 true v1]).flatMap Track.cs)) = some (ABlk.row 35 ((out_1 ++ ([Track.mk 1 true v1])).flatMap Track.cs))) ∧ UU ∧ UU)) (by kernel_rfl) ⟨⟨TT, TT, TT, TT, ⟨⟨flat_len Track.cs_len _, flat_len Track.cs_len _, by omega, by omega⟩, app_len _ _ _ _⟩, TT, TT⟩, ⟨(app_row Track.cs _ _ _), TT, TT⟩⟩) ?_
          refine Done.gh [.keep [3, 8, 9, 10] [24], .ren 24 5003, .keep [3, 8, 9, 10] [5003]] (s' := ⟨[(3, .own 5003 0 (out_1 ++ ([Track.mk 1 true v1])).length 3), (8, .p (encL Poly.cs v)), (9, pI ((v.length : Int))), (10, pI t10)], [(5003, .row 35 ((out_1 ++ ([Track.mk 1 true v1])).flatMap Track.cs))]⟩) (by kernel_rfl) (holds_of (UU ∧ UU ∧ UU ∧ UU) (by kernel_rfl) ⟨TT, TT, TT, TT⟩) ?_
          refine Done.mk (inB_n ?_)
          obtain rfl := Option.some.inj h
          exact ⟨rfl, by kernel_rfl⟩
        · refine awp_cond_f (b := decide ((v1.length : Int) ≤ (65536 : Int))) (by kernel_rfl) k5 ?_
          refine doneSkip ?_
          refine Done.gh [.keep [3, 8, 9, 10] [5002], .ren 5002 5003, .keep [3, 8, 9, 10] [5003]] (s' := ⟨[(3, .own 5003 0 out_1.length 3), (8, .p (encL Poly.cs v)), (9, pI ((v.length : Int))), (10, pI t10)], [(5003, .row 35 (out_1.flatMap Track.cs))]⟩) (by kernel_rfl) (holds_of (UU ∧ UU ∧ UU ∧ UU) (by kernel_rfl) ⟨TT, TT, TT, TT⟩) ?_
          refine Done.mk (inB_n ?_)
          obtain rfl := Option.some.inj h
          exact ⟨rfl, by kernel_rfl⟩
      · have _ := hm
        refine Done.as (e := Exit.normal) (s := ⟨[(3, .own 5003 0 out_.length 3), (8, .p (encL Poly.cs v)), (9, pI ((v.length : Int))), (10, pI t10)], [(5003, .row 35 (out_.flatMap Track.cs))]⟩) rfl (by kernel_rfl) ?_
        refine Done.mk (thenQ_n ?_)
        refine chk_el h (fun k7 h => ?_)
        refine awp_regionD Try_mixed (orcs := []) (gs := [.keep [3, 8, 9, 10] [5003]]) (s' := ⟨[(3, .own 5003 0 out_.length 3), (8, .p (encL Poly.cs v)), (9, pI ((v.length : Int))), (10, pI (t10 + 1))], [(5003, .row 35 (out_.flatMap Track.cs))]⟩) (by kernel_rfl) (holds_of (((InR .i64 (t10 + 1 : Int)) ∧ UU ∧ UU) ∧ (UU ∧ UU)) (by kernel_rfl) ⟨⟨k7, TT, TT⟩, ⟨TT, TT⟩⟩) ?_
        refine Done.gh [.keep [3, 8, 9, 10] [5003], .ren 5003 5002, .keep [3, 8, 9, 10] [5002]] (s' := ⟨[(3, .own 5002 0 out_.length 3), (8, .p (encL Poly.cs v)), (9, pI ((v.length : Int))), (10, pI (t10 + 1))], [(5002, .row 35 (out_.flatMap Track.cs))]⟩) (by kernel_rfl) (holds_of (UU ∧ UU ∧ UU ∧ UU) (by kernel_rfl) ⟨TT, TT, TT, TT⟩) ?_
        refine Done.mk ?_
        obtain rfl := Option.some.inj h
        exact ⟨rfl, by kernel_rfl⟩
    · refine awp_cond_f (b := decide (t10 < (v.length : Int))) (by kernel_rfl) k2 ?_
      refine doneExit ?_
      refine Done.gh [.keep [3] [5002], .keep [3] [5002]] (s' := ⟨[(3, .own 5002 0 out_1.length 3)], [(5002, .row 35 (out_1.flatMap Track.cs))]⟩) (by kernel_rfl) (holds_of (UU ∧ UU ∧ UU) (by kernel_rfl) ⟨TT, TT, TT⟩) ?_
      refine Done.mk (thenQ_x ?_)
      obtain rfl := Option.some.inj h
      exact ⟨fun q => (by cases q), fun q => (by subst q; exact ⟨rfl, by kernel_rfl⟩)⟩
  · have _ := hm
    refine Done.as (e := (Exit.exit 0)) (s := ⟨[(3, .own 5002 0 out_2.length 3)], [(5002, .row 35 (out_2.flatMap Track.cs))]⟩) rfl (by kernel_rfl) ?_
    refine Done.mk (inB_hit (thenQ_n ?_))
    refine awp_seq ?_
    refine awp_regionD Try_mixed (orcs := []) (gs := [.keep [2] [5002]]) (s' := ⟨[(2, .own 5002 0 out_2.length 3)], [(5002, .row 35 (out_2.flatMap Track.cs))]⟩) (by kernel_rfl) (holds_of ((UU ∧ UU ∧ UU) ∧ (UU ∧ UU)) (by kernel_rfl) ⟨⟨TT, TT, TT⟩, ⟨TT, TT⟩⟩) ?_
    refine Done.mk (thenQ_n ?_)
    refine doneRet ?_
    refine Done.gh [.frz 5002, .keep [2] []] (s' := ⟨[(2, .p (encL Track.cs out_2))], []⟩) (by kernel_rfl) (holds_of (UU ∧ UU ∧ UU) (by kernel_rfl) ⟨TT, TT, TT⟩) ?_
    refine Done.mk ?_
    obtain rfl := Option.some.inj h
    exact ⟨Or.inr rfl, by kernel_rfl, by kernel_rfl⟩
end
end Go.AM
end
