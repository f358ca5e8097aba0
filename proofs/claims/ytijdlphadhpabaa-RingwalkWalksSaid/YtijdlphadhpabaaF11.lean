/- Models of functions, and that their calls do what the models say. Printed by gen.py. -/
import Derived.Test.YtijdlphadhpabaaProg
import Derived.Test.YtijdlphadhpabaaF10
import Derived.Test.YtijdlphadhpabaaA8
import Derived.Shelf.SlSortCmp.NoneTotal
import Derived.Shelf.SlicesE.Delete
import Derived.Test.YtijdlphadhpabaaF1
section
namespace Go.AM
open Go Go.RowKit Go.Proofs
noncomputable section
def boundary_collect_l1 (r_1 : Run) (r_ : Row) (s : Int × (List (Pt × (List Int)))) : Option ((Int × (List (Pt × (List Int)))) ⊕ ((List (Pt × (List Int))))) :=
  match s with
  | (t10, m) =>
    ifB (decide (t10 < r_1.to))
    ((cracks_add m (Pt.mk t10 r_.y) 0).bind fun v2 =>
      chk (InR .i64 (t10 + 1 : Int))
      (some (.inl (t10 + 1, v2))))
    (some (.inr m))
def boundary_collect_l2 (v1 : (List Run)) (r_ : Row) (s : Int × (List (Pt × (List Int)))) : Option ((Int × (List (Pt × (List Int)))) ⊕ ((List (Pt × (List Int))))) :=
  match s with
  | (t36, m2) =>
    ifB (decide (t36 < (v1.length : Int)))
    ((getI v1 t36).bind fun r_1 =>
      (loopP (boundary_collect_l1 r_1 r_) (r_1.frm, m2)).bind fun m1 =>
      chk (InR .i64 (t36 + 1 : Int))
      (some (.inl (t36 + 1, m1))))
    (some (.inr m2))
def boundary_collect_l3 (r_2 : Run) (r_ : Row) (s : Int × (List (Pt × (List Int)))) : Option ((Int × (List (Pt × (List Int)))) ⊕ ((List (Pt × (List Int))))) :=
  match s with
  | (t13, m4) =>
    ifB (decide (t13 < r_2.to))
    (chk (InR .i64 (t13 + 1 : Int))
      (chk (InR .i64 (r_.y + 1 : Int))
      ((cracks_add m4 (Pt.mk (t13 + 1) (r_.y + 1)) 2).bind fun v4 =>
      some (.inl (t13 + 1, v4)))))
    (some (.inr m4))
def boundary_collect_l4 (v3 : (List Run)) (r_ : Row) (s : Int × (List (Pt × (List Int)))) : Option ((Int × (List (Pt × (List Int)))) ⊕ ((List (Pt × (List Int))))) :=
  match s with
  | (t60, m6) =>
    ifB (decide (t60 < (v3.length : Int)))
    ((getI v3 t60).bind fun r_2 =>
      (loopP (boundary_collect_l3 r_2 r_) (r_2.frm, m6)).bind fun m5 =>
      chk (InR .i64 (t60 + 1 : Int))
      (some (.inl (t60 + 1, m5))))
    (some (.inr m6))
def boundary_collect_l5 (r_ : Row) (s : Int × (List (Pt × (List Int)))) : Option ((Int × (List (Pt × (List Int)))) ⊕ ((List (Pt × (List Int))))) :=
  match s with
  | (t84, m8) =>
    ifB (decide (t84 < (r_.runs.length : Int)))
    ((getI r_.runs t84).bind fun r_3 =>
      (cracks_add m8 (Pt.mk r_3.to r_.y) 1).bind fun v5 =>
      chk (InR .i64 (r_.y + 1 : Int))
      ((cracks_add v5 (Pt.mk r_3.frm (r_.y + 1)) 3).bind fun v6 =>
      chk (InR .i64 (t84 + 1 : Int))
      (some (.inl (t84 + 1, v6)))))
    (some (.inr m8))
def boundary_collect_l6 (t0 : Region) (s : Int × (List (Pt × (List Int)))) : Option ((Int × (List (Pt × (List Int)))) ⊕ ((List (Pt × (List Int))))) :=
  match s with
  | (t20, m10) =>
    ifB (decide (t20 < (t0.rows.length : Int)))
    ((getI t0.rows t20).bind fun r_ =>
      (boundary_around t0 t20).bind fun v =>
      (runs_Subtract r_.runs v.1).bind fun v1 =>
      (loopP (boundary_collect_l2 v1 r_) (0, m10)).bind fun m3 =>
      (runs_Subtract r_.runs v.2).bind fun v3 =>
      (loopP (boundary_collect_l4 v3 r_) (0, m3)).bind fun m7 =>
      (loopP (boundary_collect_l5 r_) (0, m7)).bind fun m9 =>
      chk (InR .i64 (t20 + 1 : Int))
      (some (.inl (t20 + 1, m9))))
    (some (.inr m10))
noncomputable def boundary_collect (t0 : Region) : Option (List (Pt × (List Int))) :=
  (loopP (boundary_collect_l6 t0) (0, ([] : (List (Pt × (List Int)))))).bind fun m11 =>
  some m11
set_option maxRecDepth 100000 in
set_option maxHeartbeats 4000000 in
theorem boundary_collect_ok {t0 : Region} {r : (List (Pt × (List Int)))} (h : boundary_collect t0 = some r) : ASpec Try.prog 25 [.agg [.p (encL Row.cs t0.rows)]] [] (.map 6000) [(6000, .ptab 2 (encT keyPt (encL iC) r))] := by
  refine aspec_of Try.func25 (c := _) rfl (by kernel_rfl) (by rw [Try.ntmps25]; exact Nat.le_of_ble_eq_true rfl) ?_
  refine awp_seq ?_
  refine awp_regionD Try_mixed (orcs := []) (gs := [.keep [1] [1]]) (s' := ⟨[(1, .ptr 1 0)], [(1, .lit 24 [.p (encL Row.cs t0.rows)])]⟩) (by kernel_rfl) (holds_of ((UU ∧ UU ∧ UU) ∧ (UU ∧ UU)) (by kernel_rfl) ⟨⟨TT, TT, TT⟩, ⟨TT, TT⟩⟩) ?_
  refine Done.mk (thenQ_n ?_)
  refine awp_seq ?_
  refine awp_regionD Try_mixed (orcs := [(0, { own := true })]) (gs := [.keep [1, 3] [1, 16]]) (s' := ⟨[(1, .ptr 1 0), (3, .map 16)], [(1, .lit 24 [.p (encL Row.cs t0.rows)]), (16, .tab 2 89 (encM (([] : (List (Pt × (List Int)))))))]⟩) (by kernel_rfl) (holds_of ((UU ∧ UU ∧ UU) ∧ (UU ∧ UU)) (by kernel_rfl) ⟨⟨TT, TT, TT⟩, ⟨TT, TT⟩⟩) ?_
  refine Done.mk (thenQ_n ?_)
  refine awp_seq ?_
  refine awp_seq ?_
  refine awp_regionD Try_mixed (orcs := []) (gs := [.keep [1, 3, 18, 19, 20] [1, 16]]) (s' := ⟨[(1, .ptr 1 0), (3, .map 16), (18, .p (encL Row.cs t0.rows)), (19, pI ((t0.rows.length : Int))), (20, pI 0)], [(1, .lit 24 [.p (encL Row.cs t0.rows)]), (16, .tab 2 89 (encM (([] : (List (Pt × (List Int)))))))]⟩) (by kernel_rfl) (holds_of ((UU ∧ UU ∧ UU ∧ UU ∧ UU) ∧ (UU ∧ UU)) (by kernel_rfl) ⟨⟨TT, TT, TT, TT, TT⟩, ⟨TT, TT⟩⟩) ?_
  refine Done.mk (thenQ_n ?_)
  refine awp_block ?_
  refine bind_el h (fun m11 hm h => ?_)
  refine awp_gh [.keep [1, 3, 18, 19, 20] [1, 16], .keep [1, 3, 18, 19, 20] [1, 16]] (s' := ⟨[(1, .ptr 1 0), (3, .map 16), (18, .p (encL Row.cs t0.rows)), (19, pI ((t0.rows.length : Int))), (20, pI 0)], [(1, .lit 24 [.p (encL Row.cs t0.rows)]), (16, .tab 2 89 (encM (([] : (List (Pt × (List Int)))))))]⟩) (by kernel_rfl) (holds_of (UU ∧ UU ∧ UU) (by kernel_rfl) ⟨TT, TT, TT⟩) ?_
  refine awp_tail (fun _ => (Exit.exit 0)) (fun o => match o with | m11 => ⟨[(3, .map 16)], [(16, .tab 2 89 (encM m11))]⟩) hm (fun o h => ?_) ?_
  · refine awp_loop' (fun s => match s with | (t20, m10) => ⟨[(1, .ptr 1 0), (3, .map 16), (18, .p (encL Row.cs t0.rows)), (19, pI ((t0.rows.length : Int))), (20, pI t20)], [(1, .lit 24 [.p (encL Row.cs t0.rows)]), (16, .tab 2 89 (encM m10))]⟩) h (by kernel_rfl) (fun s out h => ?_)
    obtain ⟨t20, m10⟩ := s
    refine awp_seq ?_
    refine awp_regionD Try_mixed (orcs := []) (gs := [.keep [1, 3, 18, 19, 20, 21] [1, 16]]) (s' := ⟨[(1, .ptr 1 0), (3, .map 16), (18, .p (encL Row.cs t0.rows)), (19, pI ((t0.rows.length : Int))), (20, pI t20), (21, pB (decide (t20 < (t0.rows.length : Int))))], [(1, .lit 24 [.p (encL Row.cs t0.rows)]), (16, .tab 2 89 (encM m10))]⟩) (by kernel_rfl) (holds_of ((UU ∧ UU) ∧ (UU ∧ UU)) (by kernel_rfl) ⟨⟨TT, TT⟩, ⟨TT, TT⟩⟩) ?_
    refine Done.mk (thenQ_n ?_)
    refine awp_seq ?_
    refine ifB_el h (fun k1 h => ?_) (fun k1 h => ?_)
    · refine awp_cond_t (b := decide (t20 < (t0.rows.length : Int))) (by kernel_rfl) k1 ?_
      refine doneSkip ?_
      refine Done.mk (thenQ_n ?_)
      refine awp_seq ?_
      refine awp_block ?_
      refine awp_seq ?_
      refine bind_el h (fun r_ k2 h => ?_)
      replace k2 := getI_el k2
      refine awp_regionD Try_mixed (orcs := [(2, tV (.agg [pI r_.y, .p (encL Run.cs r_.runs)]))]) (gs := [.keep [1, 3, 4, 5, 18, 19, 20] [1, 5, 16]]) (s' := ⟨[(1, .ptr 1 0), (3, .map 16), (4, pI t20), (5, .ptr 5 0), (18, .p (encL Row.cs t0.rows)), (19, pI ((t0.rows.length : Int))), (20, pI t20)], [(1, .lit 24 [.p (encL Row.cs t0.rows)]), (5, .lit 48 [pI r_.y, .p (encL Run.cs r_.runs)]), (16, .tab 2 89 (encM m10))]⟩) (by kernel_rfl) (holds_of ((UU ∧ ((0 ≤ t20 ∧ t20 < (t0.rows.length : Int))) ∧ (rowHas (t0.rows.flatMap Row.cs) (t20.toNat * 2) [pI r_.y, .p (encL Run.cs r_.runs)]) ∧ UU ∧ UU ∧ UU ∧ UU) ∧ (UU ∧ UU)) (by kernel_rfl) ⟨⟨TT, k2.2, row_has Row.cs_len k2.1 (o := 0) (m := 2) (by omega) (by decide), TT, TT, TT, TT⟩, ⟨TT, TT⟩⟩) ?_
      refine Done.mk (thenQ_n ?_)
      refine awp_seq ?_
      refine bind_el h (fun v k3 h => ?_)
      refine awp_regionD Try_mixed (orcs := [(2, tV (.tup [.p (encL Run.cs v.1), .p (encL Run.cs v.2)]))]) (gs := [.keep [1, 3, 5, 6, 7, 18, 19, 20] [1, 5, 16]]) (s' := ⟨[(1, .ptr 1 0), (3, .map 16), (5, .ptr 5 0), (6, .p (encL Run.cs v.1)), (7, .p (encL Run.cs v.2)), (18, .p (encL Row.cs t0.rows)), (19, pI ((t0.rows.length : Int))), (20, pI t20)], [(1, .lit 24 [.p (encL Row.cs t0.rows)]), (5, .lit 48 [pI r_.y, .p (encL Run.cs r_.runs)]), (16, .tab 2 89 (encM m10))]⟩) (by kernel_rfl) (holds_of ((UU ∧ UU ∧ (ASpec Try.prog 44 [.agg [.p (encL Row.cs t0.rows)], pI t20] [] (.tup [.p (encL Run.cs v.1), .p (encL Run.cs v.2)]) []) ∧ UU ∧ UU ∧ UU ∧ UU ∧ UU ∧ UU) ∧ (UU ∧ UU)) (by kernel_rfl) ⟨⟨TT, TT, boundary_around_ok k3, TT, TT, TT, TT, TT, TT⟩, ⟨TT, TT⟩⟩) ?_
      refine Done.mk (thenQ_n ?_)
      refine awp_seq ?_
      refine awp_seq ?_
      refine bind_el h (fun v1 k4 h => ?_)
      refine awp_regionD Try_mixed (orcs := [(3, tV (.p (encL Run.cs v1)))]) (gs := [.keep [1, 3, 5, 7, 18, 19, 20, 34, 35, 36] [1, 5, 16]]) (s' := ⟨[(1, .ptr 1 0), (3, .map 16), (5, .ptr 5 0), (7, .p (encL Run.cs v.2)), (18, .p (encL Row.cs t0.rows)), (19, pI ((t0.rows.length : Int))), (20, pI t20), (34, .p (encL Run.cs v1)), (35, pI ((v1.length : Int))), (36, pI 0)], [(1, .lit 24 [.p (encL Row.cs t0.rows)]), (5, .lit 48 [pI r_.y, .p (encL Run.cs r_.runs)]), (16, .tab 2 89 (encM m10))]⟩) (by kernel_rfl) (holds_of ((UU ∧ UU ∧ UU ∧ (ASpec Try.prog 45 [.p (encL Run.cs r_.runs), .p (encL Run.cs v.1)] [] (.p (encL Run.cs v1)) []) ∧ UU ∧ UU ∧ UU) ∧ (UU ∧ UU)) (by kernel_rfl) ⟨⟨TT, TT, TT, runs_Subtract_ok k4, TT, TT, TT⟩, ⟨TT, TT⟩⟩) ?_
      refine Done.mk (thenQ_n ?_)
      refine awp_block ?_
      refine bind_el h (fun m3 hm h => ?_)
      refine awp_gh [.keep [1, 3, 5, 7, 18, 19, 20, 34, 35, 36] [1, 5, 16], .keep [1, 3, 5, 7, 18, 19, 20, 34, 35, 36] [1, 5, 16]] (s' := ⟨[(1, .ptr 1 0), (3, .map 16), (5, .ptr 5 0), (7, .p (encL Run.cs v.2)), (18, .p (encL Row.cs t0.rows)), (19, pI ((t0.rows.length : Int))), (20, pI t20), (34, .p (encL Run.cs v1)), (35, pI ((v1.length : Int))), (36, pI 0)], [(1, .lit 24 [.p (encL Row.cs t0.rows)]), (5, .lit 48 [pI r_.y, .p (encL Run.cs r_.runs)]), (16, .tab 2 89 (encM m10))]⟩) (by kernel_rfl) (holds_of (UU ∧ UU ∧ UU) (by kernel_rfl) ⟨TT, TT, TT⟩) ?_
      refine awp_tail (fun _ => (Exit.exit 2)) (fun o => match o with | m3 => ⟨[(1, .ptr 1 0), (3, .map 16), (5, .ptr 5 0), (7, .p (encL Run.cs v.2)), (18, .p (encL Row.cs t0.rows)), (19, pI ((t0.rows.length : Int))), (20, pI t20)], [(1, .lit 24 [.p (encL Row.cs t0.rows)]), (5, .lit 48 [pI r_.y, .p (encL Run.cs r_.runs)]), (16, .tab 2 89 (encM m3))]⟩) hm (fun o h => ?_) ?_
      · refine awp_loop' (fun s => match s with | (t36, m2) => ⟨[(1, .ptr 1 0), (3, .map 16), (5, .ptr 5 0), (7, .p (encL Run.cs v.2)), (18, .p (encL Row.cs t0.rows)), (19, pI ((t0.rows.length : Int))), (20, pI t20), (34, .p (encL Run.cs v1)), (35, pI ((v1.length : Int))), (36, pI t36)], [(1, .lit 24 [.p (encL Row.cs t0.rows)]), (5, .lit 48 [pI r_.y, .p (encL Run.cs r_.runs)]), (16, .tab 2 89 (encM m2))]⟩) h (by kernel_rfl) (fun s out h => ?_)
        obtain ⟨t36, m2⟩ := s
        refine awp_seq ?_
        refine awp_regionD Try_mixed (orcs := []) (gs := [.keep [1, 3, 5, 7, 18, 19, 20, 34, 35, 36, 37] [1, 5, 16]]) (s' := ⟨[(1, .ptr 1 0), (3, .map 16), (5, .ptr 5 0), (7, .p (encL Run.cs v.2)), (18, .p (encL Row.cs t0.rows)), (19, pI ((t0.rows.length : Int))), (20, pI t20), (34, .p (encL Run.cs v1)), (35, pI ((v1.length : Int))), (36, pI t36), (37, pB (decide (t36 < (v1.length : Int))))], [(1, .lit 24 [.p (encL Row.cs t0.rows)]), (5, .lit 48 [pI r_.y, .p (encL Run.cs r_.runs)]), (16, .tab 2 89 (encM m2))]⟩) (by kernel_rfl) (holds_of ((UU ∧ UU) ∧ (UU ∧ UU)) (by kernel_rfl) ⟨⟨TT, TT⟩, ⟨TT, TT⟩⟩) ?_
        refine Done.mk (thenQ_n ?_)
        refine awp_seq ?_
        refine ifB_el h (fun k5 h => ?_) (fun k5 h => ?_)
        · refine awp_cond_t (b := decide (t36 < (v1.length : Int))) (by kernel_rfl) k5 ?_
          refine doneSkip ?_
          refine Done.mk (thenQ_n ?_)
          refine awp_seq ?_
          refine awp_block ?_
          refine awp_seq ?_
          refine bind_el h (fun r_1 k6 h => ?_)
          replace k6 := getI_el k6
          refine awp_regionD Try_mixed (orcs := [(1, tV (.agg [pI r_1.frm, pI r_1.to]))]) (gs := [.keep [1, 3, 5, 7, 9, 18, 19, 20, 34, 35, 36] [1, 5, 9, 16]]) (s' := ⟨[(1, .ptr 1 0), (3, .map 16), (5, .ptr 5 0), (7, .p (encL Run.cs v.2)), (9, .ptr 9 0), (18, .p (encL Row.cs t0.rows)), (19, pI ((t0.rows.length : Int))), (20, pI t20), (34, .p (encL Run.cs v1)), (35, pI ((v1.length : Int))), (36, pI t36)], [(1, .lit 24 [.p (encL Row.cs t0.rows)]), (5, .lit 48 [pI r_.y, .p (encL Run.cs r_.runs)]), (9, .lit 57 [pI r_1.frm, pI r_1.to]), (16, .tab 2 89 (encM m2))]⟩) (by kernel_rfl) (holds_of ((((0 ≤ t36 ∧ t36 < (v1.length : Int))) ∧ (rowHas (v1.flatMap Run.cs) (t36.toNat * 2) [pI r_1.frm, pI r_1.to]) ∧ UU ∧ UU ∧ UU) ∧ (UU ∧ UU)) (by kernel_rfl) ⟨⟨k6.2, row_has Run.cs_len k6.1 (o := 0) (m := 2) (by omega) (by decide), TT, TT, TT⟩, ⟨TT, TT⟩⟩) ?_
          refine Done.mk (thenQ_n ?_)
          refine awp_seq ?_
          refine awp_regionD Try_mixed (orcs := []) (gs := [.keep [1, 3, 5, 7, 9, 10, 18, 19, 20, 34, 35, 36] [1, 5, 9, 16]]) (s' := ⟨[(1, .ptr 1 0), (3, .map 16), (5, .ptr 5 0), (7, .p (encL Run.cs v.2)), (9, .ptr 9 0), (10, pI r_1.frm), (18, .p (encL Row.cs t0.rows)), (19, pI ((t0.rows.length : Int))), (20, pI t20), (34, .p (encL Run.cs v1)), (35, pI ((v1.length : Int))), (36, pI t36)], [(1, .lit 24 [.p (encL Row.cs t0.rows)]), (5, .lit 48 [pI r_.y, .p (encL Run.cs r_.runs)]), (9, .lit 57 [pI r_1.frm, pI r_1.to]), (16, .tab 2 89 (encM m2))]⟩) (by kernel_rfl) (holds_of ((UU ∧ UU ∧ UU ∧ UU) ∧ (UU ∧ UU)) (by kernel_rfl) ⟨⟨TT, TT, TT, TT⟩, ⟨TT, TT⟩⟩) ?_
          refine Done.mk (thenQ_n ?_)
          refine awp_block ?_
          refine bind_el h (fun m1 hm h => ?_)
          refine awp_gh [.keep [1, 3, 5, 7, 9, 10, 18, 19, 20, 34, 35, 36] [1, 5, 9, 16], .keep [1, 3, 5, 7, 9, 10, 18, 19, 20, 34, 35, 36] [1, 5, 9, 16]] (s' := ⟨[(1, .ptr 1 0), (3, .map 16), (5, .ptr 5 0), (7, .p (encL Run.cs v.2)), (9, .ptr 9 0), (10, pI r_1.frm), (18, .p (encL Row.cs t0.rows)), (19, pI ((t0.rows.length : Int))), (20, pI t20), (34, .p (encL Run.cs v1)), (35, pI ((v1.length : Int))), (36, pI t36)], [(1, .lit 24 [.p (encL Row.cs t0.rows)]), (5, .lit 48 [pI r_.y, .p (encL Run.cs r_.runs)]), (9, .lit 57 [pI r_1.frm, pI r_1.to]), (16, .tab 2 89 (encM m2))]⟩) (by kernel_rfl) (holds_of (UU ∧ UU ∧ UU) (by kernel_rfl) ⟨TT, TT, TT⟩) ?_
          refine awp_tail (fun _ => (Exit.exit 4)) (fun o => match o with | m1 => ⟨[(1, .ptr 1 0), (3, .map 16), (5, .ptr 5 0), (7, .p (encL Run.cs v.2)), (18, .p (encL Row.cs t0.rows)), (19, pI ((t0.rows.length : Int))), (20, pI t20), (34, .p (encL Run.cs v1)), (35, pI ((v1.length : Int))), (36, pI t36)], [(1, .lit 24 [.p (encL Row.cs t0.rows)]), (5, .lit 48 [pI r_.y, .p (encL Run.cs r_.runs)]), (16, .tab 2 89 (encM m1))]⟩) hm (fun o h => ?_) ?_
          · refine awp_loop' (fun s => match s with | (t10, m) => ⟨[(1, .ptr 1 0), (3, .map 16), (5, .ptr 5 0), (7, .p (encL Run.cs v.2)), (9, .ptr 9 0), (10, pI t10), (18, .p (encL Row.cs t0.rows)), (19, pI ((t0.rows.length : Int))), (20, pI t20), (34, .p (encL Run.cs v1)), (35, pI ((v1.length : Int))), (36, pI t36)], [(1, .lit 24 [.p (encL Row.cs t0.rows)]), (5, .lit 48 [pI r_.y, .p (encL Run.cs r_.runs)]), (9, .lit 57 [pI r_1.frm, pI r_1.to]), (16, .tab 2 89 (encM m))]⟩) h (by kernel_rfl) (fun s out h => ?_)
            obtain ⟨t10, m⟩ := s
            refine awp_seq ?_
            refine awp_seq ?_
            refine awp_regionD Try_mixed (orcs := []) (gs := [.keep [1, 3, 5, 7, 9, 10, 18, 19, 20, 34, 35, 36, 45] [1, 5, 9, 16]]) (s' := ⟨[(1, .ptr 1 0), (3, .map 16), (5, .ptr 5 0), (7, .p (encL Run.cs v.2)), (9, .ptr 9 0), (10, pI t10), (18, .p (encL Row.cs t0.rows)), (19, pI ((t0.rows.length : Int))), (20, pI t20), (34, .p (encL Run.cs v1)), (35, pI ((v1.length : Int))), (36, pI t36), (45, pB (decide (t10 < r_1.to)))], [(1, .lit 24 [.p (encL Row.cs t0.rows)]), (5, .lit 48 [pI r_.y, .p (encL Run.cs r_.runs)]), (9, .lit 57 [pI r_1.frm, pI r_1.to]), (16, .tab 2 89 (encM m))]⟩) (by kernel_rfl) (holds_of ((UU ∧ UU ∧ UU ∧ UU ∧ UU) ∧ (UU ∧ UU)) (by kernel_rfl) ⟨⟨TT, TT, TT, TT, TT⟩, ⟨TT, TT⟩⟩) ?_
            refine Done.mk (thenQ_n ?_)
            refine ifB_el h (fun k7 h => ?_) (fun k7 h => ?_)
            · refine awp_cond_t (b := decide (t10 < r_1.to)) (by kernel_rfl) k7 ?_
              refine doneSkip ?_
              refine Done.mk (thenQ_n ?_)
              refine awp_seq ?_
              refine awp_block ?_
              refine bind_el h (fun v2 k8 h => ?_)
              refine awp_regionD Try_mixed (orcs := [(5, { r := some (.tup []), fp := [16], post := [(16, .tab 2 89 (encM v2))] })]) (gs := [.keep [1, 3, 5, 7, 9, 10, 18, 19, 20, 34, 35, 36] [1, 5, 9, 16]]) (s' := ⟨[(1, .ptr 1 0), (3, .map 16), (5, .ptr 5 0), (7, .p (encL Run.cs v.2)), (9, .ptr 9 0), (10, pI t10), (18, .p (encL Row.cs t0.rows)), (19, pI ((t0.rows.length : Int))), (20, pI t20), (34, .p (encL Run.cs v1)), (35, pI ((v1.length : Int))), (36, pI t36)], [(1, .lit 24 [.p (encL Row.cs t0.rows)]), (5, .lit 48 [pI r_.y, .p (encL Run.cs r_.runs)]), (9, .lit 57 [pI r_1.frm, pI r_1.to]), (16, .tab 2 89 (encM v2))]⟩) (by kernel_rfl) (holds_of ((UU ∧ UU ∧ UU ∧ UU ∧ UU ∧ (ASpec Try.prog 46 [.map 16, .agg [pI t10, pI r_.y], pI 0] [(16, .tab 2 89 (encM m))] (.tup []) [(16, .tab 2 89 (encM v2))]) ∧ UU) ∧ (UU ∧ UU)) (by kernel_rfl) ⟨⟨TT, TT, TT, TT, TT, aspec_at (cracks_add_ok' k8) 0 16 (by kernel_rfl), TT⟩, ⟨TT, TT⟩⟩) ?_
              refine Done.mk (inB_n (thenQ_n ?_))
              refine chk_el h (fun k9 h => ?_)
              refine awp_regionD Try_mixed (orcs := []) (gs := [.keep [1, 3, 5, 7, 9, 10, 18, 19, 20, 34, 35, 36] [1, 5, 9, 16]]) (s' := ⟨[(1, .ptr 1 0), (3, .map 16), (5, .ptr 5 0), (7, .p (encL Run.cs v.2)), (9, .ptr 9 0), (10, pI (t10 + 1)), (18, .p (encL Row.cs t0.rows)), (19, pI ((t0.rows.length : Int))), (20, pI t20), (34, .p (encL Run.cs v1)), (35, pI ((v1.length : Int))), (36, pI t36)], [(1, .lit 24 [.p (encL Row.cs t0.rows)]), (5, .lit 48 [pI r_.y, .p (encL Run.cs r_.runs)]), (9, .lit 57 [pI r_1.frm, pI r_1.to]), (16, .tab 2 89 (encM v2))]⟩) (by kernel_rfl) (holds_of ((UU ∧ (InR .i64 (t10 + 1 : Int)) ∧ UU ∧ UU) ∧ (UU ∧ UU)) (by kernel_rfl) ⟨⟨TT, k9, TT, TT⟩, ⟨TT, TT⟩⟩) ?_
              refine Done.mk ?_
              obtain rfl := Option.some.inj h
              exact ⟨rfl, by kernel_rfl⟩
            · refine awp_cond_f (b := decide (t10 < r_1.to)) (by kernel_rfl) k7 ?_
              refine doneExit ?_
              refine Done.gh [.keep [1, 3, 5, 7, 18, 19, 20, 34, 35, 36] [1, 5, 16], .keep [1, 3, 5, 7, 18, 19, 20, 34, 35, 36] [1, 5, 16]] (s' := ⟨[(1, .ptr 1 0), (3, .map 16), (5, .ptr 5 0), (7, .p (encL Run.cs v.2)), (18, .p (encL Row.cs t0.rows)), (19, pI ((t0.rows.length : Int))), (20, pI t20), (34, .p (encL Run.cs v1)), (35, pI ((v1.length : Int))), (36, pI t36)], [(1, .lit 24 [.p (encL Row.cs t0.rows)]), (5, .lit 48 [pI r_.y, .p (encL Run.cs r_.runs)]), (16, .tab 2 89 (encM m))]⟩) (by kernel_rfl) (holds_of (UU ∧ UU ∧ UU) (by kernel_rfl) ⟨TT, TT, TT⟩) ?_
              refine Done.mk (thenQ_x ?_)
              obtain rfl := Option.some.inj h
              exact ⟨fun q => (by cases q), fun q => (by subst q; exact ⟨rfl, by kernel_rfl⟩)⟩
          · have _ := hm
            refine Done.as (e := (Exit.exit 4)) (s := ⟨[(1, .ptr 1 0), (3, .map 16), (5, .ptr 5 0), (7, .p (encL Run.cs v.2)), (18, .p (encL Row.cs t0.rows)), (19, pI ((t0.rows.length : Int))), (20, pI t20), (34, .p (encL Run.cs v1)), (35, pI ((v1.length : Int))), (36, pI t36)], [(1, .lit 24 [.p (encL Row.cs t0.rows)]), (5, .lit 48 [pI r_.y, .p (encL Run.cs r_.runs)]), (16, .tab 2 89 (encM m1))]⟩) rfl (by kernel_rfl) ?_
            refine Done.mk (inB_hit (inB_n (thenQ_n ?_)))
            refine chk_el h (fun k10 h => ?_)
            refine awp_regionD Try_mixed (orcs := []) (gs := [.keep [1, 3, 5, 7, 18, 19, 20, 34, 35, 36] [1, 5, 16]]) (s' := ⟨[(1, .ptr 1 0), (3, .map 16), (5, .ptr 5 0), (7, .p (encL Run.cs v.2)), (18, .p (encL Row.cs t0.rows)), (19, pI ((t0.rows.length : Int))), (20, pI t20), (34, .p (encL Run.cs v1)), (35, pI ((v1.length : Int))), (36, pI (t36 + 1))], [(1, .lit 24 [.p (encL Row.cs t0.rows)]), (5, .lit 48 [pI r_.y, .p (encL Run.cs r_.runs)]), (16, .tab 2 89 (encM m1))]⟩) (by kernel_rfl) (holds_of (((InR .i64 (t36 + 1 : Int)) ∧ UU ∧ UU) ∧ (UU ∧ UU)) (by kernel_rfl) ⟨⟨k10, TT, TT⟩, ⟨TT, TT⟩⟩) ?_
            refine Done.mk ?_
            obtain rfl := Option.some.inj h
            exact ⟨rfl, by kernel_rfl⟩
        · refine awp_cond_f (b := decide (t36 < (v1.length : Int))) (by kernel_rfl) k5 ?_
          refine doneExit ?_
          refine Done.gh [.keep [1, 3, 5, 7, 18, 19, 20] [1, 5, 16], .keep [1, 3, 5, 7, 18, 19, 20] [1, 5, 16]] (s' := ⟨[(1, .ptr 1 0), (3, .map 16), (5, .ptr 5 0), (7, .p (encL Run.cs v.2)), (18, .p (encL Row.cs t0.rows)), (19, pI ((t0.rows.length : Int))), (20, pI t20)], [(1, .lit 24 [.p (encL Row.cs t0.rows)]), (5, .lit 48 [pI r_.y, .p (encL Run.cs r_.runs)]), (16, .tab 2 89 (encM m2))]⟩) (by kernel_rfl) (holds_of (UU ∧ UU ∧ UU) (by kernel_rfl) ⟨TT, TT, TT⟩) ?_
          refine Done.mk (thenQ_x ?_)
          obtain rfl := Option.some.inj h
          exact ⟨fun q => (by cases q), fun q => (by subst q; exact ⟨rfl, by kernel_rfl⟩)⟩
      · have _ := hm
        refine Done.as (e := (Exit.exit 2)) (s := ⟨[(1, .ptr 1 0), (3, .map 16), (5, .ptr 5 0), (7, .p (encL Run.cs v.2)), (18, .p (encL Row.cs t0.rows)), (19, pI ((t0.rows.length : Int))), (20, pI t20)], [(1, .lit 24 [.p (encL Row.cs t0.rows)]), (5, .lit 48 [pI r_.y, .p (encL Run.cs r_.runs)]), (16, .tab 2 89 (encM m3))]⟩) rfl (by kernel_rfl) ?_
        refine Done.mk (inB_hit (thenQ_n ?_))
        refine awp_seq ?_
        refine awp_seq ?_
        refine bind_el h (fun v3 k11 h => ?_)
        refine awp_regionD Try_mixed (orcs := [(3, tV (.p (encL Run.cs v3)))]) (gs := [.keep [1, 3, 5, 18, 19, 20, 58, 59, 60] [1, 5, 16]]) (s' := ⟨[(1, .ptr 1 0), (3, .map 16), (5, .ptr 5 0), (18, .p (encL Row.cs t0.rows)), (19, pI ((t0.rows.length : Int))), (20, pI t20), (58, .p (encL Run.cs v3)), (59, pI ((v3.length : Int))), (60, pI 0)], [(1, .lit 24 [.p (encL Row.cs t0.rows)]), (5, .lit 48 [pI r_.y, .p (encL Run.cs r_.runs)]), (16, .tab 2 89 (encM m3))]⟩) (by kernel_rfl) (holds_of ((UU ∧ UU ∧ UU ∧ (ASpec Try.prog 45 [.p (encL Run.cs r_.runs), .p (encL Run.cs v.2)] [] (.p (encL Run.cs v3)) []) ∧ UU ∧ UU ∧ UU) ∧ (UU ∧ UU)) (by kernel_rfl) ⟨⟨TT, TT, TT, runs_Subtract_ok k11, TT, TT, TT⟩, ⟨TT, TT⟩⟩) ?_
        refine Done.mk (thenQ_n ?_)
        refine awp_block ?_
        refine bind_el h (fun m7 hm h => ?_)
        refine awp_gh [.keep [1, 3, 5, 18, 19, 20, 58, 59, 60] [1, 5, 16], .keep [1, 3, 5, 18, 19, 20, 58, 59, 60] [1, 5, 16]] (s' := ⟨[(1, .ptr 1 0), (3, .map 16), (5, .ptr 5 0), (18, .p (encL Row.cs t0.rows)), (19, pI ((t0.rows.length : Int))), (20, pI t20), (58, .p (encL Run.cs v3)), (59, pI ((v3.length : Int))), (60, pI 0)], [(1, .lit 24 [.p (encL Row.cs t0.rows)]), (5, .lit 48 [pI r_.y, .p (encL Run.cs r_.runs)]), (16, .tab 2 89 (encM m3))]⟩) (by kernel_rfl) (holds_of (UU ∧ UU ∧ UU) (by kernel_rfl) ⟨TT, TT, TT⟩) ?_
        refine awp_tail (fun _ => (Exit.exit 6)) (fun o => match o with | m7 => ⟨[(1, .ptr 1 0), (3, .map 16), (5, .ptr 5 0), (18, .p (encL Row.cs t0.rows)), (19, pI ((t0.rows.length : Int))), (20, pI t20)], [(1, .lit 24 [.p (encL Row.cs t0.rows)]), (5, .lit 48 [pI r_.y, .p (encL Run.cs r_.runs)]), (16, .tab 2 89 (encM m7))]⟩) hm (fun o h => ?_) ?_
        · refine awp_loop' (fun s => match s with | (t60, m6) => ⟨[(1, .ptr 1 0), (3, .map 16), (5, .ptr 5 0), (18, .p (encL Row.cs t0.rows)), (19, pI ((t0.rows.length : Int))), (20, pI t20), (58, .p (encL Run.cs v3)), (59, pI ((v3.length : Int))), (60, pI t60)], [(1, .lit 24 [.p (encL Row.cs t0.rows)]), (5, .lit 48 [pI r_.y, .p (encL Run.cs r_.runs)]), (16, .tab 2 89 (encM m6))]⟩) h (by kernel_rfl) (fun s out h => ?_)
          obtain ⟨t60, m6⟩ := s
          refine awp_seq ?_
          refine awp_regionD Try_mixed (orcs := []) (gs := [.keep [1, 3, 5, 18, 19, 20, 58, 59, 60, 61] [1, 5, 16]]) (s' := ⟨[(1, .ptr 1 0), (3, .map 16), (5, .ptr 5 0), (18, .p (encL Row.cs t0.rows)), (19, pI ((t0.rows.length : Int))), (20, pI t20), (58, .p (encL Run.cs v3)), (59, pI ((v3.length : Int))), (60, pI t60), (61, pB (decide (t60 < (v3.length : Int))))], [(1, .lit 24 [.p (encL Row.cs t0.rows)]), (5, .lit 48 [pI r_.y, .p (encL Run.cs r_.runs)]), (16, .tab 2 89 (encM m6))]⟩) (by kernel_rfl) (holds_of ((UU ∧ UU) ∧ (UU ∧ UU)) (by kernel_rfl) ⟨⟨TT, TT⟩, ⟨TT, TT⟩⟩) ?_
          refine Done.mk (thenQ_n ?_)
          refine awp_seq ?_
          refine ifB_el h (fun k12 h => ?_) (fun k12 h => ?_)
          · refine awp_cond_t (b := decide (t60 < (v3.length : Int))) (by kernel_rfl) k12 ?_
            refine doneSkip ?_
            refine Done.mk (thenQ_n ?_)
            refine awp_seq ?_
            refine awp_block ?_
            refine awp_seq ?_
            refine bind_el h (fun r_2 k13 h => ?_)
            replace k13 := getI_el k13
            refine awp_regionD Try_mixed (orcs := [(1, tV (.agg [pI r_2.frm, pI r_2.to]))]) (gs := [.keep [1, 3, 5, 12, 18, 19, 20, 58, 59, 60] [1, 5, 12, 16]]) (s' := ⟨[(1, .ptr 1 0), (3, .map 16), (5, .ptr 5 0), (12, .ptr 12 0), (18, .p (encL Row.cs t0.rows)), (19, pI ((t0.rows.length : Int))), (20, pI t20), (58, .p (encL Run.cs v3)), (59, pI ((v3.length : Int))), (60, pI t60)], [(1, .lit 24 [.p (encL Row.cs t0.rows)]), (5, .lit 48 [pI r_.y, .p (encL Run.cs r_.runs)]), (12, .lit 57 [pI r_2.frm, pI r_2.to]), (16, .tab 2 89 (encM m6))]⟩) (by kernel_rfl) (holds_of ((((0 ≤ t60 ∧ t60 < (v3.length : Int))) ∧ (rowHas (v3.flatMap Run.cs) (t60.toNat * 2) [pI r_2.frm, pI r_2.to]) ∧ UU ∧ UU ∧ UU) ∧ (UU ∧ UU)) (by kernel_rfl) ⟨⟨k13.2, row_has Run.cs_len k13.1 (o := 0) (m := 2) (by omega) (by decide), TT, TT, TT⟩, ⟨TT, TT⟩⟩) ?_
            refine Done.mk (thenQ_n ?_)
            refine awp_seq ?_
            refine awp_regionD Try_mixed (orcs := []) (gs := [.keep [1, 3, 5, 12, 13, 18, 19, 20, 58, 59, 60] [1, 5, 12, 16]]) (s' := ⟨[(1, .ptr 1 0), (3, .map 16), (5, .ptr 5 0), (12, .ptr 12 0), (13, pI r_2.frm), (18, .p (encL Row.cs t0.rows)), (19, pI ((t0.rows.length : Int))), (20, pI t20), (58, .p (encL Run.cs v3)), (59, pI ((v3.length : Int))), (60, pI t60)], [(1, .lit 24 [.p (encL Row.cs t0.rows)]), (5, .lit 48 [pI r_.y, .p (encL Run.cs r_.runs)]), (12, .lit 57 [pI r_2.frm, pI r_2.to]), (16, .tab 2 89 (encM m6))]⟩) (by kernel_rfl) (holds_of ((UU ∧ UU ∧ UU ∧ UU) ∧ (UU ∧ UU)) (by kernel_rfl) ⟨⟨TT, TT, TT, TT⟩, ⟨TT, TT⟩⟩) ?_
            refine Done.mk (thenQ_n ?_)
            refine awp_block ?_
            refine bind_el h (fun m5 hm h => ?_)
            refine awp_gh [.keep [1, 3, 5, 12, 13, 18, 19, 20, 58, 59, 60] [1, 5, 12, 16], .keep [1, 3, 5, 12, 13, 18, 19, 20, 58, 59, 60] [1, 5, 12, 16]] (s' := ⟨[(1, .ptr 1 0), (3, .map 16), (5, .ptr 5 0), (12, .ptr 12 0), (13, pI r_2.frm), (18, .p (encL Row.cs t0.rows)), (19, pI ((t0.rows.length : Int))), (20, pI t20), (58, .p (encL Run.cs v3)), (59, pI ((v3.length : Int))), (60, pI t60)], [(1, .lit 24 [.p (encL Row.cs t0.rows)]), (5, .lit 48 [pI r_.y, .p (encL Run.cs r_.runs)]), (12, .lit 57 [pI r_2.frm, pI r_2.to]), (16, .tab 2 89 (encM m6))]⟩) (by kernel_rfl) (holds_of (UU ∧ UU ∧ UU) (by kernel_rfl) ⟨TT, TT, TT⟩) ?_
            refine awp_tail (fun _ => (Exit.exit 8)) (fun o => match o with | m5 => ⟨[(1, .ptr 1 0), (3, .map 16), (5, .ptr 5 0), (18, .p (encL Row.cs t0.rows)), (19, pI ((t0.rows.length : Int))), (20, pI t20), (58, .p (encL Run.cs v3)), (59, pI ((v3.length : Int))), (60, pI t60)], [(1, .lit 24 [.p (encL Row.cs t0.rows)]), (5, .lit 48 [pI r_.y, .p (encL Run.cs r_.runs)]), (16, .tab 2 89 (encM m5))]⟩) hm (fun o h => ?_) ?_
            · refine awp_loop' (fun s => match s with | (t13, m4) => ⟨[(1, .ptr 1 0), (3, .map 16), (5, .ptr 5 0), (12, .ptr 12 0), (13, pI t13), (18, .p (encL Row.cs t0.rows)), (19, pI ((t0.rows.length : Int))), (20, pI t20), (58, .p (encL Run.cs v3)), (59, pI ((v3.length : Int))), (60, pI t60)], [(1, .lit 24 [.p (encL Row.cs t0.rows)]), (5, .lit 48 [pI r_.y, .p (encL Run.cs r_.runs)]), (12, .lit 57 [pI r_2.frm, pI r_2.to]), (16, .tab 2 89 (encM m4))]⟩) h (by kernel_rfl) (fun s out h => ?_)
              obtain ⟨t13, m4⟩ := s
              refine awp_seq ?_
              refine awp_seq ?_
              refine awp_regionD Try_mixed (orcs := []) (gs := [.keep [1, 3, 5, 12, 13, 18, 19, 20, 58, 59, 60, 69] [1, 5, 12, 16]]) (s' := ⟨[(1, .ptr 1 0), (3, .map 16), (5, .ptr 5 0), (12, .ptr 12 0), (13, pI t13), (18, .p (encL Row.cs t0.rows)), (19, pI ((t0.rows.length : Int))), (20, pI t20), (58, .p (encL Run.cs v3)), (59, pI ((v3.length : Int))), (60, pI t60), (69, pB (decide (t13 < r_2.to)))], [(1, .lit 24 [.p (encL Row.cs t0.rows)]), (5, .lit 48 [pI r_.y, .p (encL Run.cs r_.runs)]), (12, .lit 57 [pI r_2.frm, pI r_2.to]), (16, .tab 2 89 (encM m4))]⟩) (by kernel_rfl) (holds_of ((UU ∧ UU ∧ UU ∧ UU ∧ UU) ∧ (UU ∧ UU)) (by kernel_rfl) ⟨⟨TT, TT, TT, TT, TT⟩, ⟨TT, TT⟩⟩) ?_
              refine Done.mk (thenQ_n ?_)
              refine ifB_el h (fun k14 h => ?_) (fun k14 h => ?_)
              · refine awp_cond_t (b := decide (t13 < r_2.to)) (by kernel_rfl) k14 ?_
                refine doneSkip ?_
                refine Done.mk (thenQ_n ?_)
                refine awp_seq ?_
                refine awp_block ?_
                refine chk_el h (fun k15 h => ?_)
                refine chk_el h (fun k16 h => ?_)
                refine bind_el h (fun v4 k17 h => ?_)
                refine awp_regionD Try_mixed (orcs := [(7, { r := some (.tup []), fp := [16], post := [(16, .tab 2 89 (encM v4))] })]) (gs := [.keep [1, 3, 5, 12, 13, 18, 19, 20, 58, 59, 60] [1, 5, 12, 16]]) (s' := ⟨[(1, .ptr 1 0), (3, .map 16), (5, .ptr 5 0), (12, .ptr 12 0), (13, pI t13), (18, .p (encL Row.cs t0.rows)), (19, pI ((t0.rows.length : Int))), (20, pI t20), (58, .p (encL Run.cs v3)), (59, pI ((v3.length : Int))), (60, pI t60)], [(1, .lit 24 [.p (encL Row.cs t0.rows)]), (5, .lit 48 [pI r_.y, .p (encL Run.cs r_.runs)]), (12, .lit 57 [pI r_2.frm, pI r_2.to]), (16, .tab 2 89 (encM v4))]⟩) (by kernel_rfl) (holds_of ((UU ∧ UU ∧ (InR .i64 (t13 + 1 : Int)) ∧ UU ∧ UU ∧ (InR .i64 (r_.y + 1 : Int)) ∧ UU ∧ (ASpec Try.prog 46 [.map 16, .agg [pI (t13 + 1), pI (r_.y + 1)], pI 2] [(16, .tab 2 89 (encM m4))] (.tup []) [(16, .tab 2 89 (encM v4))]) ∧ UU) ∧ (UU ∧ UU)) (by kernel_rfl) ⟨⟨TT, TT, k15, TT, TT, k16, TT, aspec_at (cracks_add_ok' k17) 0 16 (by kernel_rfl), TT⟩, ⟨TT, TT⟩⟩) ?_
                refine Done.mk (inB_n (thenQ_n ?_))
                refine awp_regionD Try_mixed (orcs := []) (gs := [.keep [1, 3, 5, 12, 13, 18, 19, 20, 58, 59, 60] [1, 5, 12, 16]]) (s' := ⟨[(1, .ptr 1 0), (3, .map 16), (5, .ptr 5 0), (12, .ptr 12 0), (13, pI (t13 + 1)), (18, .p (encL Row.cs t0.rows)), (19, pI ((t0.rows.length : Int))), (20, pI t20), (58, .p (encL Run.cs v3)), (59, pI ((v3.length : Int))), (60, pI t60)], [(1, .lit 24 [.p (encL Row.cs t0.rows)]), (5, .lit 48 [pI r_.y, .p (encL Run.cs r_.runs)]), (12, .lit 57 [pI r_2.frm, pI r_2.to]), (16, .tab 2 89 (encM v4))]⟩) (by kernel_rfl) (holds_of ((UU ∧ (InR .i64 (t13 + 1 : Int)) ∧ UU ∧ UU) ∧ (UU ∧ UU)) (by kernel_rfl) ⟨⟨TT, k15, TT, TT⟩, ⟨TT, TT⟩⟩) ?_
                refine Done.mk ?_
                obtain rfl := Option.some.inj h
                exact ⟨rfl, by kernel_rfl⟩
              · refine awp_cond_f (b := decide (t13 < r_2.to)) (by kernel_rfl) k14 ?_
                refine doneExit ?_
                refine Done.gh [.keep [1, 3, 5, 18, 19, 20, 58, 59, 60] [1, 5, 16], .keep [1, 3, 5, 18, 19, 20, 58, 59, 60] [1, 5, 16]] (s' := ⟨[(1, .ptr 1 0), (3, .map 16), (5, .ptr 5 0), (18, .p (encL Row.cs t0.rows)), (19, pI ((t0.rows.length : Int))), (20, pI t20), (58, .p (encL Run.cs v3)), (59, pI ((v3.length : Int))), (60, pI t60)], [(1, .lit 24 [.p (encL Row.cs t0.rows)]), (5, .lit 48 [pI r_.y, .p (encL Run.cs r_.runs)]), (16, .tab 2 89 (encM m4))]⟩) (by kernel_rfl) (holds_of (UU ∧ UU ∧ UU) (by kernel_rfl) ⟨TT, TT, TT⟩) ?_
                refine Done.mk (thenQ_x ?_)
                obtain rfl := Option.some.inj h
                exact ⟨fun q => (by cases q), fun q => (by subst q; exact ⟨rfl, by kernel_rfl⟩)⟩
            · have _ := hm
              refine Done.as (e := (Exit.exit 8)) (s := ⟨[(1, .ptr 1 0), (3, .map 16), (5, .ptr 5 0), (18, .p (encL Row.cs t0.rows)), (19, pI ((t0.rows.length : Int))), (20, pI t20), (58, .p (encL Run.cs v3)), (59, pI ((v3.length : Int))), (60, pI t60)], [(1, .lit 24 [.p (encL Row.cs t0.rows)]), (5, .lit 48 [pI r_.y, .p (encL Run.cs r_.runs)]), (16, .tab 2 89 (encM m5))]⟩) rfl (by kernel_rfl) ?_
              refine Done.mk (inB_hit (inB_n (thenQ_n ?_)))
              refine chk_el h (fun k18 h => ?_)
              refine awp_regionD Try_mixed (orcs := []) (gs := [.keep [1, 3, 5, 18, 19, 20, 58, 59, 60] [1, 5, 16]]) (s' := ⟨[(1, .ptr 1 0), (3, .map 16), (5, .ptr 5 0), (18, .p (encL Row.cs t0.rows)), (19, pI ((t0.rows.length : Int))), (20, pI t20), (58, .p (encL Run.cs v3)), (59, pI ((v3.length : Int))), (60, pI (t60 + 1))], [(1, .lit 24 [.p (encL Row.cs t0.rows)]), (5, .lit 48 [pI r_.y, .p (encL Run.cs r_.runs)]), (16, .tab 2 89 (encM m5))]⟩) (by kernel_rfl) (holds_of (((InR .i64 (t60 + 1 : Int)) ∧ UU ∧ UU) ∧ (UU ∧ UU)) (by kernel_rfl) ⟨⟨k18, TT, TT⟩, ⟨TT, TT⟩⟩) ?_
              refine Done.mk ?_
              obtain rfl := Option.some.inj h
              exact ⟨rfl, by kernel_rfl⟩
          · refine awp_cond_f (b := decide (t60 < (v3.length : Int))) (by kernel_rfl) k12 ?_
            refine doneExit ?_
            refine Done.gh [.keep [1, 3, 5, 18, 19, 20] [1, 5, 16], .keep [1, 3, 5, 18, 19, 20] [1, 5, 16]] (s' := ⟨[(1, .ptr 1 0), (3, .map 16), (5, .ptr 5 0), (18, .p (encL Row.cs t0.rows)), (19, pI ((t0.rows.length : Int))), (20, pI t20)], [(1, .lit 24 [.p (encL Row.cs t0.rows)]), (5, .lit 48 [pI r_.y, .p (encL Run.cs r_.runs)]), (16, .tab 2 89 (encM m6))]⟩) (by kernel_rfl) (holds_of (UU ∧ UU ∧ UU) (by kernel_rfl) ⟨TT, TT, TT⟩) ?_
            refine Done.mk (thenQ_x ?_)
            obtain rfl := Option.some.inj h
            exact ⟨fun q => (by cases q), fun q => (by subst q; exact ⟨rfl, by kernel_rfl⟩)⟩
        · have _ := hm
          refine Done.as (e := (Exit.exit 6)) (s := ⟨[(1, .ptr 1 0), (3, .map 16), (5, .ptr 5 0), (18, .p (encL Row.cs t0.rows)), (19, pI ((t0.rows.length : Int))), (20, pI t20)], [(1, .lit 24 [.p (encL Row.cs t0.rows)]), (5, .lit 48 [pI r_.y, .p (encL Run.cs r_.runs)]), (16, .tab 2 89 (encM m7))]⟩) rfl (by kernel_rfl) ?_
          refine Done.mk (inB_hit (thenQ_n ?_))
          refine awp_seq ?_
          refine awp_regionD Try_mixed (orcs := []) (gs := [.keep [1, 3, 5, 18, 19, 20, 82, 83, 84] [1, 5, 16]]) (s' := ⟨[(1, .ptr 1 0), (3, .map 16), (5, .ptr 5 0), (18, .p (encL Row.cs t0.rows)), (19, pI ((t0.rows.length : Int))), (20, pI t20), (82, .p (encL Run.cs r_.runs)), (83, pI ((r_.runs.length : Int))), (84, pI 0)], [(1, .lit 24 [.p (encL Row.cs t0.rows)]), (5, .lit 48 [pI r_.y, .p (encL Run.cs r_.runs)]), (16, .tab 2 89 (encM m7))]⟩) (by kernel_rfl) (holds_of ((UU ∧ UU ∧ UU ∧ UU ∧ UU) ∧ (UU ∧ UU)) (by kernel_rfl) ⟨⟨TT, TT, TT, TT, TT⟩, ⟨TT, TT⟩⟩) ?_
          refine Done.mk (thenQ_n ?_)
          refine awp_block ?_
          refine bind_el h (fun m9 hm h => ?_)
          refine awp_gh [.keep [1, 3, 5, 18, 19, 20, 82, 83, 84] [1, 5, 16], .keep [1, 3, 5, 18, 19, 20, 82, 83, 84] [1, 5, 16]] (s' := ⟨[(1, .ptr 1 0), (3, .map 16), (5, .ptr 5 0), (18, .p (encL Row.cs t0.rows)), (19, pI ((t0.rows.length : Int))), (20, pI t20), (82, .p (encL Run.cs r_.runs)), (83, pI ((r_.runs.length : Int))), (84, pI 0)], [(1, .lit 24 [.p (encL Row.cs t0.rows)]), (5, .lit 48 [pI r_.y, .p (encL Run.cs r_.runs)]), (16, .tab 2 89 (encM m7))]⟩) (by kernel_rfl) (holds_of (UU ∧ UU ∧ UU) (by kernel_rfl) ⟨TT, TT, TT⟩) ?_
          refine awp_tail (fun _ => (Exit.exit 10)) (fun o => match o with | m9 => ⟨[(1, .ptr 1 0), (3, .map 16), (18, .p (encL Row.cs t0.rows)), (19, pI ((t0.rows.length : Int))), (20, pI t20)], [(1, .lit 24 [.p (encL Row.cs t0.rows)]), (16, .tab 2 89 (encM m9))]⟩) hm (fun o h => ?_) ?_
          · refine awp_loop' (fun s => match s with | (t84, m8) => ⟨[(1, .ptr 1 0), (3, .map 16), (5, .ptr 5 0), (18, .p (encL Row.cs t0.rows)), (19, pI ((t0.rows.length : Int))), (20, pI t20), (82, .p (encL Run.cs r_.runs)), (83, pI ((r_.runs.length : Int))), (84, pI t84)], [(1, .lit 24 [.p (encL Row.cs t0.rows)]), (5, .lit 48 [pI r_.y, .p (encL Run.cs r_.runs)]), (16, .tab 2 89 (encM m8))]⟩) h (by kernel_rfl) (fun s out h => ?_)
            obtain ⟨t84, m8⟩ := s
            refine awp_seq ?_
            refine awp_regionD Try_mixed (orcs := []) (gs := [.keep [1, 3, 5, 18, 19, 20, 82, 83, 84, 85] [1, 5, 16]]) (s' := ⟨[(1, .ptr 1 0), (3, .map 16), (5, .ptr 5 0), (18, .p (encL Row.cs t0.rows)), (19, pI ((t0.rows.length : Int))), (20, pI t20), (82, .p (encL Run.cs r_.runs)), (83, pI ((r_.runs.length : Int))), (84, pI t84), (85, pB (decide (t84 < (r_.runs.length : Int))))], [(1, .lit 24 [.p (encL Row.cs t0.rows)]), (5, .lit 48 [pI r_.y, .p (encL Run.cs r_.runs)]), (16, .tab 2 89 (encM m8))]⟩) (by kernel_rfl) (holds_of ((UU ∧ UU) ∧ (UU ∧ UU)) (by kernel_rfl) ⟨⟨TT, TT⟩, ⟨TT, TT⟩⟩) ?_
            refine Done.mk (thenQ_n ?_)
            refine awp_seq ?_
            refine ifB_el h (fun k19 h => ?_) (fun k19 h => ?_)
            · refine awp_cond_t (b := decide (t84 < (r_.runs.length : Int))) (by kernel_rfl) k19 ?_
              refine doneSkip ?_
              refine Done.mk (thenQ_n ?_)
              refine awp_seq ?_
              refine awp_block ?_
              refine awp_seq ?_
              refine bind_el h (fun r_3 k20 h => ?_)
              replace k20 := getI_el k20
              refine awp_regionD Try_mixed (orcs := [(1, tV (.agg [pI r_3.frm, pI r_3.to]))]) (gs := [.keep [1, 3, 5, 15, 18, 19, 20, 82, 83, 84] [1, 5, 15, 16]]) (s' := ⟨[(1, .ptr 1 0), (3, .map 16), (5, .ptr 5 0), (15, .ptr 15 0), (18, .p (encL Row.cs t0.rows)), (19, pI ((t0.rows.length : Int))), (20, pI t20), (82, .p (encL Run.cs r_.runs)), (83, pI ((r_.runs.length : Int))), (84, pI t84)], [(1, .lit 24 [.p (encL Row.cs t0.rows)]), (5, .lit 48 [pI r_.y, .p (encL Run.cs r_.runs)]), (15, .lit 57 [pI r_3.frm, pI r_3.to]), (16, .tab 2 89 (encM m8))]⟩) (by kernel_rfl) (holds_of ((((0 ≤ t84 ∧ t84 < (r_.runs.length : Int))) ∧ (rowHas (r_.runs.flatMap Run.cs) (t84.toNat * 2) [pI r_3.frm, pI r_3.to]) ∧ UU ∧ UU ∧ UU) ∧ (UU ∧ UU)) (by kernel_rfl) ⟨⟨k20.2, row_has Run.cs_len k20.1 (o := 0) (m := 2) (by omega) (by decide), TT, TT, TT⟩, ⟨TT, TT⟩⟩) ?_
              refine Done.mk (thenQ_n ?_)
              refine awp_seq ?_
              refine bind_el h (fun v5 k21 h => ?_)
              refine awp_regionD Try_mixed (orcs := [(6, { r := some (.tup []), fp := [16], post := [(16, .tab 2 89 (encM v5))] })]) (gs := [.keep [1, 3, 5, 15, 18, 19, 20, 82, 83, 84] [1, 5, 15, 16]]) (s' := ⟨[(1, .ptr 1 0), (3, .map 16), (5, .ptr 5 0), (15, .ptr 15 0), (18, .p (encL Row.cs t0.rows)), (19, pI ((t0.rows.length : Int))), (20, pI t20), (82, .p (encL Run.cs r_.runs)), (83, pI ((r_.runs.length : Int))), (84, pI t84)], [(1, .lit 24 [.p (encL Row.cs t0.rows)]), (5, .lit 48 [pI r_.y, .p (encL Run.cs r_.runs)]), (15, .lit 57 [pI r_3.frm, pI r_3.to]), (16, .tab 2 89 (encM v5))]⟩) (by kernel_rfl) (holds_of ((UU ∧ UU ∧ UU ∧ UU ∧ UU ∧ UU ∧ (ASpec Try.prog 46 [.map 16, .agg [pI r_3.to, pI r_.y], pI 1] [(16, .tab 2 89 (encM m8))] (.tup []) [(16, .tab 2 89 (encM v5))]) ∧ UU) ∧ (UU ∧ UU)) (by kernel_rfl) ⟨⟨TT, TT, TT, TT, TT, TT, aspec_at (cracks_add_ok' k21) 0 16 (by kernel_rfl), TT⟩, ⟨TT, TT⟩⟩) ?_
              refine Done.mk (thenQ_n ?_)
              refine chk_el h (fun k22 h => ?_)
              refine bind_el h (fun v6 k23 h => ?_)
              refine awp_regionD Try_mixed (orcs := [(7, { r := some (.tup []), fp := [16], post := [(16, .tab 2 89 (encM v6))] })]) (gs := [.keep [1, 3, 5, 18, 19, 20, 82, 83, 84] [1, 5, 16]]) (s' := ⟨[(1, .ptr 1 0), (3, .map 16), (5, .ptr 5 0), (18, .p (encL Row.cs t0.rows)), (19, pI ((t0.rows.length : Int))), (20, pI t20), (82, .p (encL Run.cs r_.runs)), (83, pI ((r_.runs.length : Int))), (84, pI t84)], [(1, .lit 24 [.p (encL Row.cs t0.rows)]), (5, .lit 48 [pI r_.y, .p (encL Run.cs r_.runs)]), (16, .tab 2 89 (encM v6))]⟩) (by kernel_rfl) (holds_of ((UU ∧ UU ∧ UU ∧ UU ∧ UU ∧ (InR .i64 (r_.y + 1 : Int)) ∧ UU ∧ (ASpec Try.prog 46 [.map 16, .agg [pI r_3.frm, pI (r_.y + 1)], pI 3] [(16, .tab 2 89 (encM v5))] (.tup []) [(16, .tab 2 89 (encM v6))]) ∧ UU) ∧ (UU ∧ UU)) (by kernel_rfl) ⟨⟨TT, TT, TT, TT, TT, k22, TT, aspec_at (cracks_add_ok' k23) 0 16 (by kernel_rfl), TT⟩, ⟨TT, TT⟩⟩) ?_
              refine Done.mk (inB_n (thenQ_n ?_))
              refine chk_el h (fun k24 h => ?_)
              refine awp_regionD Try_mixed (orcs := []) (gs := [.keep [1, 3, 5, 18, 19, 20, 82, 83, 84] [1, 5, 16]]) (s' := ⟨[(1, .ptr 1 0), (3, .map 16), (5, .ptr 5 0), (18, .p (encL Row.cs t0.rows)), (19, pI ((t0.rows.length : Int))), (20, pI t20), (82, .p (encL Run.cs r_.runs)), (83, pI ((r_.runs.length : Int))), (84, pI (t84 + 1))], [(1, .lit 24 [.p (encL Row.cs t0.rows)]), (5, .lit 48 [pI r_.y, .p (encL Run.cs r_.runs)]), (16, .tab 2 89 (encM v6))]⟩) (by kernel_rfl) (holds_of (((InR .i64 (t84 + 1 : Int)) ∧ UU ∧ UU) ∧ (UU ∧ UU)) (by kernel_rfl) ⟨⟨k24, TT, TT⟩, ⟨TT, TT⟩⟩) ?_
              refine Done.mk ?_
              obtain rfl := Option.some.inj h
              exact ⟨rfl, by kernel_rfl⟩
            · refine awp_cond_f (b := decide (t84 < (r_.runs.length : Int))) (by kernel_rfl) k19 ?_
              refine doneExit ?_
              refine Done.gh [.keep [1, 3, 18, 19, 20] [1, 16], .keep [1, 3, 18, 19, 20] [1, 16]] (s' := ⟨[(1, .ptr 1 0), (3, .map 16), (18, .p (encL Row.cs t0.rows)), (19, pI ((t0.rows.length : Int))), (20, pI t20)], [(1, .lit 24 [.p (encL Row.cs t0.rows)]), (16, .tab 2 89 (encM m8))]⟩) (by kernel_rfl) (holds_of (UU ∧ UU ∧ UU) (by kernel_rfl) ⟨TT, TT, TT⟩) ?_
              refine Done.mk (thenQ_x ?_)
              obtain rfl := Option.some.inj h
              exact ⟨fun q => (by cases q), fun q => (by subst q; exact ⟨rfl, by kernel_rfl⟩)⟩
          · have _ := hm
            refine Done.as (e := (Exit.exit 10)) (s := ⟨[(1, .ptr 1 0), (3, .map 16), (18, .p (encL Row.cs t0.rows)), (19, pI ((t0.rows.length : Int))), (20, pI t20)], [(1, .lit 24 [.p (encL Row.cs t0.rows)]), (16, .tab 2 89 (encM m9))]⟩) rfl (by kernel_rfl) ?_
            refine Done.mk (inB_hit (inB_n (thenQ_n ?_)))
            refine chk_el h (fun k25 h => ?_)
            refine awp_regionD Try_mixed (orcs := []) (gs := [.keep [1, 3, 18, 19, 20] [1, 16]]) (s' := ⟨[(1, .ptr 1 0), (3, .map 16), (18, .p (encL Row.cs t0.rows)), (19, pI ((t0.rows.length : Int))), (20, pI (t20 + 1))], [(1, .lit 24 [.p (encL Row.cs t0.rows)]), (16, .tab 2 89 (encM m9))]⟩) (by kernel_rfl) (holds_of (((InR .i64 (t20 + 1 : Int)) ∧ UU ∧ UU) ∧ (UU ∧ UU)) (by kernel_rfl) ⟨⟨k25, TT, TT⟩, ⟨TT, TT⟩⟩) ?_
            refine Done.mk ?_
            obtain rfl := Option.some.inj h
            exact ⟨rfl, by kernel_rfl⟩
    · refine awp_cond_f (b := decide (t20 < (t0.rows.length : Int))) (by kernel_rfl) k1 ?_
      refine doneExit ?_
      refine Done.gh [.keep [3] [16], .keep [3] [16]] (s' := ⟨[(3, .map 16)], [(16, .tab 2 89 (encM m10))]⟩) (by kernel_rfl) (holds_of (UU ∧ UU ∧ UU) (by kernel_rfl) ⟨TT, TT, TT⟩) ?_
      refine Done.mk (thenQ_x ?_)
      obtain rfl := Option.some.inj h
      exact ⟨fun q => (by cases q), fun q => (by subst q; exact ⟨rfl, by kernel_rfl⟩)⟩
  · have _ := hm
    refine Done.as (e := (Exit.exit 0)) (s := ⟨[(3, .map 16)], [(16, .tab 2 89 (encM m11))]⟩) rfl (by kernel_rfl) ?_
    refine Done.mk (inB_hit (thenQ_n ?_))
    refine awp_seq ?_
    refine awp_regionD Try_mixed (orcs := []) (gs := [.keep [2] [16]]) (s' := ⟨[(2, .map 16)], [(16, .tab 2 89 (encM m11))]⟩) (by kernel_rfl) (holds_of ((UU ∧ UU ∧ UU) ∧ (UU ∧ UU)) (by kernel_rfl) ⟨⟨TT, TT, TT⟩, ⟨TT, TT⟩⟩) ?_
    refine Done.mk (thenQ_n ?_)
    refine doneRet ?_
    refine Done.gh [.frzTab 16, .castB 16 (.ptab 2 (encT keyPt (encL iC) m11)), .ren 16 6000, .keep [2] [6000]] (s' := ⟨[(2, .map 6000)], [(6000, .ptab 2 (encT keyPt (encL iC) m11))]⟩) (by kernel_rfl) (holds_of (UU ∧ (some (ABlk.ptab 2 (pureTab (encM m11))) = some (ABlk.ptab 2 (encT keyPt (encL iC) m11))) ∧ UU ∧ UU ∧ UU) (by kernel_rfl) ⟨TT, (frz_told _ _), TT, TT, TT⟩) ?_
    refine Done.mk ?_
    obtain rfl := Option.some.inj h
    exact ⟨Or.inr rfl, by kernel_rfl, by kernel_rfl⟩
end
end Go.AM
end
section
namespace Go.AM
open Go Go.RowKit Go.Proofs
noncomputable section
noncomputable def slices_Clone (s_ : (List Int)) : Option (List Int) :=
  chk (s_ ≠ [])
  (chk ((([] : List Int)).length + s_.length ≤ 1099511627776)
  (some ((([] : List Int)) ++ s_)))
set_option maxRecDepth 100000 in
set_option maxHeartbeats 4000000 in
theorem slices_Clone_ok {s_ : (List Int)} {r : (List Int)} (h : slices_Clone s_ = some r) : ASpec Try.prog 75 [.p (encL iC s_)] [] (.own 6000 0 r.length 1) [(6000, .row 89 (r.flatMap iC))] := by
  refine aspec_of Try.func75 (c := _) rfl (by kernel_rfl) (by rw [Try.ntmps75]; exact Nat.le_of_ble_eq_true rfl) ?_
  refine awp_seq ?_
  refine awp_regionD Try_mixed (orcs := []) (gs := [.keep [0] []]) (s' := ⟨[(0, .p (encL iC s_))], []⟩) (by kernel_rfl) (holds_of ((UU ∧ UU) ∧ (UU ∧ UU)) (by kernel_rfl) ⟨⟨TT, TT⟩, ⟨TT, TT⟩⟩) ?_
  refine Done.mk (thenQ_n ?_)
  refine awp_seq ?_
  refine awp_seq ?_
  refine chk_el h (fun k1 h => ?_)
  refine awp_regionD Try_mixed (orcs := []) (gs := [.keep [0, 4] []]) (s' := ⟨[(0, .p (encL iC s_)), (4, pB false)], []⟩) (by kernel_rfl) (holds_of ((UU ∧ (s_.flatMap iC ≠ []) ∧ UU) ∧ (UU ∧ UU)) (by kernel_rfl) ⟨⟨TT, flat_ne iC_len (by decide) k1, TT⟩, ⟨TT, TT⟩⟩) ?_
  refine Done.mk (thenQ_n ?_)
  refine awp_false (by kernel_rfl) ?_
  refine doneSkip ?_
  refine Done.mk (thenQ_n ?_)
  refine awp_seq ?_
  refine chk_el h (fun k2 h => ?_)
  refine awp_regionD Try_mixed (orcs := [(0, { own := true }), (2, tV (.own 7 0 ((([] : List Int)) ++ s_).length 1))]) (gs := [.castB 7 (.row 89 (((([] : List Int)) ++ s_).flatMap iC)), .keep [2] [7]]) (s' := ⟨[(2, .own 7 0 ((([] : List Int)) ++ s_).length 1)], [(7, .row 89 (((([] : List Int)) ++ s_).flatMap iC))]⟩) (by kernel_rfl) (holds_of ((UU ∧ UU ∧ (((((([] : List Int)).flatMap iC).length = (([] : List Int)).length * 1 ∧ (s_.flatMap iC).length = s_.length * 1 ∧ ((([] : List Int)).length + s_.length) * 8 ≤ 140737488355328 ∧ (([] : List Int)).length + s_.length ≤ 9223372036854775807) ∧ some (AV.own 7 0 ((([] : List Int)).length + s_.length) 1) = some (AV.own 7 0 ((([] : List Int)) ++ s_).length 1))) ∧ UU ∧ UU) ∧ ((some (ABlk.row 89 ((([] : List Int)).flatMap iC ++ s_.flatMap iC)) = some (ABlk.row 89 (((([] : List Int)) ++ s_).flatMap iC))) ∧ UU ∧ UU)) (by kernel_rfl) ⟨⟨TT, TT, ⟨⟨flat_len iC_len _, flat_len iC_len _, by omega, by omega⟩, app_len _ _ _ _⟩, TT, TT⟩, ⟨(app_row iC _ _ _), TT, TT⟩⟩) ?_
  refine Done.mk (thenQ_n ?_)
  refine doneRet ?_
  refine Done.gh [.ren 7 6000, .keep [2] [6000]] (s' := ⟨[(2, .own 6000 0 ((([] : List Int)) ++ s_).length 1)], [(6000, .row 89 (((([] : List Int)) ++ s_).flatMap iC))]⟩) (by kernel_rfl) (holds_of (UU ∧ UU ∧ UU) (by kernel_rfl) ⟨TT, TT, TT⟩) ?_
  refine Done.mk ?_
  obtain rfl := Option.some.inj h
  exact ⟨Or.inr rfl, by kernel_rfl, by kernel_rfl⟩
end
end Go.AM
end
section
namespace Go.Proofs
open Go.Shelf
def Try.sortPt_ren : Go.Shelf.Ren := ⟨fun | 6 => 26 | 15 => 48 | 14 => 47 | 28 => 71 | 29 => 72 | 20 => 63 | 21 => 64 | 22 => 65 | 23 => 66 | 24 => 67 | 25 => 68 | 26 => 69 | 27 => 70 | 46 => 82 | 47 => 83 | 48 => 84 | 49 => 85 | 50 => 86 | 57 => 87 | n => n, fun | 22 => 51 | 24 => 63 | 25 => 65 | 3 => 3 | 39 => 92 | 0 => 0 | 53 => 115 | 55 => 117 | 4 => 4 | 46 => 108 | 45 => 107 | 50 => 112 | 5 => 5 | 9 => 9 | 66 => 128 | 70 => 132 | 76 => 134 | 77 => 135 | n => n, fun | n => n⟩
theorem Try.sortPt : Go.Proofs.SlLaysF0.n6 Try.prog Try.sortPt_ren := {
  mixed := by kernel_rfl
  f6 := ⟨Try.f26.name, by decide, Try.func26.trans (congrArg some (by kernel_rfl))⟩
  f14 := ⟨Try.f47.name, by decide, Try.func47.trans (congrArg some (by kernel_rfl))⟩
  f15 := Try.func48.trans (congrArg some (by kernel_rfl))
  f20 := ⟨Try.f63.name, by decide, Try.func63.trans (congrArg some (by kernel_rfl))⟩
  f21 := ⟨Try.f64.name, by decide, Try.func64.trans (congrArg some (by kernel_rfl))⟩
  f22 := ⟨Try.f65.name, by decide, Try.func65.trans (congrArg some (by kernel_rfl))⟩
  f23 := ⟨Try.f66.name, by decide, Try.func66.trans (congrArg some (by kernel_rfl))⟩
  f24 := ⟨Try.f67.name, by decide, Try.func67.trans (congrArg some (by kernel_rfl))⟩
  f25 := ⟨Try.f68.name, by decide, Try.func68.trans (congrArg some (by kernel_rfl))⟩
  f26 := ⟨Try.f69.name, by decide, Try.func69.trans (congrArg some (by kernel_rfl))⟩
  f27 := ⟨Try.f70.name, by decide, Try.func70.trans (congrArg some (by kernel_rfl))⟩
  f28 := Try.func71.trans (congrArg some (by kernel_rfl))
  f29 := Try.func72.trans (congrArg some (by kernel_rfl))
  f46 := ⟨Try.f82.name, by decide, Try.func82.trans (congrArg some (by kernel_rfl))⟩
  f47 := Try.func83.trans (congrArg some (by kernel_rfl))
  f48 := Try.func84.trans (congrArg some (by kernel_rfl))
  f49 := ⟨Try.f85.name, by decide, Try.func85.trans (congrArg some (by kernel_rfl))⟩
  f50 := ⟨Try.f86.name, by decide, Try.func86.trans (congrArg some (by kernel_rfl))⟩
  f57 := ⟨Try.f87.name, by decide, Try.func87.trans (congrArg some (by kernel_rfl))⟩
  t0 := Try.underlying0
  a0 := Try.isAgg0
  z0 := Try.sizeOf0
  v0 := Try.zeroValue0
  t3 := Try.underlying3
  a3 := Try.isAgg3
  z3 := Try.sizeOf3
  v3 := Try.zeroValue3
  t4 := Try.underlying4
  a4 := Try.isAgg4
  z4 := Try.sizeOf4
  v4 := Try.zeroValue4
  t5 := Try.underlying5
  a5 := Try.isAgg5
  z5 := Try.sizeOf5
  v5 := Try.zeroValue5
  t9 := Try.underlying9
  a9 := Try.isAgg9
  z9 := Try.sizeOf9
  v9 := Try.zeroValue9
  t22 := Try.underlying51
  a22 := Try.isAgg51
  z22 := Try.sizeOf51
  v22 := Try.zeroValue51
  t25 := Try.underlying65
  a25 := Try.isAgg65
  z25 := Try.sizeOf65
  v25 := Try.zeroValue65
  t39 := Try.underlying92
  a39 := Try.isAgg92
  z39 := Try.sizeOf92
  v39 := Try.zeroValue92
  t45 := Try.underlying107
  a45 := Try.isAgg107
  z45 := Try.sizeOf107
  v45 := Try.zeroValue107
  t46 := Try.underlying108
  a46 := Try.isAgg108
  z46 := Try.sizeOf108
  v46 := Try.zeroValue108
  t50 := Try.underlying112
  a50 := Try.isAgg112
  z50 := Try.sizeOf112
  v50 := Try.zeroValue112
  t53 := Try.underlying115
  a53 := Try.isAgg115
  z53 := Try.sizeOf115
  v53 := Try.zeroValue115
  t55 := Try.underlying117
  a55 := Try.isAgg117
  z55 := Try.sizeOf117
  v55 := Try.zeroValue117
  t66 := Try.underlying128
  a66 := Try.isAgg128
  z66 := Try.sizeOf128
  v66 := Try.zeroValue128
  t70 := Try.underlying132
  a70 := Try.isAgg132
  z70 := Try.sizeOf132
  v70 := Try.zeroValue132
  t76 := Try.underlying134
  a76 := Try.isAgg134
  z76 := Try.sizeOf134
  v76 := Try.zeroValue134
  t77 := Try.underlying135
  a77 := Try.isAgg135
  z77 := Try.sizeOf135
  v77 := Try.zeroValue135 }
def Try.delHd_ren : Go.Shelf.Ren := ⟨fun | 45 => 74 | n => n, fun | 22 => 66 | 23 => 89 | 3 => 3 | 4 => 4 | 0 => 0 | n => n, fun | n => n⟩
theorem Try.delHd : Go.Proofs.SlLaysE.n45 Try.prog Try.delHd_ren := {
  mixed := by kernel_rfl
  f45 := ⟨Try.f74.name, by decide, Try.func74.trans (congrArg some (by kernel_rfl))⟩
  t0 := Try.underlying0
  a0 := Try.isAgg0
  z0 := Try.sizeOf0
  v0 := Try.zeroValue0
  t3 := Try.underlying3
  a3 := Try.isAgg3
  z3 := Try.sizeOf3
  v3 := Try.zeroValue3
  t4 := Try.underlying4
  a4 := Try.isAgg4
  z4 := Try.sizeOf4
  v4 := Try.zeroValue4
  t22 := Try.underlying66
  a22 := Try.isAgg66
  z22 := Try.sizeOf66
  v22 := Try.zeroValue66
  a23 := Try.isAgg89
  z23 := Try.sizeOf89 }
end Go.Proofs
end
section
namespace Go.AM
open Go Go.RowKit Go.Proofs Go.Sort
def hd_delete (l : List Int) (i j : Int) : Option (List Int) := chk (l ≠ [] ∧ 0 ≤ i ∧ i ≤ j ∧ j ≤ (l.length : Int)) (some (l.take i.toNat ++ l.drop j.toNat))
set_option maxRecDepth 100000 in
theorem hd_delete_ok {l : List Int} {i j : Int} {r : List Int} (h : hd_delete l i j = some r) : ASpec Try.prog 74 [.own 0 0 l.length 1, pI i, pI j] [(0, .row 89 (l.flatMap iC))] (.p (encL iC r)) [] := by
  refine chk_el h fun hb h => ?_
  obtain rfl := Option.some.inj h
  refine aspec_delete ⟨Try.f74, Try.func74, by kernel_rfl, by kernel_rfl⟩ ?_ 89 hb.1 hb.2.1 hb.2.2.1 hb.2.2.2
  have hi : (Try.prog.info? 89).map (fun i => i.size) = some 1 := by kernel_rfl
  obtain ⟨i0, hi1, hi2⟩ := Option.map_eq_some_iff.1 hi
  intro w blk cap i j d hH h1 h2 h3 h4
  exact AnyE.slices_Delete Try.delHd (Value.int .i64) (fun _ => rfl) 0 Try.zeroValue89 i0 hi1 hi2 blk 0 cap i j d w hH h1 h2 h3 h4
end Go.AM
end
section
namespace Go.AM
open Go Go.RowKit Go.Proofs
noncomputable section
def boundary_cracks_take_j1 (p_ : Pt) (c : (List (Pt × (List Int)))) (n : Int) : Option ((List (Pt × (List Int)))) :=
    ifB ((((getT ([] : (List Int)) p_ c).length : Int) : Int) == (1 : Int))
    (some (delT p_ c))
    ((slices_Clone (getT ([] : (List Int)) p_ c)).bind fun v =>
      chk (InR .i64 (n + 1 : Int))
      ((hd_delete v n (n + 1)).bind fun v1 =>
      some (setT p_ v1 c)))
noncomputable def boundary_cracks_take (c : (List (Pt × (List Int)))) (p_ : Pt) (h_ : Int) : Option (Bool × (List (Pt × (List Int)))) :=
  (slices_Index (getT ([] : (List Int)) p_ c) h_).bind fun n =>
  ifB (decide (n < (0 : Int)))
  (some (false, c))
  ((boundary_cracks_take_j1 p_ c n).bind fun c1 =>
    some (true, c1))
set_option maxRecDepth 100000 in
set_option maxHeartbeats 4000000 in
theorem boundary_cracks_take_ok {c : (List (Pt × (List Int)))} {p_ : Pt} {h_ : Int} {r : (Bool × (List (Pt × (List Int))))} (h : boundary_cracks_take c p_ h_ = some r) : ASpec Try.prog 49 [.map 0, .agg [pI p_.x, pI p_.y], pI h_] [(0, .ptab 2 (encT keyPt (encL iC) c))] (pB r.1) [(0, .ptab 2 (encT keyPt (encL iC) r.2))] := by
  refine aspec_of Try.func49 (c := _) rfl (by kernel_rfl) (by rw [Try.ntmps49]; exact Nat.le_of_ble_eq_true rfl) ?_
  refine awp_seq ?_
  refine awp_regionD Try_mixed (orcs := []) (gs := [.keep [0, 2, 4] [0, 4]]) (s' := ⟨[(0, .map 0), (2, pI h_), (4, .ptr 4 0)], [(0, .ptab 2 (encT keyPt (encL iC) c)), (4, .lit 63 [pI p_.x, pI p_.y])]⟩) (by kernel_rfl) (holds_of ((UU ∧ UU ∧ UU) ∧ (UU ∧ UU)) (by kernel_rfl) ⟨⟨TT, TT, TT⟩, ⟨TT, TT⟩⟩) ?_
  refine Done.mk (thenQ_n ?_)
  refine awp_seq ?_
  refine bind_el h (fun n k1 h => ?_)
  refine awp_regionD Try_mixed (orcs := [(2, tV (.p (encL iC (getT ([] : (List Int)) p_ c)))), (4, tV (pI n))]) (gs := [.keep [0, 4, 7] [0, 4]]) (s' := ⟨[(0, .map 0), (4, .ptr 4 0), (7, pI n)], [(0, .ptab 2 (encT keyPt (encL iC) c)), (4, .lit 63 [pI p_.x, pI p_.y])]⟩) (by kernel_rfl) (holds_of ((UU ∧ UU ∧ ((UU ∧ some (AV.p ((tGet (keyPt p_) (encT keyPt (encL iC) c)).getD ((encL iC) []))) = some (AV.p (encL iC (getT ([] : (List Int)) p_ c))))) ∧ UU ∧ (ASpec Try.prog 73 [.p (encL iC (getT ([] : (List Int)) p_ c)), pI h_] [] (pI n) []) ∧ UU ∧ UU) ∧ (UU ∧ UU)) (by kernel_rfl) ⟨⟨TT, TT, ⟨TT, get_told keyPt_inj _ _ _ _⟩, TT, slices_Index_ok k1, TT, TT⟩, ⟨TT, TT⟩⟩) ?_
  refine Done.mk (thenQ_n ?_)
  refine awp_seq ?_
  refine awp_seq ?_
  refine awp_regionD Try_mixed (orcs := []) (gs := [.keep [0, 4, 7, 14] [0, 4]]) (s' := ⟨[(0, .map 0), (4, .ptr 4 0), (7, pI n), (14, pB (decide (n < (0 : Int))))], [(0, .ptab 2 (encT keyPt (encL iC) c)), (4, .lit 63 [pI p_.x, pI p_.y])]⟩) (by kernel_rfl) (holds_of ((UU ∧ UU ∧ UU) ∧ (UU ∧ UU)) (by kernel_rfl) ⟨⟨TT, TT, TT⟩, ⟨TT, TT⟩⟩) ?_
  refine Done.mk (thenQ_n ?_)
  refine ifB_el h (fun k2 h => ?_) (fun k2 h => ?_)
  · refine awp_cond_t (b := decide (n < (0 : Int))) (by kernel_rfl) k2 ?_
    refine awp_seq ?_
    refine awp_regionD Try_mixed (orcs := []) (gs := [.keep [6] [0]]) (s' := ⟨[(6, pB false)], [(0, .ptab 2 (encT keyPt (encL iC) c))]⟩) (by kernel_rfl) (holds_of ((UU ∧ UU) ∧ (UU ∧ UU)) (by kernel_rfl) ⟨⟨TT, TT⟩, ⟨TT, TT⟩⟩) ?_
    refine Done.mk (thenQ_n ?_)
    refine doneRet ?_
    refine Done.mk (thenQ_r ?_)
    obtain rfl := Option.some.inj h
    exact ⟨Or.inr rfl, by kernel_rfl, by kernel_rfl⟩
  · refine awp_cond_f (b := decide (n < (0 : Int))) (by kernel_rfl) k2 ?_
    refine doneSkip ?_
    refine Done.mk (thenQ_n ?_)
    refine awp_seq ?_
    refine bind_el h (fun c1 hm h => ?_)
    refine awp_tail (fun _ => Exit.normal) (fun o => match o with | c1 => ⟨[], [(0, .ptab 2 (encT keyPt (encL iC) c1))]⟩) hm (fun o h => ?_) ?_
    · refine awp_seq ?_
      refine awp_regionD Try_mixed (orcs := [(2, tV (.p (encL iC (getT ([] : (List Int)) p_ c))))]) (gs := [.keep [0, 4, 7, 19] [0, 4]]) (s' := ⟨[(0, .map 0), (4, .ptr 4 0), (7, pI n), (19, pB ((((getT ([] : (List Int)) p_ c).length : Int) : Int) == (1 : Int)))], [(0, .ptab 2 (encT keyPt (encL iC) c)), (4, .lit 63 [pI p_.x, pI p_.y])]⟩) (by kernel_rfl) (holds_of ((UU ∧ UU ∧ ((UU ∧ some (AV.p ((tGet (keyPt p_) (encT keyPt (encL iC) c)).getD ((encL iC) []))) = some (AV.p (encL iC (getT ([] : (List Int)) p_ c))))) ∧ UU ∧ UU ∧ UU) ∧ (UU ∧ UU)) (by kernel_rfl) ⟨⟨TT, TT, ⟨TT, get_told keyPt_inj _ _ _ _⟩, TT, TT, TT⟩, ⟨TT, TT⟩⟩) ?_
      refine Done.mk (thenQ_n ?_)
      refine ifB_el h (fun k3 h => ?_) (fun k3 h => ?_)
      · refine awp_cond_t (b := (((getT ([] : (List Int)) p_ c).length : Int) : Int) == (1 : Int)) (by kernel_rfl) k3 ?_
        refine awp_regionD Try_mixed (orcs := []) (gs := [.castB 0 (.ptab 2 (encT keyPt (encL iC) (delT p_ c))), .keep [] [0]]) (s' := ⟨[], [(0, .ptab 2 (encT keyPt (encL iC) (delT p_ c)))]⟩) (by kernel_rfl) (holds_of ((UU ∧ UU ∧ UU ∧ UU) ∧ ((some (ABlk.ptab 2 (tDel (keyPt p_) (encT keyPt (encL iC) c))) = some (ABlk.ptab 2 (encT keyPt (encL iC) (delT p_ c)))) ∧ UU ∧ UU)) (by kernel_rfl) ⟨⟨TT, TT, TT, TT⟩, ⟨(del_told keyPt_inj _ _ _ _), TT, TT⟩⟩) ?_
        refine Done.mk ?_
        obtain rfl := Option.some.inj h
        exact ⟨rfl, by kernel_rfl⟩
      · refine awp_cond_f (b := (((getT ([] : (List Int)) p_ c).length : Int) : Int) == (1 : Int)) (by kernel_rfl) k3 ?_
        refine bind_el h (fun v k4 h => ?_)
        refine chk_el h (fun k5 h => ?_)
        refine bind_el h (fun v1 k6 h => ?_)
        refine awp_regionD Try_mixed (orcs := [(4, tV (.p (encL iC (getT ([] : (List Int)) p_ c)))), (5, { r := some (.own 6000 0 v.length 1), fp := [], post := [(6000, .row 89 (v.flatMap iC))] }), (9, { r := some (.p (encL iC v1)), fp := [6000], post := [] })]) (gs := [.castB 0 (.ptab 2 (encT keyPt (encL iC) (setT p_ v1 c))), .keep [] [0]]) (s' := ⟨[], [(0, .ptab 2 (encT keyPt (encL iC) (setT p_ v1 c)))]⟩) (by kernel_rfl) (holds_of ((UU ∧ UU ∧ UU ∧ UU ∧ ((UU ∧ some (AV.p ((tGet (keyPt p_) (encT keyPt (encL iC) c)).getD ((encL iC) []))) = some (AV.p (encL iC (getT ([] : (List Int)) p_ c))))) ∧ (ASpec Try.prog 75 [.p (encL iC (getT ([] : (List Int)) p_ c))] [] (.own 6000 0 v.length 1) [(6000, .row 89 (v.flatMap iC))]) ∧ UU ∧ UU ∧ (InR .i64 (n + 1 : Int)) ∧ (ASpec Try.prog 74 [.own 6000 0 v.length 1, pI n, pI (n + 1)] [(6000, .row 89 (v.flatMap iC))] (.p (encL iC v1)) []) ∧ UU ∧ UU) ∧ ((some (ABlk.ptab 2 (tSet (keyPt p_) ((encL iC) v1) (encT keyPt (encL iC) c))) = some (ABlk.ptab 2 (encT keyPt (encL iC) (setT p_ v1 c)))) ∧ UU ∧ UU)) (by kernel_rfl) ⟨⟨TT, TT, TT, TT, ⟨TT, get_told keyPt_inj _ _ _ _⟩, slices_Clone_ok k4, TT, TT, k5, aspec_at (hd_delete_ok k6) 0 6000 (by kernel_rfl), TT, TT⟩, ⟨(set_told keyPt_inj _ _ _ _ _), TT, TT⟩⟩) ?_
        refine Done.mk ?_
        obtain rfl := Option.some.inj h
        exact ⟨rfl, by kernel_rfl⟩
    · have _ := hm
      refine Done.as (e := Exit.normal) (s := ⟨[], [(0, .ptab 2 (encT keyPt (encL iC) c1))]⟩) rfl (by kernel_rfl) ?_
      refine Done.mk (thenQ_n ?_)
      refine awp_seq ?_
      refine awp_regionD Try_mixed (orcs := []) (gs := [.keep [6] [0]]) (s' := ⟨[(6, pB true)], [(0, .ptab 2 (encT keyPt (encL iC) c1))]⟩) (by kernel_rfl) (holds_of ((UU ∧ UU) ∧ (UU ∧ UU)) (by kernel_rfl) ⟨⟨TT, TT⟩, ⟨TT, TT⟩⟩) ?_
      refine Done.mk (thenQ_n ?_)
      refine doneRet ?_
      refine Done.mk ?_
      obtain rfl := Option.some.inj h
      exact ⟨Or.inr rfl, by kernel_rfl, by kernel_rfl⟩
end
end Go.AM
end
