/- Models of functions, and that their calls do what the models say. Printed by gen.py. -/
import Derived.Test.YtijdlphadhpabaaProg
import Derived.Test.YtijdlphadhpabaaF4
section
namespace Go.AM
open Go Go.RowKit Go.Proofs
noncomputable section
def R18_Count_l1 (r_ : Region) (i : Int) (s : Int × Int) : Option ((Int × Int) ⊕ (Int)) :=
  match s with
  | (n, k) =>
    (getI r_.rows i).bind fun r_1 =>
    ifB (decide (k < (r_1.runs.length : Int)))
    ((getI r_1.runs k).bind fun r_2 =>
      chk (InR .i64 (r_2.to - r_2.frm : Int))
      (chk (InR .i64 (n + (r_2.to - r_2.frm) : Int))
      (chk (InR .i64 (k + 1 : Int))
      (some (.inl (n + (r_2.to - r_2.frm), k + 1))))))
    (some (.inr n))
def R18_Count_l2 (r_ : Region) (s : Int × Int) : Option ((Int × Int) ⊕ (Int)) :=
  match s with
  | (n2, i) =>
    ifB (decide (i < (r_.rows.length : Int)))
    ((loopP (R18_Count_l1 r_ i) (n2, 0)).bind fun n1 =>
      chk (InR .i64 (i + 1 : Int))
      (some (.inl (n1, i + 1))))
    (some (.inr n2))
noncomputable def R18_Count (r_ : Region) : Option Int :=
  (R18_Valid r_).bind fun b =>
  ifB (!b)
  (some 0)
  ((loopP (R18_Count_l2 r_) (0, 0)).bind fun n3 =>
    some n3)
set_option maxRecDepth 100000 in
set_option maxHeartbeats 4000000 in
theorem R18_Count_ok {r_ : Region} {r : Int} (h : R18_Count r_ = some r) : ASpec Try.prog 16 [.agg [.p (encL Row.cs r_.rows)]] [] (pI r) [] := by
  refine aspec_of Try.func16 (c := _) rfl (by kernel_rfl) (by rw [Try.ntmps16]; exact Nat.le_of_ble_eq_true rfl) ?_
  refine awp_seq ?_
  refine awp_regionD Try_mixed (orcs := []) (gs := [.keep [1] [1]]) (s' := ⟨[(1, .ptr 1 0)], [(1, .lit 24 [.p (encL Row.cs r_.rows)])]⟩) (by kernel_rfl) (holds_of ((UU ∧ UU ∧ UU) ∧ (UU ∧ UU)) (by kernel_rfl) ⟨⟨TT, TT, TT⟩, ⟨TT, TT⟩⟩) ?_
  refine Done.mk (thenQ_n ?_)
  refine awp_seq ?_
  refine awp_regionD Try_mixed (orcs := []) (gs := [.keep [1, 3] [1]]) (s' := ⟨[(1, .ptr 1 0), (3, pI 0)], [(1, .lit 24 [.p (encL Row.cs r_.rows)])]⟩) (by kernel_rfl) (holds_of ((UU ∧ UU) ∧ (UU ∧ UU)) (by kernel_rfl) ⟨⟨TT, TT⟩, ⟨TT, TT⟩⟩) ?_
  refine Done.mk (thenQ_n ?_)
  refine awp_seq ?_
  refine awp_seq ?_
  refine bind_el h (fun b k1 h => ?_)
  refine awp_regionD Try_mixed (orcs := [(1, tV (pB b))]) (gs := [.keep [1, 3, 8] [1]]) (s' := ⟨[(1, .ptr 1 0), (3, pI 0), (8, pB (!b))], [(1, .lit 24 [.p (encL Row.cs r_.rows)])]⟩) (by kernel_rfl) (holds_of ((UU ∧ (ASpec Try.prog 33 [.agg [.p (encL Row.cs r_.rows)]] [] (pB b) []) ∧ UU ∧ UU) ∧ (UU ∧ UU)) (by kernel_rfl) ⟨⟨TT, R18_Valid_ok k1, TT, TT⟩, ⟨TT, TT⟩⟩) ?_
  refine Done.mk (thenQ_n ?_)
  refine ifB_el h (fun k2 h => ?_) (fun k2 h => ?_)
  · refine awp_cond_t (b := !b) (by kernel_rfl) k2 ?_
    refine awp_seq ?_
    refine awp_regionD Try_mixed (orcs := []) (gs := [.keep [2] []]) (s' := ⟨[(2, pI 0)], []⟩) (by kernel_rfl) (holds_of ((UU ∧ UU ∧ UU) ∧ (UU ∧ UU)) (by kernel_rfl) ⟨⟨TT, TT, TT⟩, ⟨TT, TT⟩⟩) ?_
    refine Done.mk (thenQ_n ?_)
    refine doneRet ?_
    refine Done.mk (thenQ_r ?_)
    obtain rfl := Option.some.inj h
    exact ⟨Or.inr rfl, by kernel_rfl, by kernel_rfl⟩
  · refine awp_cond_f (b := !b) (by kernel_rfl) k2 ?_
    refine doneSkip ?_
    refine Done.mk (thenQ_n ?_)
    refine awp_seq ?_
    refine awp_seq ?_
    refine awp_regionD Try_mixed (orcs := []) (gs := [.keep [1, 3, 4] [1]]) (s' := ⟨[(1, .ptr 1 0), (3, pI 0), (4, pI 0)], [(1, .lit 24 [.p (encL Row.cs r_.rows)])]⟩) (by kernel_rfl) (holds_of ((UU ∧ UU) ∧ (UU ∧ UU)) (by kernel_rfl) ⟨⟨TT, TT⟩, ⟨TT, TT⟩⟩) ?_
    refine Done.mk (thenQ_n ?_)
    refine awp_block ?_
    refine bind_el h (fun n3 hm h => ?_)
    refine awp_gh [.keep [1, 3, 4] [1], .keep [1, 3, 4] [1]] (s' := ⟨[(1, .ptr 1 0), (3, pI 0), (4, pI 0)], [(1, .lit 24 [.p (encL Row.cs r_.rows)])]⟩) (by kernel_rfl) (holds_of (UU ∧ UU ∧ UU) (by kernel_rfl) ⟨TT, TT, TT⟩) ?_
    refine awp_tail (fun _ => (Exit.exit 0)) (fun o => match o with | n3 => ⟨[(3, pI n3)], []⟩) hm (fun o h => ?_) ?_
    · refine awp_loop' (fun s => match s with | (n2, i) => ⟨[(1, .ptr 1 0), (3, pI n2), (4, pI i)], [(1, .lit 24 [.p (encL Row.cs r_.rows)])]⟩) h (by kernel_rfl) (fun s out h => ?_)
      obtain ⟨n2, i⟩ := s
      refine awp_seq ?_
      refine awp_seq ?_
      refine awp_regionD Try_mixed (orcs := []) (gs := [.keep [1, 3, 4, 14] [1]]) (s' := ⟨[(1, .ptr 1 0), (3, pI n2), (4, pI i), (14, pB (decide (i < (r_.rows.length : Int))))], [(1, .lit 24 [.p (encL Row.cs r_.rows)])]⟩) (by kernel_rfl) (holds_of ((UU ∧ UU ∧ UU ∧ UU ∧ UU ∧ UU) ∧ (UU ∧ UU)) (by kernel_rfl) ⟨⟨TT, TT, TT, TT, TT, TT⟩, ⟨TT, TT⟩⟩) ?_
      refine Done.mk (thenQ_n ?_)
      refine ifB_el h (fun k3 h => ?_) (fun k3 h => ?_)
      · refine awp_cond_t (b := decide (i < (r_.rows.length : Int))) (by kernel_rfl) k3 ?_
        refine doneSkip ?_
        refine Done.mk (thenQ_n ?_)
        refine awp_seq ?_
        refine awp_block ?_
        refine awp_seq ?_
        refine awp_regionD Try_mixed (orcs := []) (gs := [.keep [1, 3, 4, 5] [1]]) (s' := ⟨[(1, .ptr 1 0), (3, pI n2), (4, pI i), (5, pI 0)], [(1, .lit 24 [.p (encL Row.cs r_.rows)])]⟩) (by kernel_rfl) (holds_of ((UU ∧ UU) ∧ (UU ∧ UU)) (by kernel_rfl) ⟨⟨TT, TT⟩, ⟨TT, TT⟩⟩) ?_
        refine Done.mk (thenQ_n ?_)
        refine awp_block ?_
        refine bind_el h (fun n1 hm h => ?_)
        refine awp_gh [.keep [1, 3, 4, 5] [1], .keep [1, 3, 4, 5] [1]] (s' := ⟨[(1, .ptr 1 0), (3, pI n2), (4, pI i), (5, pI 0)], [(1, .lit 24 [.p (encL Row.cs r_.rows)])]⟩) (by kernel_rfl) (holds_of (UU ∧ UU ∧ UU) (by kernel_rfl) ⟨TT, TT, TT⟩) ?_
        refine awp_tail (fun _ => (Exit.exit 2)) (fun o => match o with | n1 => ⟨[(1, .ptr 1 0), (3, pI n1), (4, pI i)], [(1, .lit 24 [.p (encL Row.cs r_.rows)])]⟩) hm (fun o h => ?_) ?_
        · refine awp_loop' (fun s => match s with | (n, k) => ⟨[(1, .ptr 1 0), (3, pI n), (4, pI i), (5, pI k)], [(1, .lit 24 [.p (encL Row.cs r_.rows)])]⟩) h (by kernel_rfl) (fun s out h => ?_)
          obtain ⟨n, k⟩ := s
          refine awp_seq ?_
          refine awp_seq ?_
          refine bind_el h (fun r_1 k4 h => ?_)
          replace k4 := getI_el k4
          refine awp_regionD Try_mixed (orcs := [(6, tV (.p (encL Run.cs r_1.runs)))]) (gs := [.keep [1, 3, 4, 5, 25] [1]]) (s' := ⟨[(1, .ptr 1 0), (3, pI n), (4, pI i), (5, pI k), (25, pB (decide (k < (r_1.runs.length : Int))))], [(1, .lit 24 [.p (encL Row.cs r_.rows)])]⟩) (by kernel_rfl) (holds_of ((UU ∧ UU ∧ UU ∧ UU ∧ ((0 ≤ i ∧ i < (r_.rows.length : Int))) ∧ UU ∧ ((r_.rows.flatMap Row.cs)[i.toNat * 2 + 1]? = some (encL Run.cs r_1.runs)) ∧ UU ∧ UU ∧ UU) ∧ (UU ∧ UU)) (by kernel_rfl) ⟨⟨TT, TT, TT, TT, k4.2, TT, row_at Row.cs_len k4.1 (j := 1) (by omega) (by decide), TT, TT, TT⟩, ⟨TT, TT⟩⟩) ?_
          refine Done.mk (thenQ_n ?_)
          refine ifB_el h (fun k5 h => ?_) (fun k5 h => ?_)
          · refine awp_cond_t (b := decide (k < (r_1.runs.length : Int))) (by kernel_rfl) k5 ?_
            refine doneSkip ?_
            refine Done.mk (thenQ_n ?_)
            refine awp_seq ?_
            refine awp_block ?_
            refine bind_el h (fun r_2 k6 h => ?_)
            replace k6 := getI_el k6
            refine chk_el h (fun k7 h => ?_)
            refine chk_el h (fun k8 h => ?_)
            refine awp_regionD Try_mixed (orcs := [(6, tV (.p (encL Run.cs r_1.runs))), (10, tV (pI r_2.to)), (16, tV (.p (encL Run.cs r_1.runs))), (20, tV (pI r_2.frm))]) (gs := [.keep [1, 3, 4, 5] [1]]) (s' := ⟨[(1, .ptr 1 0), (3, pI (n + (r_2.to - r_2.frm))), (4, pI i), (5, pI k)], [(1, .lit 24 [.p (encL Row.cs r_.rows)])]⟩) (by kernel_rfl) (holds_of ((UU ∧ UU ∧ UU ∧ UU ∧ ((0 ≤ i ∧ i < (r_.rows.length : Int))) ∧ UU ∧ ((r_.rows.flatMap Row.cs)[i.toNat * 2 + 1]? = some (encL Run.cs r_1.runs)) ∧ UU ∧ ((0 ≤ k ∧ k < (r_1.runs.length : Int))) ∧ UU ∧ ((r_1.runs.flatMap Run.cs)[k.toNat * 2 + 1]? = some (vI r_2.to)) ∧ UU ∧ UU ∧ UU ∧ ((0 ≤ i ∧ i < (r_.rows.length : Int))) ∧ UU ∧ ((r_.rows.flatMap Row.cs)[i.toNat * 2 + 1]? = some (encL Run.cs r_1.runs)) ∧ UU ∧ ((0 ≤ k ∧ k < (r_1.runs.length : Int))) ∧ UU ∧ ((r_1.runs.flatMap Run.cs)[k.toNat * 2]? = some (vI r_2.frm)) ∧ (InR .i64 (r_2.to - r_2.frm : Int)) ∧ (InR .i64 (n + (r_2.to - r_2.frm) : Int)) ∧ UU ∧ UU) ∧ (UU ∧ UU)) (by kernel_rfl) ⟨⟨TT, TT, TT, TT, k4.2, TT, row_at Row.cs_len k4.1 (j := 1) (by omega) (by decide), TT, k6.2, TT, row_at Run.cs_len k6.1 (j := 1) (by omega) (by decide), TT, TT, TT, k4.2, TT, row_at Row.cs_len k4.1 (j := 1) (by omega) (by decide), TT, k6.2, TT, row_at Run.cs_len k6.1 (j := 0) (by omega) (by decide), k7, k8, TT, TT⟩, ⟨TT, TT⟩⟩) ?_
            refine Done.mk (inB_n (thenQ_n ?_))
            refine chk_el h (fun k9 h => ?_)
            refine awp_regionD Try_mixed (orcs := []) (gs := [.keep [1, 3, 4, 5] [1]]) (s' := ⟨[(1, .ptr 1 0), (3, pI (n + (r_2.to - r_2.frm))), (4, pI i), (5, pI (k + 1))], [(1, .lit 24 [.p (encL Row.cs r_.rows)])]⟩) (by kernel_rfl) (holds_of ((UU ∧ (InR .i64 (k + 1 : Int)) ∧ UU ∧ UU) ∧ (UU ∧ UU)) (by kernel_rfl) ⟨⟨TT, k9, TT, TT⟩, ⟨TT, TT⟩⟩) ?_
            refine Done.mk ?_
            obtain rfl := Option.some.inj h
            exact ⟨rfl, by kernel_rfl⟩
          · refine awp_cond_f (b := decide (k < (r_1.runs.length : Int))) (by kernel_rfl) k5 ?_
            refine doneExit ?_
            refine Done.gh [.keep [1, 3, 4] [1], .keep [1, 3, 4] [1]] (s' := ⟨[(1, .ptr 1 0), (3, pI n), (4, pI i)], [(1, .lit 24 [.p (encL Row.cs r_.rows)])]⟩) (by kernel_rfl) (holds_of (UU ∧ UU ∧ UU) (by kernel_rfl) ⟨TT, TT, TT⟩) ?_
            refine Done.mk (thenQ_x ?_)
            obtain rfl := Option.some.inj h
            exact ⟨fun q => (by cases q), fun q => (by subst q; exact ⟨rfl, by kernel_rfl⟩)⟩
        · have _ := hm
          refine Done.as (e := (Exit.exit 2)) (s := ⟨[(1, .ptr 1 0), (3, pI n1), (4, pI i)], [(1, .lit 24 [.p (encL Row.cs r_.rows)])]⟩) rfl (by kernel_rfl) ?_
          refine Done.mk (inB_hit (inB_n (thenQ_n ?_)))
          refine chk_el h (fun k10 h => ?_)
          refine awp_regionD Try_mixed (orcs := []) (gs := [.keep [1, 3, 4] [1]]) (s' := ⟨[(1, .ptr 1 0), (3, pI n1), (4, pI (i + 1))], [(1, .lit 24 [.p (encL Row.cs r_.rows)])]⟩) (by kernel_rfl) (holds_of ((UU ∧ (InR .i64 (i + 1 : Int)) ∧ UU ∧ UU) ∧ (UU ∧ UU)) (by kernel_rfl) ⟨⟨TT, k10, TT, TT⟩, ⟨TT, TT⟩⟩) ?_
          refine Done.mk ?_
          obtain rfl := Option.some.inj h
          exact ⟨rfl, by kernel_rfl⟩
      · refine awp_cond_f (b := decide (i < (r_.rows.length : Int))) (by kernel_rfl) k3 ?_
        refine doneExit ?_
        refine Done.gh [.keep [3] [], .keep [3] []] (s' := ⟨[(3, pI n2)], []⟩) (by kernel_rfl) (holds_of (UU ∧ UU ∧ UU) (by kernel_rfl) ⟨TT, TT, TT⟩) ?_
        refine Done.mk (thenQ_x ?_)
        obtain rfl := Option.some.inj h
        exact ⟨fun q => (by cases q), fun q => (by subst q; exact ⟨rfl, by kernel_rfl⟩)⟩
    · have _ := hm
      refine Done.as (e := (Exit.exit 0)) (s := ⟨[(3, pI n3)], []⟩) rfl (by kernel_rfl) ?_
      refine Done.mk (inB_hit (thenQ_n ?_))
      refine awp_seq ?_
      refine awp_regionD Try_mixed (orcs := []) (gs := [.keep [2] []]) (s' := ⟨[(2, pI n3)], []⟩) (by kernel_rfl) (holds_of ((UU ∧ UU ∧ UU) ∧ (UU ∧ UU)) (by kernel_rfl) ⟨⟨TT, TT, TT⟩, ⟨TT, TT⟩⟩) ?_
      refine Done.mk (thenQ_n ?_)
      refine doneRet ?_
      refine Done.mk ?_
      obtain rfl := Option.some.inj h
      exact ⟨Or.inr rfl, by kernel_rfl, by kernel_rfl⟩
end
end Go.AM
end
section
namespace Go.AM
open Go Go.RowKit Go.Proofs
noncomputable section
def L18_Small_l1 (r_ : Region) (s : Int) : Option ((Int) ⊕ ((Unit) ⊕ (Unit))) :=
  match s with
  | i =>
    ifB (decide (i < (r_.rows.length : Int)))
    ((getI r_.rows i).bind fun r_1 =>
      ifB (decide ((r_1.runs.length : Int) > (40 : Int)))
      (some (.inr (.inr ())))
      (chk (InR .i64 (i + 1 : Int))
        (some (.inl (i + 1)))))
    (some (.inr (.inl ())))
noncomputable def L18_Small (r_ : Region) : Option Bool :=
  ifB (decide ((r_.rows.length : Int) > (40 : Int)))
  (some false)
  ((loopP (L18_Small_l1 r_) 0).bind fun o => match o with
    | .inl _ => (R18_Count r_).bind fun n =>
      some (decide (n ≤ (600 : Int)))
    | .inr _ => some false)
set_option maxRecDepth 100000 in
set_option maxHeartbeats 4000000 in
theorem L18_Small_ok {r_ : Region} {r : Bool} (h : L18_Small r_ = some r) : ASpec Try.prog 7 [.agg [.p (encL Row.cs r_.rows)]] [] (pB r) [] := by
  refine aspec_of Try.func7 (c := _) rfl (by kernel_rfl) (by rw [Try.ntmps7]; exact Nat.le_of_ble_eq_true rfl) ?_
  refine awp_seq ?_
  refine awp_regionD Try_mixed (orcs := []) (gs := [.keep [1] [1]]) (s' := ⟨[(1, .ptr 1 0)], [(1, .lit 24 [.p (encL Row.cs r_.rows)])]⟩) (by kernel_rfl) (holds_of ((UU ∧ UU ∧ UU) ∧ (UU ∧ UU)) (by kernel_rfl) ⟨⟨TT, TT, TT⟩, ⟨TT, TT⟩⟩) ?_
  refine Done.mk (thenQ_n ?_)
  refine awp_seq ?_
  refine awp_seq ?_
  refine awp_regionD Try_mixed (orcs := []) (gs := [.keep [1, 7] [1]]) (s' := ⟨[(1, .ptr 1 0), (7, pB (decide ((r_.rows.length : Int) > (40 : Int))))], [(1, .lit 24 [.p (encL Row.cs r_.rows)])]⟩) (by kernel_rfl) (holds_of ((UU ∧ UU ∧ UU ∧ UU ∧ UU) ∧ (UU ∧ UU)) (by kernel_rfl) ⟨⟨TT, TT, TT, TT, TT⟩, ⟨TT, TT⟩⟩) ?_
  refine Done.mk (thenQ_n ?_)
  refine ifB_el h (fun k1 h => ?_) (fun k1 h => ?_)
  · refine awp_cond_t (b := decide ((r_.rows.length : Int) > (40 : Int))) (by kernel_rfl) k1 ?_
    refine awp_seq ?_
    refine awp_regionD Try_mixed (orcs := []) (gs := [.keep [2] []]) (s' := ⟨[(2, pB false)], []⟩) (by kernel_rfl) (holds_of ((UU ∧ UU) ∧ (UU ∧ UU)) (by kernel_rfl) ⟨⟨TT, TT⟩, ⟨TT, TT⟩⟩) ?_
    refine Done.mk (thenQ_n ?_)
    refine doneRet ?_
    refine Done.mk (thenQ_r ?_)
    obtain rfl := Option.some.inj h
    exact ⟨Or.inr rfl, by kernel_rfl, by kernel_rfl⟩
  · refine awp_cond_f (b := decide ((r_.rows.length : Int) > (40 : Int))) (by kernel_rfl) k1 ?_
    refine doneSkip ?_
    refine Done.mk (thenQ_n ?_)
    refine awp_seq ?_
    refine awp_seq ?_
    refine awp_regionD Try_mixed (orcs := []) (gs := [.keep [1, 3] [1]]) (s' := ⟨[(1, .ptr 1 0), (3, pI 0)], [(1, .lit 24 [.p (encL Row.cs r_.rows)])]⟩) (by kernel_rfl) (holds_of ((UU ∧ UU) ∧ (UU ∧ UU)) (by kernel_rfl) ⟨⟨TT, TT⟩, ⟨TT, TT⟩⟩) ?_
    refine Done.mk (thenQ_n ?_)
    refine awp_block ?_
    refine bind_el h (fun o hm h => ?_)
    refine awp_gh [.keep [1, 3] [1], .keep [1, 3] [1]] (s' := ⟨[(1, .ptr 1 0), (3, pI 0)], [(1, .lit 24 [.p (encL Row.cs r_.rows)])]⟩) (by kernel_rfl) (holds_of (UU ∧ UU ∧ UU) (by kernel_rfl) ⟨TT, TT, TT⟩) ?_
    refine awp_tail (fun o => match o with | .inl _ => (Exit.exit 0) | .inr _ => Exit.ret) (fun o => match o with | .inl _ => ⟨[(1, .ptr 1 0)], [(1, .lit 24 [.p (encL Row.cs r_.rows)])]⟩ | .inr _ => ⟨[(2, pB false)], []⟩) hm (fun o h => ?_) ?_
    · refine awp_loop' (fun s => match s with | i => ⟨[(1, .ptr 1 0), (3, pI i)], [(1, .lit 24 [.p (encL Row.cs r_.rows)])]⟩) h (by kernel_rfl) (fun i out h => ?_)
      refine awp_seq ?_
      refine awp_seq ?_
      refine awp_regionD Try_mixed (orcs := []) (gs := [.keep [1, 3, 12] [1]]) (s' := ⟨[(1, .ptr 1 0), (3, pI i), (12, pB (decide (i < (r_.rows.length : Int))))], [(1, .lit 24 [.p (encL Row.cs r_.rows)])]⟩) (by kernel_rfl) (holds_of ((UU ∧ UU ∧ UU ∧ UU ∧ UU ∧ UU) ∧ (UU ∧ UU)) (by kernel_rfl) ⟨⟨TT, TT, TT, TT, TT, TT⟩, ⟨TT, TT⟩⟩) ?_
      refine Done.mk (thenQ_n ?_)
      refine ifB_el h (fun k2 h => ?_) (fun k2 h => ?_)
      · refine awp_cond_t (b := decide (i < (r_.rows.length : Int))) (by kernel_rfl) k2 ?_
        refine doneSkip ?_
        refine Done.mk (thenQ_n ?_)
        refine awp_seq ?_
        refine awp_block ?_
        refine awp_seq ?_
        refine bind_el h (fun r_1 k3 h => ?_)
        replace k3 := getI_el k3
        refine awp_regionD Try_mixed (orcs := [(5, tV (.p (encL Run.cs r_1.runs)))]) (gs := [.keep [1, 3, 22] [1]]) (s' := ⟨[(1, .ptr 1 0), (3, pI i), (22, pB (decide ((r_1.runs.length : Int) > (40 : Int))))], [(1, .lit 24 [.p (encL Row.cs r_.rows)])]⟩) (by kernel_rfl) (holds_of ((UU ∧ UU ∧ UU ∧ ((0 ≤ i ∧ i < (r_.rows.length : Int))) ∧ UU ∧ ((r_.rows.flatMap Row.cs)[i.toNat * 2 + 1]? = some (encL Run.cs r_1.runs)) ∧ UU ∧ UU ∧ UU) ∧ (UU ∧ UU)) (by kernel_rfl) ⟨⟨TT, TT, TT, k3.2, TT, row_at Row.cs_len k3.1 (j := 1) (by omega) (by decide), TT, TT, TT⟩, ⟨TT, TT⟩⟩) ?_
        refine Done.mk (thenQ_n ?_)
        refine ifB_el h (fun k4 h => ?_) (fun k4 h => ?_)
        · refine awp_cond_t (b := decide ((r_1.runs.length : Int) > (40 : Int))) (by kernel_rfl) k4 ?_
          refine awp_seq ?_
          refine awp_regionD Try_mixed (orcs := []) (gs := [.keep [2] []]) (s' := ⟨[(2, pB false)], []⟩) (by kernel_rfl) (holds_of ((UU ∧ UU) ∧ (UU ∧ UU)) (by kernel_rfl) ⟨⟨TT, TT⟩, ⟨TT, TT⟩⟩) ?_
          refine Done.mk (thenQ_n ?_)
          refine doneRet ?_
          refine Done.mk (inB_r (thenQ_r ?_))
          obtain rfl := Option.some.inj h
          exact ⟨fun q => (by cases q), fun q => (by subst q; exact ⟨rfl, by kernel_rfl⟩)⟩
        · refine awp_cond_f (b := decide ((r_1.runs.length : Int) > (40 : Int))) (by kernel_rfl) k4 ?_
          refine doneSkip ?_
          refine Done.mk (inB_n (thenQ_n ?_))
          refine chk_el h (fun k5 h => ?_)
          refine awp_regionD Try_mixed (orcs := []) (gs := [.keep [1, 3] [1]]) (s' := ⟨[(1, .ptr 1 0), (3, pI (i + 1))], [(1, .lit 24 [.p (encL Row.cs r_.rows)])]⟩) (by kernel_rfl) (holds_of ((UU ∧ (InR .i64 (i + 1 : Int)) ∧ UU ∧ UU) ∧ (UU ∧ UU)) (by kernel_rfl) ⟨⟨TT, k5, TT, TT⟩, ⟨TT, TT⟩⟩) ?_
          refine Done.mk ?_
          obtain rfl := Option.some.inj h
          exact ⟨rfl, by kernel_rfl⟩
      · refine awp_cond_f (b := decide (i < (r_.rows.length : Int))) (by kernel_rfl) k2 ?_
        refine doneExit ?_
        refine Done.gh [.keep [1] [1], .keep [1] [1]] (s' := ⟨[(1, .ptr 1 0)], [(1, .lit 24 [.p (encL Row.cs r_.rows)])]⟩) (by kernel_rfl) (holds_of (UU ∧ UU ∧ UU) (by kernel_rfl) ⟨TT, TT, TT⟩) ?_
        refine Done.mk (thenQ_x ?_)
        obtain rfl := Option.some.inj h
        exact ⟨fun q => (by cases q), fun q => (by subst q; exact ⟨rfl, by kernel_rfl⟩)⟩
    · rcases o with _u | _u
      · refine Done.as (e := (Exit.exit 0)) (s := ⟨[(1, .ptr 1 0)], [(1, .lit 24 [.p (encL Row.cs r_.rows)])]⟩) rfl (by kernel_rfl) ?_
        refine Done.mk (inB_hit (thenQ_n ?_))
        refine awp_seq ?_
        refine bind_el h (fun n k6 h => ?_)
        refine awp_regionD Try_mixed (orcs := [(1, tV (pI n))]) (gs := [.keep [2] []]) (s' := ⟨[(2, pB (decide (n ≤ (600 : Int))))], []⟩) (by kernel_rfl) (holds_of ((UU ∧ (ASpec Try.prog 16 [.agg [.p (encL Row.cs r_.rows)]] [] (pI n) []) ∧ UU ∧ UU ∧ UU) ∧ (UU ∧ UU)) (by kernel_rfl) ⟨⟨TT, R18_Count_ok k6, TT, TT, TT⟩, ⟨TT, TT⟩⟩) ?_
        refine Done.mk (thenQ_n ?_)
        refine doneRet ?_
        refine Done.mk ?_
        obtain rfl := Option.some.inj h
        exact ⟨Or.inr rfl, by kernel_rfl, by kernel_rfl⟩
      · refine Done.as (e := Exit.ret) (s := ⟨[(2, pB false)], []⟩) rfl (by kernel_rfl) ?_
        refine Done.mk (inB_r (thenQ_r ?_))
        obtain rfl := Option.some.inj h
        exact ⟨Or.inr rfl, by kernel_rfl, by kernel_rfl⟩
end
end Go.AM
end
section
namespace Go.AM
open Go Go.RowKit Go.Proofs
noncomputable section
def L24_box_l1 (h_ : Int) (y : Int) (x : Int) (w_ : Int) (s : Int × (List Row)) : Option ((Int × (List Row)) ⊕ ((List Row))) :=
  match s with
  | (i, out_) =>
    ifB (decide (i < h_))
    (chk (InR .i64 (y + i : Int))
      (chk (InR .i64 (x + w_ : Int))
      (chk (out_.length + ([Row.mk (y + i) ([Run.mk x (x + w_)])]).length ≤ 1099511627776)
      (chk (InR .i64 (i + 1 : Int))
      (some (.inl (i + 1, out_ ++ ([Row.mk (y + i) ([Run.mk x (x + w_)])]))))))))
    (some (.inr out_))
noncomputable def L24_box (x : Int) (y : Int) (w_ : Int) (h_ : Int) : Option Region :=
  (loopP (L24_box_l1 h_ y x w_) (0, ([] : List Row))).bind fun out_1 =>
  some (Region.mk out_1)
set_option maxRecDepth 100000 in
set_option maxHeartbeats 4000000 in
theorem L24_box_ok {x : Int} {y : Int} {w_ : Int} {h_ : Int} {r : Region} (h : L24_box x y w_ h_ = some r) : ASpec Try.prog 12 [pI x, pI y, pI w_, pI h_] [] (.agg [.p (encL Row.cs r.rows)]) [] := by
  refine aspec_of Try.func12 (c := _) rfl (by kernel_rfl) (by rw [Try.ntmps12]; exact Nat.le_of_ble_eq_true rfl) ?_
  refine awp_seq ?_
  refine awp_regionD Try_mixed (orcs := []) (gs := [.keep [0, 1, 2, 3, 8] [8]]) (s' := ⟨[(0, pI x), (1, pI y), (2, pI w_), (3, pI h_), (8, .ptr 8 0)], [(8, .lit 24 [.nils])]⟩) (by kernel_rfl) (holds_of ((UU ∧ UU) ∧ (UU ∧ UU)) (by kernel_rfl) ⟨⟨TT, TT⟩, ⟨TT, TT⟩⟩) ?_
  refine Done.mk (thenQ_n ?_)
  refine awp_seq ?_
  refine awp_regionD Try_mixed (orcs := []) (gs := [.keep [0, 1, 2, 3, 8, 9] [8, 9]]) (s' := ⟨[(0, pI x), (1, pI y), (2, pI w_), (3, pI h_), (8, .ptr 8 0), (9, .ptr 9 0)], [(8, .lit 24 [.nils]), (9, .lit 24 [.nils])]⟩) (by kernel_rfl) (holds_of ((UU ∧ UU) ∧ (UU ∧ UU)) (by kernel_rfl) ⟨⟨TT, TT⟩, ⟨TT, TT⟩⟩) ?_
  refine Done.mk (thenQ_n ?_)
  refine awp_seq ?_
  refine awp_seq ?_
  refine awp_regionD Try_mixed (orcs := []) (gs := [.keep [0, 1, 2, 3, 8, 9, 10] [8, 9]]) (s' := ⟨[(0, pI x), (1, pI y), (2, pI w_), (3, pI h_), (8, .ptr 8 0), (9, .ptr 9 0), (10, pI 0)], [(8, .lit 24 [.nils]), (9, .lit 24 [.nils])]⟩) (by kernel_rfl) (holds_of ((UU ∧ UU) ∧ (UU ∧ UU)) (by kernel_rfl) ⟨⟨TT, TT⟩, ⟨TT, TT⟩⟩) ?_
  refine Done.mk (thenQ_n ?_)
  refine awp_block ?_
  refine bind_el h (fun out_1 hm h => ?_)
  refine awp_gh [.keep [0, 1, 2, 3, 8, 9, 10] [8, 9], .opnB 9 0 5001 48 2, .keep [0, 1, 2, 3, 8, 9, 10] [8, 9, 5001]] (s' := ⟨[(0, pI x), (1, pI y), (2, pI w_), (3, pI h_), (8, .ptr 8 0), (9, .ptr 9 0), (10, pI 0)], [(8, .lit 24 [.nils]), (9, .lit 24 [.own 5001 0 (([] : List Row)).length 2]), (5001, .row 48 ((([] : List Row)).flatMap Row.cs))]⟩) (by kernel_rfl) (holds_of (UU ∧ UU ∧ UU ∧ UU) (by kernel_rfl) ⟨TT, TT, TT, TT⟩) ?_
  refine awp_tail (fun _ => (Exit.exit 0)) (fun o => match o with | out_1 => ⟨[(8, .ptr 8 0), (9, .ptr 9 0)], [(8, .lit 24 [.nils]), (9, .lit 24 [.own 5001 0 out_1.length 2]), (5001, .row 48 (out_1.flatMap Row.cs))]⟩) hm (fun o h => ?_) ?_
  · refine awp_loop' (fun s => match s with | (i, out_) => ⟨[(0, pI x), (1, pI y), (2, pI w_), (3, pI h_), (8, .ptr 8 0), (9, .ptr 9 0), (10, pI i)], [(8, .lit 24 [.nils]), (9, .lit 24 [.own 5001 0 out_.length 2]), (5001, .row 48 (out_.flatMap Row.cs))]⟩) h (by kernel_rfl) (fun s out h => ?_)
    obtain ⟨i, out_⟩ := s
    refine awp_seq ?_
    refine awp_seq ?_
    refine awp_regionD Try_mixed (orcs := []) (gs := [.keep [0, 1, 2, 3, 8, 9, 10, 13] [8, 9, 5001]]) (s' := ⟨[(0, pI x), (1, pI y), (2, pI w_), (3, pI h_), (8, .ptr 8 0), (9, .ptr 9 0), (10, pI i), (13, pB (decide (i < h_)))], [(8, .lit 24 [.nils]), (9, .lit 24 [.own 5001 0 out_.length 2]), (5001, .row 48 (out_.flatMap Row.cs))]⟩) (by kernel_rfl) (holds_of ((UU ∧ UU ∧ UU ∧ UU) ∧ (UU ∧ UU)) (by kernel_rfl) ⟨⟨TT, TT, TT, TT⟩, ⟨TT, TT⟩⟩) ?_
    refine Done.mk (thenQ_n ?_)
    refine ifB_el h (fun k1 h => ?_) (fun k1 h => ?_)
    · refine awp_cond_t (b := decide (i < h_)) (by kernel_rfl) k1 ?_
      refine doneSkip ?_
      refine Done.mk (thenQ_n ?_)
      refine awp_seq ?_
      refine awp_block ?_
      refine chk_el h (fun k2 h => ?_)
      refine chk_el h (fun k3 h => ?_)
      refine chk_el h (fun k4 h => ?_)
      refine awp_regionD Try_mixed (orcs := [(13, tV (.own 29 0 (out_ ++ ([Row.mk (y + i) ([Run.mk x (x + w_)])])).length 2))]) (gs := [.castB 29 (.row 48 ((out_ ++ ([Row.mk (y + i) ([Run.mk x (x + w_)])])).flatMap Row.cs)), .keep [0, 1, 2, 3, 8, 9, 10] [8, 9, 29]]) (s' := ⟨[(0, pI x), (1, pI y), (2, pI w_), (3, pI h_), (8, .ptr 8 0), (9, .ptr 9 0), (10, pI i)], [(8, .lit 24 [.nils]), (9, .lit 24 [.own 29 0 (out_ ++ ([Row.mk (y + i) ([Run.mk x (x + w_)])])).length 2]), (29, .row 48 ((out_ ++ ([Row.mk (y + i) ([Run.mk x (x + w_)])])).flatMap Row.cs))]⟩) (by kernel_rfl) (holds_of ((UU ∧ UU ∧ UU ∧ UU ∧ (InR .i64 (y + i : Int)) ∧ UU ∧ UU ∧ UU ∧ (InR .i64 (x + w_ : Int)) ∧ UU ∧ UU ∧ UU ∧ UU ∧ ((((out_.flatMap Row.cs).length = out_.length * 2 ∧ (([Row.mk (y + i) ([Run.mk x (x + w_)])]).flatMap Row.cs).length = ([Row.mk (y + i) ([Run.mk x (x + w_)])]).length * 2 ∧ (out_.length + ([Row.mk (y + i) ([Run.mk x (x + w_)])]).length) * 32 ≤ 140737488355328 ∧ out_.length + ([Row.mk (y + i) ([Run.mk x (x + w_)])]).length ≤ 9223372036854775807) ∧ some (AV.own 29 0 (out_.length + ([Row.mk (y + i) ([Run.mk x (x + w_)])]).length) 2) = some (AV.own 29 0 (out_ ++ ([Row.mk (y + i) ([Run.mk x (x + w_)])])).length 2))) ∧ UU ∧ UU ∧ UU) ∧ ((some (ABlk.row 48 (out_.flatMap Row.cs ++ ([Row.mk (y + i) ([Run.mk x (x + w_)])]).flatMap Row.cs)) = some (ABlk.row 48 ((out_ ++ ([Row.mk (y + i) ([Run.mk x (x + w_)])])).flatMap Row.cs))) ∧ UU ∧ UU)) (by kernel_rfl) ⟨⟨TT, TT, TT, TT, k2, TT, TT, TT, k3, TT, TT, TT, TT, ⟨⟨flat_len Row.cs_len _, flat_len Row.cs_len _, by omega, by omega⟩, app_len _ _ _ _⟩, TT, TT, TT⟩, ⟨(app_row Row.cs _ _ _), TT, TT⟩⟩) ?_
      refine Done.mk (inB_n (thenQ_n ?_))
      refine chk_el h (fun k5 h => ?_)
      refine awp_regionD Try_mixed (orcs := []) (gs := [.keep [0, 1, 2, 3, 8, 9, 10] [8, 9, 29]]) (s' := ⟨[(0, pI x), (1, pI y), (2, pI w_), (3, pI h_), (8, .ptr 8 0), (9, .ptr 9 0), (10, pI (i + 1))], [(8, .lit 24 [.nils]), (9, .lit 24 [.own 29 0 (out_ ++ ([Row.mk (y + i) ([Run.mk x (x + w_)])])).length 2]), (29, .row 48 ((out_ ++ ([Row.mk (y + i) ([Run.mk x (x + w_)])])).flatMap Row.cs))]⟩) (by kernel_rfl) (holds_of ((UU ∧ (InR .i64 (i + 1 : Int)) ∧ UU ∧ UU) ∧ (UU ∧ UU)) (by kernel_rfl) ⟨⟨TT, k5, TT, TT⟩, ⟨TT, TT⟩⟩) ?_
      refine Done.gh [.keep [0, 1, 2, 3, 8, 9, 10] [8, 9, 29], .ren 29 5001, .keep [0, 1, 2, 3, 8, 9, 10] [8, 9, 5001]] (s' := ⟨[(0, pI x), (1, pI y), (2, pI w_), (3, pI h_), (8, .ptr 8 0), (9, .ptr 9 0), (10, pI (i + 1))], [(8, .lit 24 [.nils]), (9, .lit 24 [.own 5001 0 (out_ ++ ([Row.mk (y + i) ([Run.mk x (x + w_)])])).length 2]), (5001, .row 48 ((out_ ++ ([Row.mk (y + i) ([Run.mk x (x + w_)])])).flatMap Row.cs))]⟩) (by kernel_rfl) (holds_of (UU ∧ UU ∧ UU ∧ UU) (by kernel_rfl) ⟨TT, TT, TT, TT⟩) ?_
      refine Done.mk ?_
      obtain rfl := Option.some.inj h
      exact ⟨rfl, by kernel_rfl⟩
    · refine awp_cond_f (b := decide (i < h_)) (by kernel_rfl) k1 ?_
      refine doneExit ?_
      refine Done.gh [.keep [8, 9] [8, 9, 5001], .keep [8, 9] [8, 9, 5001]] (s' := ⟨[(8, .ptr 8 0), (9, .ptr 9 0)], [(8, .lit 24 [.nils]), (9, .lit 24 [.own 5001 0 out_.length 2]), (5001, .row 48 (out_.flatMap Row.cs))]⟩) (by kernel_rfl) (holds_of (UU ∧ UU ∧ UU) (by kernel_rfl) ⟨TT, TT, TT⟩) ?_
      refine Done.mk (thenQ_x ?_)
      obtain rfl := Option.some.inj h
      exact ⟨fun q => (by cases q), fun q => (by subst q; exact ⟨rfl, by kernel_rfl⟩)⟩
  · have _ := hm
    refine Done.as (e := (Exit.exit 0)) (s := ⟨[(8, .ptr 8 0), (9, .ptr 9 0)], [(8, .lit 24 [.nils]), (9, .lit 24 [.own 5001 0 out_1.length 2]), (5001, .row 48 (out_1.flatMap Row.cs))]⟩) rfl (by kernel_rfl) ?_
    refine Done.mk (inB_hit (thenQ_n ?_))
    refine awp_seq ?_
    refine awp_regionD Try_mixed (orcs := []) (gs := [.keep [8] [8, 5001]]) (s' := ⟨[(8, .ptr 8 0)], [(8, .lit 24 [.own 5001 0 out_1.length 2]), (5001, .row 48 (out_1.flatMap Row.cs))]⟩) (by kernel_rfl) (holds_of ((UU ∧ UU ∧ UU) ∧ (UU ∧ UU)) (by kernel_rfl) ⟨⟨TT, TT, TT⟩, ⟨TT, TT⟩⟩) ?_
    refine Done.mk (thenQ_n ?_)
    refine doneRet ?_
    refine Done.gh [.frz 5001, .keep [8] [8]] (s' := ⟨[(8, .ptr 8 0)], [(8, .lit 24 [.p (encL Row.cs out_1)])]⟩) (by kernel_rfl) (holds_of (UU ∧ UU ∧ UU) (by kernel_rfl) ⟨TT, TT, TT⟩) ?_
    refine Done.mk ?_
    obtain rfl := Option.some.inj h
    exact ⟨Or.inr rfl, by kernel_rfl, by kernel_rfl⟩
end
end Go.AM
end
section
namespace Go.AM
open Go Go.RowKit Go.Proofs
noncomputable section
def boundary_heading_from_j1 (h_ : Int) (p_ : Pt) : Option (Int × Int) :=
    ifB (h_ == (0 : Int))
    (chk (InR .i64 (p_.x + 1 : Int))
      (some (p_.x + 1, p_.y)))
    (ifB (h_ == (1 : Int))
      (chk (InR .i64 (p_.y + 1 : Int))
        (some (p_.x, p_.y + 1)))
      (ifB (h_ == (2 : Int))
        (chk (InR .i64 (p_.x - 1 : Int))
          (some (p_.x - 1, p_.y)))
        (chk (InR .i64 (p_.y - 1 : Int))
          (some (p_.x, p_.y - 1)))))
noncomputable def boundary_heading_from (h_ : Int) (p_ : Pt) : Option Pt :=
  (boundary_heading_from_j1 h_ p_).bind fun (pX, pY) =>
  some (Pt.mk pX pY)
set_option maxRecDepth 100000 in
set_option maxHeartbeats 4000000 in
theorem boundary_heading_from_ok {h_ : Int} {p_ : Pt} {r : Pt} (h : boundary_heading_from h_ p_ = some r) : ASpec Try.prog 50 [pI h_, .agg [pI p_.x, pI p_.y]] [] (.agg [pI r.x, pI r.y]) [] := by
  refine aspec_of Try.func50 (c := _) rfl (by kernel_rfl) (by rw [Try.ntmps50]; exact Nat.le_of_ble_eq_true rfl) ?_
  refine awp_seq ?_
  refine awp_regionD Try_mixed (orcs := []) (gs := [.keep [0, 3, 4] [3, 4]]) (s' := ⟨[(0, pI h_), (3, .ptr 3 0), (4, .ptr 4 0)], [(3, .lit 63 [pI p_.x, pI p_.y]), (4, .lit 63 [pI 0, pI 0])]⟩) (by kernel_rfl) (holds_of ((UU ∧ UU ∧ UU) ∧ (UU ∧ UU)) (by kernel_rfl) ⟨⟨TT, TT, TT⟩, ⟨TT, TT⟩⟩) ?_
  refine Done.mk (thenQ_n ?_)
  refine awp_seq ?_
  refine bind_el h (fun o hm h => ?_)
  refine awp_tail (fun _ => Exit.normal) (fun o => match o with | (pX, pY) => ⟨[(3, .ptr 3 0), (4, .ptr 4 0)], [(3, .lit 63 [pI pX, pI pY]), (4, .lit 63 [pI 0, pI 0])]⟩) hm (fun o h => ?_) ?_
  · refine awp_seq ?_
    refine awp_regionD Try_mixed (orcs := []) (gs := [.keep [3, 4, 5] [3, 4]]) (s' := ⟨[(3, .ptr 3 0), (4, .ptr 4 0), (5, pI h_)], [(3, .lit 63 [pI p_.x, pI p_.y]), (4, .lit 63 [pI 0, pI 0])]⟩) (by kernel_rfl) (holds_of ((UU ∧ UU) ∧ (UU ∧ UU)) (by kernel_rfl) ⟨⟨TT, TT⟩, ⟨TT, TT⟩⟩) ?_
    refine Done.mk (thenQ_n ?_)
    refine awp_block ?_
    refine awp_seq ?_
    refine awp_regionD Try_mixed (orcs := []) (gs := [.keep [3, 4, 5, 10] [3, 4]]) (s' := ⟨[(3, .ptr 3 0), (4, .ptr 4 0), (5, pI h_), (10, pB (h_ == (0 : Int)))], [(3, .lit 63 [pI p_.x, pI p_.y]), (4, .lit 63 [pI 0, pI 0])]⟩) (by kernel_rfl) (holds_of ((UU ∧ UU ∧ UU) ∧ (UU ∧ UU)) (by kernel_rfl) ⟨⟨TT, TT, TT⟩, ⟨TT, TT⟩⟩) ?_
    refine Done.mk (thenQ_n ?_)
    refine ifB_el h (fun k1 h => ?_) (fun k1 h => ?_)
    · refine awp_cond_t (b := h_ == (0 : Int)) (by kernel_rfl) k1 ?_
      refine chk_el h (fun k2 h => ?_)
      refine awp_regionD Try_mixed (orcs := []) (gs := [.keep [3, 4] [3, 4]]) (s' := ⟨[(3, .ptr 3 0), (4, .ptr 4 0)], [(3, .lit 63 [pI (p_.x + 1), pI p_.y]), (4, .lit 63 [pI 0, pI 0])]⟩) (by kernel_rfl) (holds_of ((UU ∧ UU ∧ (InR .i64 (p_.x + 1 : Int)) ∧ UU ∧ UU ∧ UU) ∧ (UU ∧ UU)) (by kernel_rfl) ⟨⟨TT, TT, k2, TT, TT, TT⟩, ⟨TT, TT⟩⟩) ?_
      refine Done.mk (inB_n ?_)
      obtain rfl := Option.some.inj h
      exact ⟨rfl, by kernel_rfl⟩
    · refine awp_cond_f (b := h_ == (0 : Int)) (by kernel_rfl) k1 ?_
      refine awp_seq ?_
      refine awp_regionD Try_mixed (orcs := []) (gs := [.keep [3, 4, 5, 16] [3, 4]]) (s' := ⟨[(3, .ptr 3 0), (4, .ptr 4 0), (5, pI h_), (16, pB (h_ == (1 : Int)))], [(3, .lit 63 [pI p_.x, pI p_.y]), (4, .lit 63 [pI 0, pI 0])]⟩) (by kernel_rfl) (holds_of ((UU ∧ UU ∧ UU) ∧ (UU ∧ UU)) (by kernel_rfl) ⟨⟨TT, TT, TT⟩, ⟨TT, TT⟩⟩) ?_
      refine Done.mk (thenQ_n ?_)
      refine ifB_el h (fun k3 h => ?_) (fun k3 h => ?_)
      · refine awp_cond_t (b := h_ == (1 : Int)) (by kernel_rfl) k3 ?_
        refine chk_el h (fun k4 h => ?_)
        refine awp_regionD Try_mixed (orcs := []) (gs := [.keep [3, 4] [3, 4]]) (s' := ⟨[(3, .ptr 3 0), (4, .ptr 4 0)], [(3, .lit 63 [pI p_.x, pI (p_.y + 1)]), (4, .lit 63 [pI 0, pI 0])]⟩) (by kernel_rfl) (holds_of ((UU ∧ UU ∧ (InR .i64 (p_.y + 1 : Int)) ∧ UU ∧ UU ∧ UU) ∧ (UU ∧ UU)) (by kernel_rfl) ⟨⟨TT, TT, k4, TT, TT, TT⟩, ⟨TT, TT⟩⟩) ?_
        refine Done.mk (inB_n ?_)
        obtain rfl := Option.some.inj h
        exact ⟨rfl, by kernel_rfl⟩
      · refine awp_cond_f (b := h_ == (1 : Int)) (by kernel_rfl) k3 ?_
        refine awp_seq ?_
        refine awp_regionD Try_mixed (orcs := []) (gs := [.keep [3, 4, 22] [3, 4]]) (s' := ⟨[(3, .ptr 3 0), (4, .ptr 4 0), (22, pB (h_ == (2 : Int)))], [(3, .lit 63 [pI p_.x, pI p_.y]), (4, .lit 63 [pI 0, pI 0])]⟩) (by kernel_rfl) (holds_of ((UU ∧ UU ∧ UU) ∧ (UU ∧ UU)) (by kernel_rfl) ⟨⟨TT, TT, TT⟩, ⟨TT, TT⟩⟩) ?_
        refine Done.mk (thenQ_n ?_)
        refine ifB_el h (fun k5 h => ?_) (fun k5 h => ?_)
        · refine awp_cond_t (b := h_ == (2 : Int)) (by kernel_rfl) k5 ?_
          refine chk_el h (fun k6 h => ?_)
          refine awp_regionD Try_mixed (orcs := []) (gs := [.keep [3, 4] [3, 4]]) (s' := ⟨[(3, .ptr 3 0), (4, .ptr 4 0)], [(3, .lit 63 [pI (p_.x - 1), pI p_.y]), (4, .lit 63 [pI 0, pI 0])]⟩) (by kernel_rfl) (holds_of ((UU ∧ UU ∧ (InR .i64 (p_.x - 1 : Int)) ∧ UU ∧ UU ∧ UU) ∧ (UU ∧ UU)) (by kernel_rfl) ⟨⟨TT, TT, k6, TT, TT, TT⟩, ⟨TT, TT⟩⟩) ?_
          refine Done.mk (inB_n ?_)
          obtain rfl := Option.some.inj h
          exact ⟨rfl, by kernel_rfl⟩
        · refine awp_cond_f (b := h_ == (2 : Int)) (by kernel_rfl) k5 ?_
          refine chk_el h (fun k7 h => ?_)
          refine awp_regionD Try_mixed (orcs := []) (gs := [.keep [3, 4] [3, 4]]) (s' := ⟨[(3, .ptr 3 0), (4, .ptr 4 0)], [(3, .lit 63 [pI p_.x, pI (p_.y - 1)]), (4, .lit 63 [pI 0, pI 0])]⟩) (by kernel_rfl) (holds_of ((UU ∧ UU ∧ (InR .i64 (p_.y - 1 : Int)) ∧ UU ∧ UU ∧ UU) ∧ (UU ∧ UU)) (by kernel_rfl) ⟨⟨TT, TT, k7, TT, TT, TT⟩, ⟨TT, TT⟩⟩) ?_
          refine Done.mk (inB_n ?_)
          obtain rfl := Option.some.inj h
          exact ⟨rfl, by kernel_rfl⟩
  · obtain ⟨pX, pY⟩ := o
    refine Done.as (e := Exit.normal) (s := ⟨[(3, .ptr 3 0), (4, .ptr 4 0)], [(3, .lit 63 [pI pX, pI pY]), (4, .lit 63 [pI 0, pI 0])]⟩) rfl (by kernel_rfl) ?_
    refine Done.mk (thenQ_n ?_)
    refine awp_seq ?_
    refine awp_regionD Try_mixed (orcs := []) (gs := [.keep [4] [4]]) (s' := ⟨[(4, .ptr 4 0)], [(4, .lit 63 [pI pX, pI pY])]⟩) (by kernel_rfl) (holds_of ((UU ∧ UU ∧ UU) ∧ (UU ∧ UU)) (by kernel_rfl) ⟨⟨TT, TT, TT⟩, ⟨TT, TT⟩⟩) ?_
    refine Done.mk (thenQ_n ?_)
    refine doneRet ?_
    refine Done.mk ?_
    obtain rfl := Option.some.inj h
    exact ⟨Or.inr rfl, by kernel_rfl, by kernel_rfl⟩
end
end Go.AM
end
section
namespace Go.AM
open Go Go.RowKit Go.Proofs
noncomputable section
noncomputable def boundary_heading_left (h_ : Int) : Option Int :=
  chk (InR .i64 (h_ + 1 : Int))
  (some ((h_ + 1 : Int).tmod (4 : Int)))
set_option maxRecDepth 100000 in
set_option maxHeartbeats 4000000 in
theorem boundary_heading_left_ok {h_ : Int} {r : Int} (h : boundary_heading_left h_ = some r) : ASpec Try.prog 51 [pI h_] [] (pI r) [] := by
  refine aspec_of Try.func51 (c := _) rfl (by kernel_rfl) (by rw [Try.ntmps51]; exact Nat.le_of_ble_eq_true rfl) ?_
  refine awp_seq ?_
  refine awp_regionD Try_mixed (orcs := []) (gs := [.keep [0] []]) (s' := ⟨[(0, pI h_)], []⟩) (by kernel_rfl) (holds_of ((UU ∧ UU) ∧ (UU ∧ UU)) (by kernel_rfl) ⟨⟨TT, TT⟩, ⟨TT, TT⟩⟩) ?_
  refine Done.mk (thenQ_n ?_)
  refine awp_seq ?_
  refine chk_el h (fun k1 h => ?_)
  refine awp_regionD Try_mixed (orcs := []) (gs := [.keep [2] []]) (s' := ⟨[(2, pI ((h_ + 1 : Int).tmod (4 : Int)))], []⟩) (by kernel_rfl) (holds_of ((UU ∧ (InR .i64 (h_ + 1 : Int)) ∧ ((4 : Int) ≠ 0) ∧ UU ∧ UU) ∧ (UU ∧ UU)) (by kernel_rfl) ⟨⟨TT, k1, by decide, TT, TT⟩, ⟨TT, TT⟩⟩) ?_
  refine Done.mk (thenQ_n ?_)
  refine doneRet ?_
  refine Done.mk ?_
  obtain rfl := Option.some.inj h
  exact ⟨Or.inr rfl, by kernel_rfl, by kernel_rfl⟩
end
end Go.AM
end
section
namespace Go.AM
open Go Go.RowKit Go.Proofs
noncomputable section
noncomputable def boundary_heading_right (h_ : Int) : Option Int :=
  chk (InR .i64 (h_ + 3 : Int))
  (some ((h_ + 3 : Int).tmod (4 : Int)))
set_option maxRecDepth 100000 in
set_option maxHeartbeats 4000000 in
theorem boundary_heading_right_ok {h_ : Int} {r : Int} (h : boundary_heading_right h_ = some r) : ASpec Try.prog 52 [pI h_] [] (pI r) [] := by
  refine aspec_of Try.func52 (c := _) rfl (by kernel_rfl) (by rw [Try.ntmps52]; exact Nat.le_of_ble_eq_true rfl) ?_
  refine awp_seq ?_
  refine awp_regionD Try_mixed (orcs := []) (gs := [.keep [0] []]) (s' := ⟨[(0, pI h_)], []⟩) (by kernel_rfl) (holds_of ((UU ∧ UU) ∧ (UU ∧ UU)) (by kernel_rfl) ⟨⟨TT, TT⟩, ⟨TT, TT⟩⟩) ?_
  refine Done.mk (thenQ_n ?_)
  refine awp_seq ?_
  refine chk_el h (fun k1 h => ?_)
  refine awp_regionD Try_mixed (orcs := []) (gs := [.keep [2] []]) (s' := ⟨[(2, pI ((h_ + 3 : Int).tmod (4 : Int)))], []⟩) (by kernel_rfl) (holds_of ((UU ∧ (InR .i64 (h_ + 3 : Int)) ∧ ((4 : Int) ≠ 0) ∧ UU ∧ UU) ∧ (UU ∧ UU)) (by kernel_rfl) ⟨⟨TT, k1, by decide, TT, TT⟩, ⟨TT, TT⟩⟩) ?_
  refine Done.mk (thenQ_n ?_)
  refine doneRet ?_
  refine Done.mk ?_
  obtain rfl := Option.some.inj h
  exact ⟨Or.inr rfl, by kernel_rfl, by kernel_rfl⟩
end
end Go.AM
end
section
namespace Go.AM
open Go Go.RowKit Go.Proofs
noncomputable section
def slices_Index_l1 (s_ : (List Int)) (v : Int) (s : Int) : Option ((Int) ⊕ ((Unit) ⊕ (Int))) :=
  match s with
  | t8 =>
    ifB (decide (t8 < (s_.length : Int)))
    ((getI s_ t8).bind fun h_ =>
      ifB (v == h_)
      (some (.inr (.inr t8)))
      (chk (InR .i64 (t8 + 1 : Int))
        (some (.inl (t8 + 1)))))
    (some (.inr (.inl ())))
noncomputable def slices_Index (s_ : (List Int)) (v : Int) : Option Int :=
  (loopP (slices_Index_l1 s_ v) 0).bind fun o => match o with
  | .inl _ => some (-1)
  | .inr t4 => some t4
set_option maxRecDepth 100000 in
set_option maxHeartbeats 4000000 in
theorem slices_Index_ok {s_ : (List Int)} {v : Int} {r : Int} (h : slices_Index s_ v = some r) : ASpec Try.prog 73 [.p (encL iC s_), pI v] [] (pI r) [] := by
  refine aspec_of Try.func73 (c := _) rfl (by kernel_rfl) (by rw [Try.ntmps73]; exact Nat.le_of_ble_eq_true rfl) ?_
  refine awp_seq ?_
  refine awp_regionD Try_mixed (orcs := []) (gs := [.keep [0, 1] []]) (s' := ⟨[(0, .p (encL iC s_)), (1, pI v)], []⟩) (by kernel_rfl) (holds_of ((UU ∧ UU) ∧ (UU ∧ UU)) (by kernel_rfl) ⟨⟨TT, TT⟩, ⟨TT, TT⟩⟩) ?_
  refine Done.mk (thenQ_n ?_)
  refine awp_seq ?_
  refine awp_seq ?_
  refine awp_regionD Try_mixed (orcs := []) (gs := [.keep [0, 1, 7, 8] []]) (s' := ⟨[(0, .p (encL iC s_)), (1, pI v), (7, pI ((s_.length : Int))), (8, pI 0)], []⟩) (by kernel_rfl) (holds_of ((UU ∧ UU ∧ UU ∧ UU) ∧ (UU ∧ UU)) (by kernel_rfl) ⟨⟨TT, TT, TT, TT⟩, ⟨TT, TT⟩⟩) ?_
  refine Done.mk (thenQ_n ?_)
  refine awp_block ?_
  refine bind_el h (fun o hm h => ?_)
  refine awp_gh [.keep [0, 1, 7, 8] [], .keep [0, 1, 7, 8] []] (s' := ⟨[(0, .p (encL iC s_)), (1, pI v), (7, pI ((s_.length : Int))), (8, pI 0)], []⟩) (by kernel_rfl) (holds_of (UU ∧ UU ∧ UU) (by kernel_rfl) ⟨TT, TT, TT⟩) ?_
  refine awp_tail (fun o => match o with | .inl _ => (Exit.exit 0) | .inr _ => Exit.ret) (fun o => match o with | .inl _ => ⟨[], []⟩ | .inr t4 => ⟨[(4, pI t4)], []⟩) hm (fun o h => ?_) ?_
  · refine awp_loop' (fun s => match s with | t8 => ⟨[(0, .p (encL iC s_)), (1, pI v), (7, pI ((s_.length : Int))), (8, pI t8)], []⟩) h (by kernel_rfl) (fun t8 out h => ?_)
    refine awp_seq ?_
    refine awp_regionD Try_mixed (orcs := []) (gs := [.keep [0, 1, 7, 8, 9] []]) (s' := ⟨[(0, .p (encL iC s_)), (1, pI v), (7, pI ((s_.length : Int))), (8, pI t8), (9, pB (decide (t8 < (s_.length : Int))))], []⟩) (by kernel_rfl) (holds_of ((UU ∧ UU) ∧ (UU ∧ UU)) (by kernel_rfl) ⟨⟨TT, TT⟩, ⟨TT, TT⟩⟩) ?_
    refine Done.mk (thenQ_n ?_)
    refine awp_seq ?_
    refine ifB_el h (fun k1 h => ?_) (fun k1 h => ?_)
    · refine awp_cond_t (b := decide (t8 < (s_.length : Int))) (by kernel_rfl) k1 ?_
      refine doneSkip ?_
      refine Done.mk (thenQ_n ?_)
      refine awp_seq ?_
      refine awp_block ?_
      refine awp_seq ?_
      refine awp_regionD Try_mixed (orcs := []) (gs := [.keep [0, 1, 5, 7, 8] []]) (s' := ⟨[(0, .p (encL iC s_)), (1, pI v), (5, pI t8), (7, pI ((s_.length : Int))), (8, pI t8)], []⟩) (by kernel_rfl) (holds_of ((UU ∧ UU ∧ UU) ∧ (UU ∧ UU)) (by kernel_rfl) ⟨⟨TT, TT, TT⟩, ⟨TT, TT⟩⟩) ?_
      refine Done.mk (thenQ_n ?_)
      refine awp_seq ?_
      refine bind_el h (fun h_ k2 h => ?_)
      replace k2 := getI_el k2
      refine awp_regionD Try_mixed (orcs := [(4, tV (pI h_))]) (gs := [.keep [0, 1, 5, 7, 8, 16] []]) (s' := ⟨[(0, .p (encL iC s_)), (1, pI v), (5, pI t8), (7, pI ((s_.length : Int))), (8, pI t8), (16, pB (v == h_))], []⟩) (by kernel_rfl) (holds_of ((UU ∧ UU ∧ UU ∧ ((0 ≤ t8 ∧ t8 < (s_.length : Int))) ∧ ((s_.flatMap iC)[t8.toNat * 1]? = some (vI h_)) ∧ UU ∧ UU) ∧ (UU ∧ UU)) (by kernel_rfl) ⟨⟨TT, TT, TT, k2.2, row_at iC_len k2.1 (j := 0) (by omega) (by decide), TT, TT⟩, ⟨TT, TT⟩⟩) ?_
      refine Done.mk (thenQ_n ?_)
      refine ifB_el h (fun k3 h => ?_) (fun k3 h => ?_)
      · refine awp_cond_t (b := v == h_) (by kernel_rfl) k3 ?_
        refine awp_seq ?_
        refine awp_regionD Try_mixed (orcs := []) (gs := [.keep [4] []]) (s' := ⟨[(4, pI t8)], []⟩) (by kernel_rfl) (holds_of ((UU ∧ UU ∧ UU) ∧ (UU ∧ UU)) (by kernel_rfl) ⟨⟨TT, TT, TT⟩, ⟨TT, TT⟩⟩) ?_
        refine Done.mk (thenQ_n ?_)
        refine doneRet ?_
        refine Done.mk (inB_r (thenQ_r ?_))
        obtain rfl := Option.some.inj h
        exact ⟨fun q => (by cases q), fun q => (by subst q; exact ⟨rfl, by kernel_rfl⟩)⟩
      · refine awp_cond_f (b := v == h_) (by kernel_rfl) k3 ?_
        refine doneSkip ?_
        refine Done.mk (inB_n (thenQ_n ?_))
        refine chk_el h (fun k4 h => ?_)
        refine awp_regionD Try_mixed (orcs := []) (gs := [.keep [0, 1, 7, 8] []]) (s' := ⟨[(0, .p (encL iC s_)), (1, pI v), (7, pI ((s_.length : Int))), (8, pI (t8 + 1))], []⟩) (by kernel_rfl) (holds_of (((InR .i64 (t8 + 1 : Int)) ∧ UU ∧ UU) ∧ (UU ∧ UU)) (by kernel_rfl) ⟨⟨k4, TT, TT⟩, ⟨TT, TT⟩⟩) ?_
        refine Done.mk ?_
        obtain rfl := Option.some.inj h
        exact ⟨rfl, by kernel_rfl⟩
    · refine awp_cond_f (b := decide (t8 < (s_.length : Int))) (by kernel_rfl) k1 ?_
      refine doneExit ?_
      refine Done.gh [.keep [] [], .keep [] []] (s' := ⟨[], []⟩) (by kernel_rfl) (holds_of (UU ∧ UU ∧ UU) (by kernel_rfl) ⟨TT, TT, TT⟩) ?_
      refine Done.mk (thenQ_x ?_)
      obtain rfl := Option.some.inj h
      exact ⟨fun q => (by cases q), fun q => (by subst q; exact ⟨rfl, by kernel_rfl⟩)⟩
  · rcases o with _u | t4
    · refine Done.as (e := (Exit.exit 0)) (s := ⟨[], []⟩) rfl (by kernel_rfl) ?_
      refine Done.mk (inB_hit (thenQ_n ?_))
      refine awp_seq ?_
      refine awp_regionD Try_mixed (orcs := []) (gs := [.keep [4] []]) (s' := ⟨[(4, pI (-1))], []⟩) (by kernel_rfl) (holds_of ((UU ∧ UU) ∧ (UU ∧ UU)) (by kernel_rfl) ⟨⟨TT, TT⟩, ⟨TT, TT⟩⟩) ?_
      refine Done.mk (thenQ_n ?_)
      refine doneRet ?_
      refine Done.mk ?_
      obtain rfl := Option.some.inj h
      exact ⟨Or.inr rfl, by kernel_rfl, by kernel_rfl⟩
    · refine Done.as (e := Exit.ret) (s := ⟨[(4, pI t4)], []⟩) rfl (by kernel_rfl) ?_
      refine Done.mk (inB_r (thenQ_r ?_))
      obtain rfl := Option.some.inj h
      exact ⟨Or.inr rfl, by kernel_rfl, by kernel_rfl⟩
end
end Go.AM
end
section
namespace Go.AM
open Go Go.RowKit Go.Proofs
noncomputable section
noncomputable def slices_Contains (s_ : (List Int)) (v : Int) : Option Bool :=
  (slices_Index s_ v).bind fun n =>
  some (decide (n ≥ (0 : Int)))
set_option maxRecDepth 100000 in
set_option maxHeartbeats 4000000 in
theorem slices_Contains_ok {s_ : (List Int)} {v : Int} {r : Bool} (h : slices_Contains s_ v = some r) : ASpec Try.prog 53 [.p (encL iC s_), pI v] [] (pB r) [] := by
  refine aspec_of Try.func53 (c := _) rfl (by kernel_rfl) (by rw [Try.ntmps53]; exact Nat.le_of_ble_eq_true rfl) ?_
  refine awp_seq ?_
  refine awp_regionD Try_mixed (orcs := []) (gs := [.keep [0, 1] []]) (s' := ⟨[(0, .p (encL iC s_)), (1, pI v)], []⟩) (by kernel_rfl) (holds_of ((UU ∧ UU) ∧ (UU ∧ UU)) (by kernel_rfl) ⟨⟨TT, TT⟩, ⟨TT, TT⟩⟩) ?_
  refine Done.mk (thenQ_n ?_)
  refine awp_seq ?_
  refine bind_el h (fun n k1 h => ?_)
  refine awp_regionD Try_mixed (orcs := [(2, tV (pI n))]) (gs := [.keep [4] []]) (s' := ⟨[(4, pB (decide (n ≥ (0 : Int))))], []⟩) (by kernel_rfl) (holds_of ((UU ∧ UU ∧ (ASpec Try.prog 73 [.p (encL iC s_), pI v] [] (pI n) []) ∧ UU ∧ UU ∧ UU) ∧ (UU ∧ UU)) (by kernel_rfl) ⟨⟨TT, TT, slices_Index_ok k1, TT, TT, TT⟩, ⟨TT, TT⟩⟩) ?_
  refine Done.mk (thenQ_n ?_)
  refine doneRet ?_
  refine Done.mk ?_
  obtain rfl := Option.some.inj h
  exact ⟨Or.inr rfl, by kernel_rfl, by kernel_rfl⟩
end
end Go.AM
end
section
namespace Go.AM
open Go Go.RowKit Go.Proofs
noncomputable section
noncomputable def boundary_before (a : Pt) (b : Pt) : Option Int :=
  ifB (a.y != b.y)
  (chk (InR .i64 (a.y - b.y : Int))
    (some (a.y - b.y)))
  (chk (InR .i64 (a.x - b.x : Int))
    (some (a.x - b.x)))
set_option maxRecDepth 100000 in
set_option maxHeartbeats 4000000 in
theorem boundary_before_ok {a : Pt} {b : Pt} {r : Int} (h : boundary_before a b = some r) : ASpec Try.prog 27 [.agg [pI a.x, pI a.y], .agg [pI b.x, pI b.y]] [] (pI r) [] := by
  refine aspec_of Try.func27 (c := _) rfl (by kernel_rfl) (by rw [Try.ntmps27]; exact Nat.le_of_ble_eq_true rfl) ?_
  refine awp_seq ?_
  refine awp_regionD Try_mixed (orcs := []) (gs := [.keep [2, 3] [2, 3]]) (s' := ⟨[(2, .ptr 2 0), (3, .ptr 3 0)], [(2, .lit 63 [pI a.x, pI a.y]), (3, .lit 63 [pI b.x, pI b.y])]⟩) (by kernel_rfl) (holds_of ((UU ∧ UU ∧ UU ∧ UU) ∧ (UU ∧ UU)) (by kernel_rfl) ⟨⟨TT, TT, TT, TT⟩, ⟨TT, TT⟩⟩) ?_
  refine Done.mk (thenQ_n ?_)
  refine awp_seq ?_
  refine awp_seq ?_
  refine awp_regionD Try_mixed (orcs := []) (gs := [.keep [2, 3, 9] [2, 3]]) (s' := ⟨[(2, .ptr 2 0), (3, .ptr 3 0), (9, pB (a.y != b.y))], [(2, .lit 63 [pI a.x, pI a.y]), (3, .lit 63 [pI b.x, pI b.y])]⟩) (by kernel_rfl) (holds_of ((UU ∧ UU ∧ UU ∧ UU ∧ UU ∧ UU) ∧ (UU ∧ UU)) (by kernel_rfl) ⟨⟨TT, TT, TT, TT, TT, TT⟩, ⟨TT, TT⟩⟩) ?_
  refine Done.mk (thenQ_n ?_)
  refine ifB_el h (fun k1 h => ?_) (fun k1 h => ?_)
  · refine awp_cond_t (b := a.y != b.y) (by kernel_rfl) k1 ?_
    refine awp_seq ?_
    refine chk_el h (fun k2 h => ?_)
    refine awp_regionD Try_mixed (orcs := []) (gs := [.keep [4] []]) (s' := ⟨[(4, pI (a.y - b.y))], []⟩) (by kernel_rfl) (holds_of ((UU ∧ UU ∧ UU ∧ UU ∧ (InR .i64 (a.y - b.y : Int)) ∧ UU ∧ UU) ∧ (UU ∧ UU)) (by kernel_rfl) ⟨⟨TT, TT, TT, TT, k2, TT, TT⟩, ⟨TT, TT⟩⟩) ?_
    refine Done.mk (thenQ_n ?_)
    refine doneRet ?_
    refine Done.mk (thenQ_r ?_)
    obtain rfl := Option.some.inj h
    exact ⟨Or.inr rfl, by kernel_rfl, by kernel_rfl⟩
  · refine awp_cond_f (b := a.y != b.y) (by kernel_rfl) k1 ?_
    refine doneSkip ?_
    refine Done.mk (thenQ_n ?_)
    refine awp_seq ?_
    refine chk_el h (fun k3 h => ?_)
    refine awp_regionD Try_mixed (orcs := []) (gs := [.keep [4] []]) (s' := ⟨[(4, pI (a.x - b.x))], []⟩) (by kernel_rfl) (holds_of ((UU ∧ UU ∧ UU ∧ UU ∧ (InR .i64 (a.x - b.x : Int)) ∧ UU ∧ UU) ∧ (UU ∧ UU)) (by kernel_rfl) ⟨⟨TT, TT, TT, TT, k3, TT, TT⟩, ⟨TT, TT⟩⟩) ?_
    refine Done.mk (thenQ_n ?_)
    refine doneRet ?_
    refine Done.mk ?_
    obtain rfl := Option.some.inj h
    exact ⟨Or.inr rfl, by kernel_rfl, by kernel_rfl⟩
end
end Go.AM
end
section
namespace Go.AM
open Go Go.RowKit Go.Proofs
noncomputable section
def R23_Same_j1 (a : Track) (b : Track) : Option (Bool) :=
    ifB (a.role != b.role)
    (some true)
    (ifB (!(a.closed == b.closed))
      (some true)
      (some ((a.cells.length : Int) != (b.cells.length : Int))))
def R23_Same_l2 (a : Track) (b : Track) (s : Int) : Option ((Int) ⊕ ((Unit) ⊕ (Unit))) :=
  match s with
  | t30 =>
    ifB (decide (t30 < (a.cells.length : Int)))
    ((getI a.cells t30).bind fun c =>
      (getI b.cells t30).bind fun c1 =>
      ifB (!((c.x == c1.x) && ((c.y == c1.y) && true)))
      (some (.inr (.inr ())))
      (chk (InR .i64 (t30 + 1 : Int))
        (some (.inl (t30 + 1)))))
    (some (.inr (.inl ())))
noncomputable def R23_Same (a : Track) (b : Track) : Option Bool :=
  (R23_Same_j1 a b).bind fun t26 =>
  ifB (t26)
  (some false)
  ((loopP (R23_Same_l2 a b) 0).bind fun o => match o with
    | .inl _ => some true
    | .inr _ => some false)
set_option maxRecDepth 100000 in
set_option maxHeartbeats 4000000 in
theorem R23_Same_ok {a : Track} {b : Track} {r : Bool} (h : R23_Same a b = some r) : ASpec Try.prog 17 [.agg [pI a.role, pB a.closed, .p (encL Cell.cs a.cells)], .agg [pI b.role, pB b.closed, .p (encL Cell.cs b.cells)]] [] (pB r) [] := by
  refine aspec_of Try.func17 (c := _) rfl (by kernel_rfl) (by rw [Try.ntmps17]; exact Nat.le_of_ble_eq_true rfl) ?_
  refine awp_seq ?_
  refine awp_regionD Try_mixed (orcs := []) (gs := [.keep [2, 3] [2, 3]]) (s' := ⟨[(2, .ptr 2 0), (3, .ptr 3 0)], [(2, .lit 35 [pI a.role, pB a.closed, .p (encL Cell.cs a.cells)]), (3, .lit 35 [pI b.role, pB b.closed, .p (encL Cell.cs b.cells)])]⟩) (by kernel_rfl) (holds_of ((UU ∧ UU ∧ UU ∧ UU) ∧ (UU ∧ UU)) (by kernel_rfl) ⟨⟨TT, TT, TT, TT⟩, ⟨TT, TT⟩⟩) ?_
  refine Done.mk (thenQ_n ?_)
  refine awp_seq ?_
  refine awp_seq ?_
  refine bind_el h (fun t26 hm h => ?_)
  refine awp_tail (fun _ => Exit.normal) (fun o => match o with | t26 => ⟨[(2, .ptr 2 0), (3, .ptr 3 0), (26, pB t26)], [(2, .lit 35 [pI a.role, pB a.closed, .p (encL Cell.cs a.cells)]), (3, .lit 35 [pI b.role, pB b.closed, .p (encL Cell.cs b.cells)])]⟩) hm (fun o h => ?_) ?_
  · refine ifB_el h (fun k1 h => ?_) (fun k1 h => ?_)
    · refine awp_regionD Try_mixed (orcs := [(5, tB true)]) (gs := [.keep [2, 3, 26] [2, 3]]) (s' := ⟨[(2, .ptr 2 0), (3, .ptr 3 0), (26, pB true)], [(2, .lit 35 [pI a.role, pB a.closed, .p (encL Cell.cs a.cells)]), (3, .lit 35 [pI b.role, pB b.closed, .p (encL Cell.cs b.cells)])]⟩) (by kernel_rfl) (holds_of ((UU ∧ UU ∧ UU ∧ UU ∧ UU ∧ ((UU ∧ some (pB (a.role != b.role)) = some (pB true))) ∧ UU ∧ UU ∧ UU ∧ UU) ∧ (UU ∧ UU)) (by kernel_rfl) ⟨⟨TT, TT, TT, TT, TT, ⟨TT, by rw [k1]⟩, TT, TT, TT, TT⟩, ⟨TT, TT⟩⟩) ?_
      refine Done.mk ?_
      obtain rfl := Option.some.inj h
      exact ⟨rfl, by kernel_rfl⟩
    · refine ifB_el h (fun k2 h => ?_) (fun k2 h => ?_)
      · refine awp_regionD Try_mixed (orcs := [(5, tB false), (12, tB true)]) (gs := [.keep [2, 3, 26] [2, 3]]) (s' := ⟨[(2, .ptr 2 0), (3, .ptr 3 0), (26, pB true)], [(2, .lit 35 [pI a.role, pB a.closed, .p (encL Cell.cs a.cells)]), (3, .lit 35 [pI b.role, pB b.closed, .p (encL Cell.cs b.cells)])]⟩) (by kernel_rfl) (holds_of ((UU ∧ UU ∧ UU ∧ UU ∧ UU ∧ ((UU ∧ some (pB (a.role != b.role)) = some (pB false))) ∧ UU ∧ UU ∧ UU ∧ UU ∧ UU ∧ UU ∧ ((UU ∧ some (pB (!(a.closed == b.closed))) = some (pB true))) ∧ UU ∧ UU) ∧ (UU ∧ UU)) (by kernel_rfl) ⟨⟨TT, TT, TT, TT, TT, ⟨TT, by rw [k1]⟩, TT, TT, TT, TT, TT, TT, ⟨TT, by rw [k2]⟩, TT, TT⟩, ⟨TT, TT⟩⟩) ?_
        refine Done.mk ?_
        obtain rfl := Option.some.inj h
        exact ⟨rfl, by kernel_rfl⟩
      · refine awp_regionD Try_mixed (orcs := [(5, tB false), (12, tB false)]) (gs := [.keep [2, 3, 26] [2, 3]]) (s' := ⟨[(2, .ptr 2 0), (3, .ptr 3 0), (26, pB ((a.cells.length : Int) != (b.cells.length : Int)))], [(2, .lit 35 [pI a.role, pB a.closed, .p (encL Cell.cs a.cells)]), (3, .lit 35 [pI b.role, pB b.closed, .p (encL Cell.cs b.cells)])]⟩) (by kernel_rfl) (holds_of ((UU ∧ UU ∧ UU ∧ UU ∧ UU ∧ ((UU ∧ some (pB (a.role != b.role)) = some (pB false))) ∧ UU ∧ UU ∧ UU ∧ UU ∧ UU ∧ UU ∧ ((UU ∧ some (pB (!(a.closed == b.closed))) = some (pB false))) ∧ UU ∧ UU ∧ UU ∧ UU ∧ UU ∧ UU ∧ UU ∧ UU ∧ UU) ∧ (UU ∧ UU)) (by kernel_rfl) ⟨⟨TT, TT, TT, TT, TT, ⟨TT, by rw [k1]⟩, TT, TT, TT, TT, TT, TT, ⟨TT, by rw [k2]⟩, TT, TT, TT, TT, TT, TT, TT, TT, TT⟩, ⟨TT, TT⟩⟩) ?_
        refine Done.mk ?_
        obtain rfl := Option.some.inj h
        exact ⟨rfl, by kernel_rfl⟩
  · have _ := hm
    refine Done.as (e := Exit.normal) (s := ⟨[(2, .ptr 2 0), (3, .ptr 3 0), (26, pB t26)], [(2, .lit 35 [pI a.role, pB a.closed, .p (encL Cell.cs a.cells)]), (3, .lit 35 [pI b.role, pB b.closed, .p (encL Cell.cs b.cells)])]⟩) rfl (by kernel_rfl) ?_
    refine Done.mk (thenQ_n ?_)
    refine ifB_el h (fun k3 h => ?_) (fun k3 h => ?_)
    · refine awp_cond_t (b := t26) (by kernel_rfl) k3 ?_
      refine awp_seq ?_
      refine awp_regionD Try_mixed (orcs := []) (gs := [.keep [4] []]) (s' := ⟨[(4, pB false)], []⟩) (by kernel_rfl) (holds_of ((UU ∧ UU) ∧ (UU ∧ UU)) (by kernel_rfl) ⟨⟨TT, TT⟩, ⟨TT, TT⟩⟩) ?_
      refine Done.mk (thenQ_n ?_)
      refine doneRet ?_
      refine Done.mk (thenQ_r ?_)
      obtain rfl := Option.some.inj h
      exact ⟨Or.inr rfl, by kernel_rfl, by kernel_rfl⟩
    · refine awp_cond_f (b := t26) (by kernel_rfl) k3 ?_
      refine doneSkip ?_
      refine Done.mk (thenQ_n ?_)
      refine awp_seq ?_
      refine awp_seq ?_
      refine awp_regionD Try_mixed (orcs := []) (gs := [.keep [2, 3, 29, 30] [2, 3]]) (s' := ⟨[(2, .ptr 2 0), (3, .ptr 3 0), (29, pI ((a.cells.length : Int))), (30, pI 0)], [(2, .lit 35 [pI a.role, pB a.closed, .p (encL Cell.cs a.cells)]), (3, .lit 35 [pI b.role, pB b.closed, .p (encL Cell.cs b.cells)])]⟩) (by kernel_rfl) (holds_of ((UU ∧ UU ∧ UU ∧ UU ∧ UU) ∧ (UU ∧ UU)) (by kernel_rfl) ⟨⟨TT, TT, TT, TT, TT⟩, ⟨TT, TT⟩⟩) ?_
      refine Done.mk (thenQ_n ?_)
      refine awp_block ?_
      refine bind_el h (fun o hm h => ?_)
      refine awp_gh [.keep [2, 3, 29, 30] [2, 3], .keep [2, 3, 29, 30] [2, 3]] (s' := ⟨[(2, .ptr 2 0), (3, .ptr 3 0), (29, pI ((a.cells.length : Int))), (30, pI 0)], [(2, .lit 35 [pI a.role, pB a.closed, .p (encL Cell.cs a.cells)]), (3, .lit 35 [pI b.role, pB b.closed, .p (encL Cell.cs b.cells)])]⟩) (by kernel_rfl) (holds_of (UU ∧ UU ∧ UU) (by kernel_rfl) ⟨TT, TT, TT⟩) ?_
      refine awp_tail (fun o => match o with | .inl _ => (Exit.exit 0) | .inr _ => Exit.ret) (fun o => match o with | .inl _ => ⟨[], []⟩ | .inr _ => ⟨[(4, pB false)], []⟩) hm (fun o h => ?_) ?_
      · refine awp_loop' (fun s => match s with | t30 => ⟨[(2, .ptr 2 0), (3, .ptr 3 0), (29, pI ((a.cells.length : Int))), (30, pI t30)], [(2, .lit 35 [pI a.role, pB a.closed, .p (encL Cell.cs a.cells)]), (3, .lit 35 [pI b.role, pB b.closed, .p (encL Cell.cs b.cells)])]⟩) h (by kernel_rfl) (fun t30 out h => ?_)
        refine awp_seq ?_
        refine awp_regionD Try_mixed (orcs := []) (gs := [.keep [2, 3, 29, 30, 31] [2, 3]]) (s' := ⟨[(2, .ptr 2 0), (3, .ptr 3 0), (29, pI ((a.cells.length : Int))), (30, pI t30), (31, pB (decide (t30 < (a.cells.length : Int))))], [(2, .lit 35 [pI a.role, pB a.closed, .p (encL Cell.cs a.cells)]), (3, .lit 35 [pI b.role, pB b.closed, .p (encL Cell.cs b.cells)])]⟩) (by kernel_rfl) (holds_of ((UU ∧ UU) ∧ (UU ∧ UU)) (by kernel_rfl) ⟨⟨TT, TT⟩, ⟨TT, TT⟩⟩) ?_
        refine Done.mk (thenQ_n ?_)
        refine awp_seq ?_
        refine ifB_el h (fun k4 h => ?_) (fun k4 h => ?_)
        · refine awp_cond_t (b := decide (t30 < (a.cells.length : Int))) (by kernel_rfl) k4 ?_
          refine doneSkip ?_
          refine Done.mk (thenQ_n ?_)
          refine awp_seq ?_
          refine awp_block ?_
          refine awp_seq ?_
          refine awp_regionD Try_mixed (orcs := []) (gs := [.keep [2, 3, 5, 29, 30] [2, 3]]) (s' := ⟨[(2, .ptr 2 0), (3, .ptr 3 0), (5, pI t30), (29, pI ((a.cells.length : Int))), (30, pI t30)], [(2, .lit 35 [pI a.role, pB a.closed, .p (encL Cell.cs a.cells)]), (3, .lit 35 [pI b.role, pB b.closed, .p (encL Cell.cs b.cells)])]⟩) (by kernel_rfl) (holds_of ((UU ∧ UU ∧ UU) ∧ (UU ∧ UU)) (by kernel_rfl) ⟨⟨TT, TT, TT⟩, ⟨TT, TT⟩⟩) ?_
          refine Done.mk (thenQ_n ?_)
          refine awp_seq ?_
          refine bind_el h (fun c k5 h => ?_)
          replace k5 := getI_el k5
          refine bind_el h (fun c1 k6 h => ?_)
          replace k6 := getI_el k6
          refine awp_regionD Try_mixed (orcs := [(4, tV (.agg [pI c.x, pI c.y])), (9, tV (.agg [pI c1.x, pI c1.y]))]) (gs := [.keep [2, 3, 29, 30, 43] [2, 3]]) (s' := ⟨[(2, .ptr 2 0), (3, .ptr 3 0), (29, pI ((a.cells.length : Int))), (30, pI t30), (43, pB (!((c.x == c1.x) && ((c.y == c1.y) && true))))], [(2, .lit 35 [pI a.role, pB a.closed, .p (encL Cell.cs a.cells)]), (3, .lit 35 [pI b.role, pB b.closed, .p (encL Cell.cs b.cells)])]⟩) (by kernel_rfl) (holds_of ((UU ∧ UU ∧ UU ∧ ((0 ≤ t30 ∧ t30 < (a.cells.length : Int))) ∧ (rowHas (a.cells.flatMap Cell.cs) (t30.toNat * 2) [pI c.x, pI c.y]) ∧ UU ∧ UU ∧ UU ∧ ((0 ≤ t30 ∧ t30 < (b.cells.length : Int))) ∧ (rowHas (b.cells.flatMap Cell.cs) (t30.toNat * 2) [pI c1.x, pI c1.y]) ∧ UU ∧ UU) ∧ (UU ∧ UU)) (by kernel_rfl) ⟨⟨TT, TT, TT, k5.2, row_has Cell.cs_len k5.1 (o := 0) (m := 2) (by omega) (by decide), TT, TT, TT, k6.2, row_has Cell.cs_len k6.1 (o := 0) (m := 2) (by omega) (by decide), TT, TT⟩, ⟨TT, TT⟩⟩) ?_
          refine Done.mk (thenQ_n ?_)
          refine ifB_el h (fun k7 h => ?_) (fun k7 h => ?_)
          · refine awp_cond_t (b := !((c.x == c1.x) && ((c.y == c1.y) && true))) (by kernel_rfl) k7 ?_
            refine awp_seq ?_
            refine awp_regionD Try_mixed (orcs := []) (gs := [.keep [4] []]) (s' := ⟨[(4, pB false)], []⟩) (by kernel_rfl) (holds_of ((UU ∧ UU) ∧ (UU ∧ UU)) (by kernel_rfl) ⟨⟨TT, TT⟩, ⟨TT, TT⟩⟩) ?_
            refine Done.mk (thenQ_n ?_)
            refine doneRet ?_
            refine Done.mk (inB_r (thenQ_r ?_))
            obtain rfl := Option.some.inj h
            exact ⟨fun q => (by cases q), fun q => (by subst q; exact ⟨rfl, by kernel_rfl⟩)⟩
          · refine awp_cond_f (b := !((c.x == c1.x) && ((c.y == c1.y) && true))) (by kernel_rfl) k7 ?_
            refine doneSkip ?_
            refine Done.mk (inB_n (thenQ_n ?_))
            refine chk_el h (fun k8 h => ?_)
            refine awp_regionD Try_mixed (orcs := []) (gs := [.keep [2, 3, 29, 30] [2, 3]]) (s' := ⟨[(2, .ptr 2 0), (3, .ptr 3 0), (29, pI ((a.cells.length : Int))), (30, pI (t30 + 1))], [(2, .lit 35 [pI a.role, pB a.closed, .p (encL Cell.cs a.cells)]), (3, .lit 35 [pI b.role, pB b.closed, .p (encL Cell.cs b.cells)])]⟩) (by kernel_rfl) (holds_of (((InR .i64 (t30 + 1 : Int)) ∧ UU ∧ UU) ∧ (UU ∧ UU)) (by kernel_rfl) ⟨⟨k8, TT, TT⟩, ⟨TT, TT⟩⟩) ?_
            refine Done.mk ?_
            obtain rfl := Option.some.inj h
            exact ⟨rfl, by kernel_rfl⟩
        · refine awp_cond_f (b := decide (t30 < (a.cells.length : Int))) (by kernel_rfl) k4 ?_
          refine doneExit ?_
          refine Done.gh [.keep [] [], .keep [] []] (s' := ⟨[], []⟩) (by kernel_rfl) (holds_of (UU ∧ UU ∧ UU) (by kernel_rfl) ⟨TT, TT, TT⟩) ?_
          refine Done.mk (thenQ_x ?_)
          obtain rfl := Option.some.inj h
          exact ⟨fun q => (by cases q), fun q => (by subst q; exact ⟨rfl, by kernel_rfl⟩)⟩
      · rcases o with _u | _u
        · refine Done.as (e := (Exit.exit 0)) (s := ⟨[], []⟩) rfl (by kernel_rfl) ?_
          refine Done.mk (inB_hit (thenQ_n ?_))
          refine awp_seq ?_
          refine awp_regionD Try_mixed (orcs := []) (gs := [.keep [4] []]) (s' := ⟨[(4, pB true)], []⟩) (by kernel_rfl) (holds_of ((UU ∧ UU) ∧ (UU ∧ UU)) (by kernel_rfl) ⟨⟨TT, TT⟩, ⟨TT, TT⟩⟩) ?_
          refine Done.mk (thenQ_n ?_)
          refine doneRet ?_
          refine Done.mk ?_
          obtain rfl := Option.some.inj h
          exact ⟨Or.inr rfl, by kernel_rfl, by kernel_rfl⟩
        · refine Done.as (e := Exit.ret) (s := ⟨[(4, pB false)], []⟩) rfl (by kernel_rfl) ?_
          refine Done.mk (inB_r (thenQ_r ?_))
          obtain rfl := Option.some.inj h
          exact ⟨Or.inr rfl, by kernel_rfl, by kernel_rfl⟩
end
end Go.AM
end
