/- The types of this seat's arguments, read; and the rows' frame. -/
import Derived.Test.YtijdlphadhpabaaRows
import Derived.Test.YtijdlphadhpabaaA7
import Derived.Test.YtijdlphadhpabaaProg
section
namespace Go.AM
open Go Go.RowKit Go.Proofs Go.Proofs.Ytijdlphadhpabaa
theorem rdRun : Rds Try.prog 57 Run.cs := (rds_struct2 Try.underlying57 (rds_int Try.underlying3) (rds_int Try.underlying3) (k0 := 1) (k1 := 1) (fun _ => rfl) (fun _ => rfl) rfl rfl (by kernel_rfl) (by kernel_rfl) (by kernel_rfl)).map (fun x => Run.mk x.1 x.2) (fun _ => rfl)
theorem rdRuns : Rds Try.prog 46 (fun l : List Run => [encL Run.cs l]) := rds_slice Try.underlying46 rdRun Run.cs_len (by kernel_rfl) (by decide)
theorem rdRow : Rds Try.prog 48 Row.cs := (rds_struct2 Try.underlying48 (rds_int Try.underlying3) rdRuns (k0 := 1) (k1 := 1) (fun _ => rfl) (fun _ => rfl) rfl rfl (by kernel_rfl) (by kernel_rfl) (by kernel_rfl)).map (fun x => Row.mk x.1 x.2) (fun _ => rfl)
theorem rdRows : Rds Try.prog 22 (fun l : List Row => [encL Row.cs l]) := rds_slice Try.underlying22 rdRow Row.cs_len (by kernel_rfl) (by decide)
theorem rdRegion : Rds Try.prog 24 Region.cs := (rds_struct1 Try.underlying24 rdRows (k0 := 1) (fun _ => rfl) rfl (by kernel_rfl) (by kernel_rfl)).map (fun x => Region.mk x) (fun _ => rfl)
theorem rdInt : Rds Try.prog 3 (fun n : Int => [vI n]) := rds_int Try.underlying3
theorem Try_own : ownKnob Try.prog.godebug = none := by kernel_rfl
theorem Try_laid : laidOutB Try.prog = true := by kernel_rfl
end Go.AM
end
section
namespace Go.AM
open Go Go.Proofs
theorem Try_mixed : Try.prog.follows .mixedOrders = true := by kernel_rfl
end Go.AM
end
section
namespace Go.AM
open Go Go.RowKit Go.Proofs
noncomputable section
def runs_fits_j1 (r_ : Run) : Option (Bool) :=
    ifB (decide (r_.frm ≥ (-1048576 : Int)))
    (ifB (decide (r_.frm ≤ (1048576 : Int)))
      (ifB (decide (r_.to ≥ (-1048576 : Int)))
        (some (decide (r_.to ≤ (1048576 : Int))))
        (some false))
      (some false))
    (some false)
noncomputable def runs_fits (r_ : Run) : Option Bool :=
  (runs_fits_j1 r_).bind fun t2 =>
  some t2
set_option maxRecDepth 100000 in
set_option maxHeartbeats 4000000 in
theorem runs_fits_ok {r_ : Run} {r : Bool} (h : runs_fits r_ = some r) : ASpec Try.prog 60 [.agg [pI r_.frm, pI r_.to]] [] (pB r) [] := by
  refine aspec_of Try.func60 (c := _) rfl (by kernel_rfl) (by rw [Try.ntmps60]; exact Nat.le_of_ble_eq_true rfl) ?_
  refine awp_seq ?_
  refine awp_regionD Try_mixed (orcs := []) (gs := [.keep [1] [1]]) (s' := ⟨[(1, .ptr 1 0)], [(1, .lit 57 [pI r_.frm, pI r_.to])]⟩) (by kernel_rfl) (holds_of ((UU ∧ UU ∧ UU) ∧ (UU ∧ UU)) (by kernel_rfl) ⟨⟨TT, TT, TT⟩, ⟨TT, TT⟩⟩) ?_
  refine Done.mk (thenQ_n ?_)
  refine awp_seq ?_
  refine bind_el h (fun t2 hm h => ?_)
  refine awp_tail (fun _ => Exit.normal) (fun o => match o with | t2 => ⟨[(2, pB t2)], []⟩) hm (fun o h => ?_) ?_
  · refine ifB_el h (fun k1 h => ?_) (fun k1 h => ?_)
    · refine ifB_el h (fun k2 h => ?_) (fun k2 h => ?_)
      · refine ifB_el h (fun k3 h => ?_) (fun k3 h => ?_)
        · refine awp_regionD Try_mixed (orcs := [(3, tB true), (8, tB true), (13, tB true)]) (gs := [.keep [2] []]) (s' := ⟨[(2, pB (decide (r_.to ≤ (1048576 : Int))))], []⟩) (by kernel_rfl) (holds_of ((UU ∧ UU ∧ UU ∧ ((UU ∧ some (pB (decide (r_.frm ≥ (-1048576 : Int)))) = some (pB true))) ∧ UU ∧ UU ∧ UU ∧ UU ∧ ((UU ∧ some (pB (decide (r_.frm ≤ (1048576 : Int)))) = some (pB true))) ∧ UU ∧ UU ∧ UU ∧ UU ∧ ((UU ∧ some (pB (decide (r_.to ≥ (-1048576 : Int)))) = some (pB true))) ∧ UU ∧ UU ∧ UU ∧ UU ∧ UU ∧ UU) ∧ (UU ∧ UU)) (by kernel_rfl) ⟨⟨TT, TT, TT, ⟨TT, by rw [k1]⟩, TT, TT, TT, TT, ⟨TT, by rw [k2]⟩, TT, TT, TT, TT, ⟨TT, by rw [k3]⟩, TT, TT, TT, TT, TT, TT⟩, ⟨TT, TT⟩⟩) ?_
          refine Done.mk ?_
          obtain rfl := Option.some.inj h
          exact ⟨rfl, by kernel_rfl⟩
        · refine awp_regionD Try_mixed (orcs := [(3, tB true), (8, tB true), (13, tB false)]) (gs := [.keep [2] []]) (s' := ⟨[(2, pB false)], []⟩) (by kernel_rfl) (holds_of ((UU ∧ UU ∧ UU ∧ ((UU ∧ some (pB (decide (r_.frm ≥ (-1048576 : Int)))) = some (pB true))) ∧ UU ∧ UU ∧ UU ∧ UU ∧ ((UU ∧ some (pB (decide (r_.frm ≤ (1048576 : Int)))) = some (pB true))) ∧ UU ∧ UU ∧ UU ∧ UU ∧ ((UU ∧ some (pB (decide (r_.to ≥ (-1048576 : Int)))) = some (pB false))) ∧ UU ∧ UU ∧ UU) ∧ (UU ∧ UU)) (by kernel_rfl) ⟨⟨TT, TT, TT, ⟨TT, by rw [k1]⟩, TT, TT, TT, TT, ⟨TT, by rw [k2]⟩, TT, TT, TT, TT, ⟨TT, by rw [k3]⟩, TT, TT, TT⟩, ⟨TT, TT⟩⟩) ?_
          refine Done.mk ?_
          obtain rfl := Option.some.inj h
          exact ⟨rfl, by kernel_rfl⟩
      · refine awp_regionD Try_mixed (orcs := [(3, tB true), (8, tB false)]) (gs := [.keep [2] []]) (s' := ⟨[(2, pB false)], []⟩) (by kernel_rfl) (holds_of ((UU ∧ UU ∧ UU ∧ ((UU ∧ some (pB (decide (r_.frm ≥ (-1048576 : Int)))) = some (pB true))) ∧ UU ∧ UU ∧ UU ∧ UU ∧ ((UU ∧ some (pB (decide (r_.frm ≤ (1048576 : Int)))) = some (pB false))) ∧ UU ∧ UU ∧ UU ∧ UU ∧ UU) ∧ (UU ∧ UU)) (by kernel_rfl) ⟨⟨TT, TT, TT, ⟨TT, by rw [k1]⟩, TT, TT, TT, TT, ⟨TT, by rw [k2]⟩, TT, TT, TT, TT, TT⟩, ⟨TT, TT⟩⟩) ?_
        refine Done.mk ?_
        obtain rfl := Option.some.inj h
        exact ⟨rfl, by kernel_rfl⟩
    · refine awp_regionD Try_mixed (orcs := [(3, tB false)]) (gs := [.keep [2] []]) (s' := ⟨[(2, pB false)], []⟩) (by kernel_rfl) (holds_of ((UU ∧ UU ∧ UU ∧ ((UU ∧ some (pB (decide (r_.frm ≥ (-1048576 : Int)))) = some (pB false))) ∧ UU ∧ UU ∧ UU ∧ UU ∧ UU ∧ UU ∧ UU) ∧ (UU ∧ UU)) (by kernel_rfl) ⟨⟨TT, TT, TT, ⟨TT, by rw [k1]⟩, TT, TT, TT, TT, TT, TT, TT⟩, ⟨TT, TT⟩⟩) ?_
      refine Done.mk ?_
      obtain rfl := Option.some.inj h
      exact ⟨rfl, by kernel_rfl⟩
  · have _ := hm
    refine Done.as (e := Exit.normal) (s := ⟨[(2, pB t2)], []⟩) rfl (by kernel_rfl) ?_
    refine Done.mk (thenQ_n ?_)
    refine doneRet ?_
    refine Done.mk ?_
    obtain rfl := Option.some.inj h
    exact ⟨Or.inr rfl, by kernel_rfl, by kernel_rfl⟩
end
end Go.AM
end
section
namespace Go.AM
open Go Go.RowKit Go.Proofs
noncomputable section
def runs_Valid_j1 (r_ : Run) (t7 : Int) (l : (List Run)) : Option (Bool) :=
    ifB (decide (r_.frm ≥ r_.to))
    (some true)
    ((runs_fits r_).bind fun b =>
      ifB (!b)
      (some true)
      (ifB (decide (t7 > (0 : Int)))
        (chk (InR .i64 (t7 - 1 : Int))
          ((getI l (t7 - 1 : Int)).bind fun r_1 =>
          some (decide (r_.frm ≤ r_1.to))))
        (some false)))
def runs_Valid_l2 (l : (List Run)) (s : Int) : Option ((Int) ⊕ ((Unit) ⊕ (Unit))) :=
  match s with
  | t7 =>
    ifB (decide (t7 < (l.length : Int)))
    ((getI l t7).bind fun r_ =>
      (runs_Valid_j1 r_ t7 l).bind fun t36 =>
      ifB (t36)
      (some (.inr (.inr ())))
      (chk (InR .i64 (t7 + 1 : Int))
        (some (.inl (t7 + 1)))))
    (some (.inr (.inl ())))
noncomputable def runs_Valid (l : (List Run)) : Option Bool :=
  (loopP (runs_Valid_l2 l) 0).bind fun o => match o with
  | .inl _ => some true
  | .inr _ => some false
set_option maxRecDepth 100000 in
set_option maxHeartbeats 4000000 in
theorem runs_Valid_ok {l : (List Run)} {r : Bool} (h : runs_Valid l = some r) : ASpec Try.prog 43 [.p (encL Run.cs l)] [] (pB r) [] := by
  refine aspec_of Try.func43 (c := _) rfl (by kernel_rfl) (by rw [Try.ntmps43]; exact Nat.le_of_ble_eq_true rfl) ?_
  refine awp_seq ?_
  refine awp_regionD Try_mixed (orcs := []) (gs := [.keep [0] []]) (s' := ⟨[(0, .p (encL Run.cs l))], []⟩) (by kernel_rfl) (holds_of ((UU ∧ UU) ∧ (UU ∧ UU)) (by kernel_rfl) ⟨⟨TT, TT⟩, ⟨TT, TT⟩⟩) ?_
  refine Done.mk (thenQ_n ?_)
  refine awp_seq ?_
  refine awp_seq ?_
  refine awp_regionD Try_mixed (orcs := []) (gs := [.keep [0, 5, 6, 7] []]) (s' := ⟨[(0, .p (encL Run.cs l)), (5, .p (encL Run.cs l)), (6, pI ((l.length : Int))), (7, pI 0)], []⟩) (by kernel_rfl) (holds_of ((UU ∧ UU ∧ UU ∧ UU) ∧ (UU ∧ UU)) (by kernel_rfl) ⟨⟨TT, TT, TT, TT⟩, ⟨TT, TT⟩⟩) ?_
  refine Done.mk (thenQ_n ?_)
  refine awp_block ?_
  refine bind_el h (fun o hm h => ?_)
  refine awp_gh [.keep [0, 5, 6, 7] [], .keep [0, 5, 6, 7] []] (s' := ⟨[(0, .p (encL Run.cs l)), (5, .p (encL Run.cs l)), (6, pI ((l.length : Int))), (7, pI 0)], []⟩) (by kernel_rfl) (holds_of (UU ∧ UU ∧ UU) (by kernel_rfl) ⟨TT, TT, TT⟩) ?_
  refine awp_tail (fun o => match o with | .inl _ => (Exit.exit 0) | .inr _ => Exit.ret) (fun o => match o with | .inl _ => ⟨[], []⟩ | .inr _ => ⟨[(2, pB false)], []⟩) hm (fun o h => ?_) ?_
  · refine awp_loop' (fun s => match s with | t7 => ⟨[(0, .p (encL Run.cs l)), (5, .p (encL Run.cs l)), (6, pI ((l.length : Int))), (7, pI t7)], []⟩) h (by kernel_rfl) (fun t7 out h => ?_)
    refine awp_seq ?_
    refine awp_regionD Try_mixed (orcs := []) (gs := [.keep [0, 5, 6, 7, 8] []]) (s' := ⟨[(0, .p (encL Run.cs l)), (5, .p (encL Run.cs l)), (6, pI ((l.length : Int))), (7, pI t7), (8, pB (decide (t7 < (l.length : Int))))], []⟩) (by kernel_rfl) (holds_of ((UU ∧ UU) ∧ (UU ∧ UU)) (by kernel_rfl) ⟨⟨TT, TT⟩, ⟨TT, TT⟩⟩) ?_
    refine Done.mk (thenQ_n ?_)
    refine awp_seq ?_
    refine ifB_el h (fun k1 h => ?_) (fun k1 h => ?_)
    · refine awp_cond_t (b := decide (t7 < (l.length : Int))) (by kernel_rfl) k1 ?_
      refine doneSkip ?_
      refine Done.mk (thenQ_n ?_)
      refine awp_seq ?_
      refine awp_block ?_
      refine awp_seq ?_
      refine bind_el h (fun r_ k2 h => ?_)
      replace k2 := getI_el k2
      refine awp_regionD Try_mixed (orcs := [(2, tV (.agg [pI r_.frm, pI r_.to]))]) (gs := [.keep [0, 3, 4, 5, 6, 7] [4]]) (s' := ⟨[(0, .p (encL Run.cs l)), (3, pI t7), (4, .ptr 4 0), (5, .p (encL Run.cs l)), (6, pI ((l.length : Int))), (7, pI t7)], [(4, .lit 57 [pI r_.frm, pI r_.to])]⟩) (by kernel_rfl) (holds_of ((UU ∧ ((0 ≤ t7 ∧ t7 < (l.length : Int))) ∧ (rowHas (l.flatMap Run.cs) (t7.toNat * 2) [pI r_.frm, pI r_.to]) ∧ UU ∧ UU ∧ UU ∧ UU) ∧ (UU ∧ UU)) (by kernel_rfl) ⟨⟨TT, k2.2, row_has Run.cs_len k2.1 (o := 0) (m := 2) (by omega) (by decide), TT, TT, TT, TT⟩, ⟨TT, TT⟩⟩) ?_
      refine Done.mk (thenQ_n ?_)
      refine awp_seq ?_
      refine bind_el h (fun t36 hm h => ?_)
      refine awp_tail (fun _ => Exit.normal) (fun o => match o with | t36 => ⟨[(0, .p (encL Run.cs l)), (5, .p (encL Run.cs l)), (6, pI ((l.length : Int))), (7, pI t7), (36, pB t36)], []⟩) hm (fun o h => ?_) ?_
      · refine ifB_el h (fun k3 h => ?_) (fun k3 h => ?_)
        · refine awp_regionD Try_mixed (orcs := [(5, tB true)]) (gs := [.keep [0, 5, 6, 7, 36] []]) (s' := ⟨[(0, .p (encL Run.cs l)), (5, .p (encL Run.cs l)), (6, pI ((l.length : Int))), (7, pI t7), (36, pB true)], []⟩) (by kernel_rfl) (holds_of ((UU ∧ UU ∧ UU ∧ UU ∧ UU ∧ ((UU ∧ some (pB (decide (r_.frm ≥ r_.to))) = some (pB true))) ∧ UU ∧ UU ∧ UU ∧ UU) ∧ (UU ∧ UU)) (by kernel_rfl) ⟨⟨TT, TT, TT, TT, TT, ⟨TT, by rw [k3]⟩, TT, TT, TT, TT⟩, ⟨TT, TT⟩⟩) ?_
          refine Done.mk ?_
          obtain rfl := Option.some.inj h
          exact ⟨rfl, by kernel_rfl⟩
        · refine bind_el h (fun b k4 h => ?_)
          refine ifB_el h (fun k5 h => ?_) (fun k5 h => ?_)
          · refine awp_regionD Try_mixed (orcs := [(5, tB false), (7, tV (pB b)), (10, tB true)]) (gs := [.keep [0, 5, 6, 7, 36] []]) (s' := ⟨[(0, .p (encL Run.cs l)), (5, .p (encL Run.cs l)), (6, pI ((l.length : Int))), (7, pI t7), (36, pB true)], []⟩) (by kernel_rfl) (holds_of ((UU ∧ UU ∧ UU ∧ UU ∧ UU ∧ ((UU ∧ some (pB (decide (r_.frm ≥ r_.to))) = some (pB false))) ∧ UU ∧ (ASpec Try.prog 60 [.agg [pI r_.frm, pI r_.to]] [] (pB b) []) ∧ UU ∧ UU ∧ ((UU ∧ some (pB (!b)) = some (pB true))) ∧ UU ∧ UU) ∧ (UU ∧ UU)) (by kernel_rfl) ⟨⟨TT, TT, TT, TT, TT, ⟨TT, by rw [k3]⟩, TT, runs_fits_ok k4, TT, TT, ⟨TT, by rw [k5]⟩, TT, TT⟩, ⟨TT, TT⟩⟩) ?_
            refine Done.mk ?_
            obtain rfl := Option.some.inj h
            exact ⟨rfl, by kernel_rfl⟩
          · refine ifB_el h (fun k6 h => ?_) (fun k6 h => ?_)
            · refine chk_el h (fun k7 h => ?_)
              refine bind_el h (fun r_1 k8 h => ?_)
              replace k8 := getI_el k8
              refine awp_regionD Try_mixed (orcs := [(5, tB false), (7, tV (pB b)), (10, tB false), (13, tB true), (21, tV (pI r_1.to))]) (gs := [.keep [0, 5, 6, 7, 36] []]) (s' := ⟨[(0, .p (encL Run.cs l)), (5, .p (encL Run.cs l)), (6, pI ((l.length : Int))), (7, pI t7), (36, pB (decide (r_.frm ≤ r_1.to)))], []⟩) (by kernel_rfl) (holds_of ((UU ∧ UU ∧ UU ∧ UU ∧ UU ∧ ((UU ∧ some (pB (decide (r_.frm ≥ r_.to))) = some (pB false))) ∧ UU ∧ (ASpec Try.prog 60 [.agg [pI r_.frm, pI r_.to]] [] (pB b) []) ∧ UU ∧ UU ∧ ((UU ∧ some (pB (!b)) = some (pB false))) ∧ UU ∧ UU ∧ ((UU ∧ some (pB (decide (t7 > (0 : Int)))) = some (pB true))) ∧ UU ∧ UU ∧ UU ∧ UU ∧ (InR .i64 (t7 - 1 : Int)) ∧ ((0 ≤ (t7 - 1 : Int) ∧ (t7 - 1 : Int) < (l.length : Int))) ∧ UU ∧ ((l.flatMap Run.cs)[(t7 - 1 : Int).toNat * 2 + 1]? = some (vI r_1.to)) ∧ UU ∧ UU ∧ UU ∧ UU) ∧ (UU ∧ UU)) (by kernel_rfl) ⟨⟨TT, TT, TT, TT, TT, ⟨TT, by rw [k3]⟩, TT, runs_fits_ok k4, TT, TT, ⟨TT, by rw [k5]⟩, TT, TT, ⟨TT, by rw [k6]⟩, TT, TT, TT, TT, k7, k8.2, TT, row_at Run.cs_len k8.1 (j := 1) (by omega) (by decide), TT, TT, TT, TT⟩, ⟨TT, TT⟩⟩) ?_
              refine Done.mk ?_
              obtain rfl := Option.some.inj h
              exact ⟨rfl, by kernel_rfl⟩
            · refine awp_regionD Try_mixed (orcs := [(5, tB false), (7, tV (pB b)), (10, tB false), (13, tB false)]) (gs := [.keep [0, 5, 6, 7, 36] []]) (s' := ⟨[(0, .p (encL Run.cs l)), (5, .p (encL Run.cs l)), (6, pI ((l.length : Int))), (7, pI t7), (36, pB false)], []⟩) (by kernel_rfl) (holds_of ((UU ∧ UU ∧ UU ∧ UU ∧ UU ∧ ((UU ∧ some (pB (decide (r_.frm ≥ r_.to))) = some (pB false))) ∧ UU ∧ (ASpec Try.prog 60 [.agg [pI r_.frm, pI r_.to]] [] (pB b) []) ∧ UU ∧ UU ∧ ((UU ∧ some (pB (!b)) = some (pB false))) ∧ UU ∧ UU ∧ ((UU ∧ some (pB (decide (t7 > (0 : Int)))) = some (pB false))) ∧ UU ∧ UU ∧ UU) ∧ (UU ∧ UU)) (by kernel_rfl) ⟨⟨TT, TT, TT, TT, TT, ⟨TT, by rw [k3]⟩, TT, runs_fits_ok k4, TT, TT, ⟨TT, by rw [k5]⟩, TT, TT, ⟨TT, by rw [k6]⟩, TT, TT, TT⟩, ⟨TT, TT⟩⟩) ?_
              refine Done.mk ?_
              obtain rfl := Option.some.inj h
              exact ⟨rfl, by kernel_rfl⟩
      · have _ := hm
        refine Done.as (e := Exit.normal) (s := ⟨[(0, .p (encL Run.cs l)), (5, .p (encL Run.cs l)), (6, pI ((l.length : Int))), (7, pI t7), (36, pB t36)], []⟩) rfl (by kernel_rfl) ?_
        refine Done.mk (thenQ_n ?_)
        refine ifB_el h (fun k9 h => ?_) (fun k9 h => ?_)
        · refine awp_cond_t (b := t36) (by kernel_rfl) k9 ?_
          refine awp_seq ?_
          refine awp_regionD Try_mixed (orcs := []) (gs := [.keep [2] []]) (s' := ⟨[(2, pB false)], []⟩) (by kernel_rfl) (holds_of ((UU ∧ UU) ∧ (UU ∧ UU)) (by kernel_rfl) ⟨⟨TT, TT⟩, ⟨TT, TT⟩⟩) ?_
          refine Done.mk (thenQ_n ?_)
          refine doneRet ?_
          refine Done.mk (inB_r (thenQ_r ?_))
          obtain rfl := Option.some.inj h
          exact ⟨fun q => (by cases q), fun q => (by subst q; exact ⟨rfl, by kernel_rfl⟩)⟩
        · refine awp_cond_f (b := t36) (by kernel_rfl) k9 ?_
          refine doneSkip ?_
          refine Done.mk (inB_n (thenQ_n ?_))
          refine chk_el h (fun k10 h => ?_)
          refine awp_regionD Try_mixed (orcs := []) (gs := [.keep [0, 5, 6, 7] []]) (s' := ⟨[(0, .p (encL Run.cs l)), (5, .p (encL Run.cs l)), (6, pI ((l.length : Int))), (7, pI (t7 + 1))], []⟩) (by kernel_rfl) (holds_of (((InR .i64 (t7 + 1 : Int)) ∧ UU ∧ UU) ∧ (UU ∧ UU)) (by kernel_rfl) ⟨⟨k10, TT, TT⟩, ⟨TT, TT⟩⟩) ?_
          refine Done.mk ?_
          obtain rfl := Option.some.inj h
          exact ⟨rfl, by kernel_rfl⟩
    · refine awp_cond_f (b := decide (t7 < (l.length : Int))) (by kernel_rfl) k1 ?_
      refine doneExit ?_
      refine Done.gh [.keep [] [], .keep [] []] (s' := ⟨[], []⟩) (by kernel_rfl) (holds_of (UU ∧ UU ∧ UU) (by kernel_rfl) ⟨TT, TT, TT⟩) ?_
      refine Done.mk (thenQ_x ?_)
      obtain rfl := Option.some.inj h
      exact ⟨fun q => (by cases q), fun q => (by subst q; exact ⟨rfl, by kernel_rfl⟩)⟩
  · rcases o with _u | _u
    · refine Done.as (e := (Exit.exit 0)) (s := ⟨[], []⟩) rfl (by kernel_rfl) ?_
      refine Done.mk (inB_hit (thenQ_n ?_))
      refine awp_seq ?_
      refine awp_regionD Try_mixed (orcs := []) (gs := [.keep [2] []]) (s' := ⟨[(2, pB true)], []⟩) (by kernel_rfl) (holds_of ((UU ∧ UU) ∧ (UU ∧ UU)) (by kernel_rfl) ⟨⟨TT, TT⟩, ⟨TT, TT⟩⟩) ?_
      refine Done.mk (thenQ_n ?_)
      refine doneRet ?_
      refine Done.mk ?_
      obtain rfl := Option.some.inj h
      exact ⟨Or.inr rfl, by kernel_rfl, by kernel_rfl⟩
    · refine Done.as (e := Exit.ret) (s := ⟨[(2, pB false)], []⟩) rfl (by kernel_rfl) ?_
      refine Done.mk (inB_r (thenQ_r ?_))
      obtain rfl := Option.some.inj h
      exact ⟨Or.inr rfl, by kernel_rfl, by kernel_rfl⟩
end
end Go.AM
end
section
namespace Go.AM
open Go Go.RowKit Go.Proofs
noncomputable section
def region_ok_j1 (x : Int) : Option (Bool) :=
    ifB (decide (x ≥ (-4096 : Int)))
    (some (decide (x < (4096 : Int))))
    (some false)
noncomputable def region_ok (x : Int) : Option Bool :=
  (region_ok_j1 x).bind fun t2 =>
  some t2
set_option maxRecDepth 100000 in
set_option maxHeartbeats 4000000 in
theorem region_ok_ok {x : Int} {r : Bool} (h : region_ok x = some r) : ASpec Try.prog 31 [pI x] [] (pB r) [] := by
  refine aspec_of Try.func31 (c := _) rfl (by kernel_rfl) (by rw [Try.ntmps31]; exact Nat.le_of_ble_eq_true rfl) ?_
  refine awp_seq ?_
  refine awp_regionD Try_mixed (orcs := []) (gs := [.keep [0] []]) (s' := ⟨[(0, pI x)], []⟩) (by kernel_rfl) (holds_of ((UU ∧ UU) ∧ (UU ∧ UU)) (by kernel_rfl) ⟨⟨TT, TT⟩, ⟨TT, TT⟩⟩) ?_
  refine Done.mk (thenQ_n ?_)
  refine awp_seq ?_
  refine bind_el h (fun t2 hm h => ?_)
  refine awp_tail (fun _ => Exit.normal) (fun o => match o with | t2 => ⟨[(2, pB t2)], []⟩) hm (fun o h => ?_) ?_
  · refine ifB_el h (fun k1 h => ?_) (fun k1 h => ?_)
    · refine awp_regionD Try_mixed (orcs := [(2, tB true)]) (gs := [.keep [2] []]) (s' := ⟨[(2, pB (decide (x < (4096 : Int))))], []⟩) (by kernel_rfl) (holds_of ((UU ∧ UU ∧ ((UU ∧ some (pB (decide (x ≥ (-4096 : Int)))) = some (pB true))) ∧ UU ∧ UU ∧ UU ∧ UU ∧ UU) ∧ (UU ∧ UU)) (by kernel_rfl) ⟨⟨TT, TT, ⟨TT, by rw [k1]⟩, TT, TT, TT, TT, TT⟩, ⟨TT, TT⟩⟩) ?_
      refine Done.mk ?_
      obtain rfl := Option.some.inj h
      exact ⟨rfl, by kernel_rfl⟩
    · refine awp_regionD Try_mixed (orcs := [(2, tB false)]) (gs := [.keep [2] []]) (s' := ⟨[(2, pB false)], []⟩) (by kernel_rfl) (holds_of ((UU ∧ UU ∧ ((UU ∧ some (pB (decide (x ≥ (-4096 : Int)))) = some (pB false))) ∧ UU ∧ UU ∧ UU) ∧ (UU ∧ UU)) (by kernel_rfl) ⟨⟨TT, TT, ⟨TT, by rw [k1]⟩, TT, TT, TT⟩, ⟨TT, TT⟩⟩) ?_
      refine Done.mk ?_
      obtain rfl := Option.some.inj h
      exact ⟨rfl, by kernel_rfl⟩
  · have _ := hm
    refine Done.as (e := Exit.normal) (s := ⟨[(2, pB t2)], []⟩) rfl (by kernel_rfl) ?_
    refine Done.mk (thenQ_n ?_)
    refine doneRet ?_
    refine Done.mk ?_
    obtain rfl := Option.some.inj h
    exact ⟨Or.inr rfl, by kernel_rfl, by kernel_rfl⟩
end
end Go.AM
end
section
namespace Go.AM
open Go Go.RowKit Go.Proofs
noncomputable section
def region_Valid_j1 (r_ : Row) (t8 : Int) (t0 : Region) : Option (Bool) :=
    (region_ok r_.y).bind fun b =>
    ifB (!b)
    (some true)
    (ifB (decide (t8 > (0 : Int)))
      (chk (InR .i64 (t8 - 1 : Int))
        ((getI t0.rows (t8 - 1 : Int)).bind fun r_1 =>
        ifB (decide (r_.y ≤ r_1.y))
        (some true)
        (ifB ((r_.runs.length : Int) == (0 : Int))
          (some true)
          ((runs_Valid r_.runs).bind fun b1 =>
            some (!b1)))))
      (ifB ((r_.runs.length : Int) == (0 : Int))
        (some true)
        ((runs_Valid r_.runs).bind fun b2 =>
          some (!b2))))
def region_Valid_j2 (r_ : Row) : Option (Bool) :=
    (getI r_.runs (0 : Int)).bind fun r_2 =>
    (region_ok r_2.frm).bind fun b3 =>
    ifB (!b3)
    (some true)
    (chk (InR .i64 (((r_.runs.length : Int)) - 1 : Int))
      ((getI r_.runs (((r_.runs.length : Int)) - 1 : Int)).bind fun r_3 =>
      chk (InR .i64 (r_3.to - 1 : Int))
      ((region_ok (r_3.to - 1)).bind fun b4 =>
      some (!b4))))
def region_Valid_l3 (t0 : Region) (s : Int) : Option ((Int) ⊕ ((Unit) ⊕ (Unit))) :=
  match s with
  | t8 =>
    ifB (decide (t8 < (t0.rows.length : Int)))
    ((getI t0.rows t8).bind fun r_ =>
      (region_Valid_j1 r_ t8 t0).bind fun t44 =>
      ifB (t44)
      (some (.inr (.inr ())))
      ((region_Valid_j2 r_).bind fun t65 =>
        ifB (t65)
        (some (.inr (.inr ())))
        (chk (InR .i64 (t8 + 1 : Int))
          (some (.inl (t8 + 1))))))
    (some (.inr (.inl ())))
noncomputable def region_Valid (t0 : Region) : Option Bool :=
  (loopP (region_Valid_l3 t0) 0).bind fun o => match o with
  | .inl _ => some true
  | .inr _ => some false
set_option maxRecDepth 100000 in
set_option maxHeartbeats 4000000 in
theorem region_Valid_ok {t0 : Region} {r : Bool} (h : region_Valid t0 = some r) : ASpec Try.prog 24 [.agg [.p (encL Row.cs t0.rows)]] [] (pB r) [] := by
  refine aspec_of Try.func24 (c := _) rfl (by kernel_rfl) (by rw [Try.ntmps24]; exact Nat.le_of_ble_eq_true rfl) ?_
  refine awp_seq ?_
  refine awp_regionD Try_mixed (orcs := []) (gs := [.keep [1] [1]]) (s' := ⟨[(1, .ptr 1 0)], [(1, .lit 24 [.p (encL Row.cs t0.rows)])]⟩) (by kernel_rfl) (holds_of ((UU ∧ UU ∧ UU) ∧ (UU ∧ UU)) (by kernel_rfl) ⟨⟨TT, TT, TT⟩, ⟨TT, TT⟩⟩) ?_
  refine Done.mk (thenQ_n ?_)
  refine awp_seq ?_
  refine awp_seq ?_
  refine awp_regionD Try_mixed (orcs := []) (gs := [.keep [1, 6, 7, 8] [1]]) (s' := ⟨[(1, .ptr 1 0), (6, .p (encL Row.cs t0.rows)), (7, pI ((t0.rows.length : Int))), (8, pI 0)], [(1, .lit 24 [.p (encL Row.cs t0.rows)])]⟩) (by kernel_rfl) (holds_of ((UU ∧ UU ∧ UU ∧ UU ∧ UU) ∧ (UU ∧ UU)) (by kernel_rfl) ⟨⟨TT, TT, TT, TT, TT⟩, ⟨TT, TT⟩⟩) ?_
  refine Done.mk (thenQ_n ?_)
  refine awp_block ?_
  refine bind_el h (fun o hm h => ?_)
  refine awp_gh [.keep [1, 6, 7, 8] [1], .keep [1, 6, 7, 8] [1]] (s' := ⟨[(1, .ptr 1 0), (6, .p (encL Row.cs t0.rows)), (7, pI ((t0.rows.length : Int))), (8, pI 0)], [(1, .lit 24 [.p (encL Row.cs t0.rows)])]⟩) (by kernel_rfl) (holds_of (UU ∧ UU ∧ UU) (by kernel_rfl) ⟨TT, TT, TT⟩) ?_
  refine awp_tail (fun o => match o with | .inl _ => (Exit.exit 0) | .inr _ => Exit.ret) (fun o => match o with | .inl _ => ⟨[], []⟩ | .inr _ => ⟨[(2, pB false)], []⟩) hm (fun o h => ?_) ?_
  · refine awp_loop' (fun s => match s with | t8 => ⟨[(1, .ptr 1 0), (6, .p (encL Row.cs t0.rows)), (7, pI ((t0.rows.length : Int))), (8, pI t8)], [(1, .lit 24 [.p (encL Row.cs t0.rows)])]⟩) h (by kernel_rfl) (fun t8 out h => ?_)
    refine awp_seq ?_
    refine awp_regionD Try_mixed (orcs := []) (gs := [.keep [1, 6, 7, 8, 9] [1]]) (s' := ⟨[(1, .ptr 1 0), (6, .p (encL Row.cs t0.rows)), (7, pI ((t0.rows.length : Int))), (8, pI t8), (9, pB (decide (t8 < (t0.rows.length : Int))))], [(1, .lit 24 [.p (encL Row.cs t0.rows)])]⟩) (by kernel_rfl) (holds_of ((UU ∧ UU) ∧ (UU ∧ UU)) (by kernel_rfl) ⟨⟨TT, TT⟩, ⟨TT, TT⟩⟩) ?_
    refine Done.mk (thenQ_n ?_)
    refine awp_seq ?_
    refine ifB_el h (fun k1 h => ?_) (fun k1 h => ?_)
    · refine awp_cond_t (b := decide (t8 < (t0.rows.length : Int))) (by kernel_rfl) k1 ?_
      refine doneSkip ?_
      refine Done.mk (thenQ_n ?_)
      refine awp_seq ?_
      refine awp_block ?_
      refine awp_seq ?_
      refine bind_el h (fun r_ k2 h => ?_)
      replace k2 := getI_el k2
      refine awp_regionD Try_mixed (orcs := [(2, tV (.agg [pI r_.y, .p (encL Run.cs r_.runs)]))]) (gs := [.keep [1, 3, 4, 6, 7, 8] [1, 4]]) (s' := ⟨[(1, .ptr 1 0), (3, pI t8), (4, .ptr 4 0), (6, .p (encL Row.cs t0.rows)), (7, pI ((t0.rows.length : Int))), (8, pI t8)], [(1, .lit 24 [.p (encL Row.cs t0.rows)]), (4, .lit 48 [pI r_.y, .p (encL Run.cs r_.runs)])]⟩) (by kernel_rfl) (holds_of ((UU ∧ ((0 ≤ t8 ∧ t8 < (t0.rows.length : Int))) ∧ (rowHas (t0.rows.flatMap Row.cs) (t8.toNat * 2) [pI r_.y, .p (encL Run.cs r_.runs)]) ∧ UU ∧ UU ∧ UU ∧ UU) ∧ (UU ∧ UU)) (by kernel_rfl) ⟨⟨TT, k2.2, row_has Row.cs_len k2.1 (o := 0) (m := 2) (by omega) (by decide), TT, TT, TT, TT⟩, ⟨TT, TT⟩⟩) ?_
      refine Done.mk (thenQ_n ?_)
      refine awp_seq ?_
      refine awp_seq ?_
      refine bind_el h (fun t44 hm h => ?_)
      refine awp_tail (fun _ => Exit.normal) (fun o => match o with | t44 => ⟨[(1, .ptr 1 0), (4, .ptr 4 0), (6, .p (encL Row.cs t0.rows)), (7, pI ((t0.rows.length : Int))), (8, pI t8), (44, pB t44)], [(1, .lit 24 [.p (encL Row.cs t0.rows)]), (4, .lit 48 [pI r_.y, .p (encL Run.cs r_.runs)])]⟩) hm (fun o h => ?_) ?_
      · refine bind_el h (fun b k3 h => ?_)
        refine ifB_el h (fun k4 h => ?_) (fun k4 h => ?_)
        · refine awp_regionD Try_mixed (orcs := [(2, tV (pB b)), (4, tB true)]) (gs := [.keep [1, 4, 6, 7, 8, 44] [1, 4]]) (s' := ⟨[(1, .ptr 1 0), (4, .ptr 4 0), (6, .p (encL Row.cs t0.rows)), (7, pI ((t0.rows.length : Int))), (8, pI t8), (44, pB true)], [(1, .lit 24 [.p (encL Row.cs t0.rows)]), (4, .lit 48 [pI r_.y, .p (encL Run.cs r_.runs)])]⟩) (by kernel_rfl) (holds_of ((UU ∧ UU ∧ (ASpec Try.prog 31 [pI r_.y] [] (pB b) []) ∧ UU ∧ ((UU ∧ some (pB (!b)) = some (pB true))) ∧ UU ∧ UU ∧ UU ∧ UU ∧ UU ∧ UU) ∧ (UU ∧ UU)) (by kernel_rfl) ⟨⟨TT, TT, region_ok_ok k3, TT, ⟨TT, by rw [k4]⟩, TT, TT, TT, TT, TT, TT⟩, ⟨TT, TT⟩⟩) ?_
          refine Done.mk ?_
          obtain rfl := Option.some.inj h
          exact ⟨rfl, by kernel_rfl⟩
        · refine ifB_el h (fun k5 h => ?_) (fun k5 h => ?_)
          · refine chk_el h (fun k6 h => ?_)
            refine bind_el h (fun r_1 k7 h => ?_)
            replace k7 := getI_el k7
            refine ifB_el h (fun k8 h => ?_) (fun k8 h => ?_)
            · refine awp_regionD Try_mixed (orcs := [(2, tV (pB b)), (4, tB false), (7, tB true), (16, tV (pI r_1.y)), (20, tB true)]) (gs := [.keep [1, 4, 6, 7, 8, 44] [1, 4]]) (s' := ⟨[(1, .ptr 1 0), (4, .ptr 4 0), (6, .p (encL Row.cs t0.rows)), (7, pI ((t0.rows.length : Int))), (8, pI t8), (44, pB true)], [(1, .lit 24 [.p (encL Row.cs t0.rows)]), (4, .lit 48 [pI r_.y, .p (encL Run.cs r_.runs)])]⟩) (by kernel_rfl) (holds_of ((UU ∧ UU ∧ (ASpec Try.prog 31 [pI r_.y] [] (pB b) []) ∧ UU ∧ ((UU ∧ some (pB (!b)) = some (pB false))) ∧ UU ∧ UU ∧ ((UU ∧ some (pB (decide (t8 > (0 : Int)))) = some (pB true))) ∧ UU ∧ UU ∧ UU ∧ UU ∧ UU ∧ (InR .i64 (t8 - 1 : Int)) ∧ ((0 ≤ (t8 - 1 : Int) ∧ (t8 - 1 : Int) < (t0.rows.length : Int))) ∧ UU ∧ ((t0.rows.flatMap Row.cs)[(t8 - 1 : Int).toNat * 2]? = some (vI r_1.y)) ∧ UU ∧ UU ∧ UU ∧ ((UU ∧ some (pB (decide (r_.y ≤ r_1.y))) = some (pB true))) ∧ UU ∧ UU ∧ UU ∧ UU) ∧ (UU ∧ UU)) (by kernel_rfl) ⟨⟨TT, TT, region_ok_ok k3, TT, ⟨TT, by rw [k4]⟩, TT, TT, ⟨TT, by rw [k5]⟩, TT, TT, TT, TT, TT, k6, k7.2, TT, row_at Row.cs_len k7.1 (j := 0) (by omega) (by decide), TT, TT, TT, ⟨TT, by rw [k8]⟩, TT, TT, TT, TT⟩, ⟨TT, TT⟩⟩) ?_
              refine Done.mk ?_
              obtain rfl := Option.some.inj h
              exact ⟨rfl, by kernel_rfl⟩
            · refine ifB_el h (fun k9 h => ?_) (fun k9 h => ?_)
              · refine awp_regionD Try_mixed (orcs := [(2, tV (pB b)), (4, tB false), (7, tB true), (16, tV (pI r_1.y)), (20, tB false), (26, tB true)]) (gs := [.keep [1, 4, 6, 7, 8, 44] [1, 4]]) (s' := ⟨[(1, .ptr 1 0), (4, .ptr 4 0), (6, .p (encL Row.cs t0.rows)), (7, pI ((t0.rows.length : Int))), (8, pI t8), (44, pB true)], [(1, .lit 24 [.p (encL Row.cs t0.rows)]), (4, .lit 48 [pI r_.y, .p (encL Run.cs r_.runs)])]⟩) (by kernel_rfl) (holds_of ((UU ∧ UU ∧ (ASpec Try.prog 31 [pI r_.y] [] (pB b) []) ∧ UU ∧ ((UU ∧ some (pB (!b)) = some (pB false))) ∧ UU ∧ UU ∧ ((UU ∧ some (pB (decide (t8 > (0 : Int)))) = some (pB true))) ∧ UU ∧ UU ∧ UU ∧ UU ∧ UU ∧ (InR .i64 (t8 - 1 : Int)) ∧ ((0 ≤ (t8 - 1 : Int) ∧ (t8 - 1 : Int) < (t0.rows.length : Int))) ∧ UU ∧ ((t0.rows.flatMap Row.cs)[(t8 - 1 : Int).toNat * 2]? = some (vI r_1.y)) ∧ UU ∧ UU ∧ UU ∧ ((UU ∧ some (pB (decide (r_.y ≤ r_1.y))) = some (pB false))) ∧ UU ∧ UU ∧ UU ∧ UU ∧ UU ∧ ((UU ∧ some (pB ((r_.runs.length : Int) == (0 : Int))) = some (pB true))) ∧ UU ∧ UU) ∧ (UU ∧ UU)) (by kernel_rfl) ⟨⟨TT, TT, region_ok_ok k3, TT, ⟨TT, by rw [k4]⟩, TT, TT, ⟨TT, by rw [k5]⟩, TT, TT, TT, TT, TT, k6, k7.2, TT, row_at Row.cs_len k7.1 (j := 0) (by omega) (by decide), TT, TT, TT, ⟨TT, by rw [k8]⟩, TT, TT, TT, TT, TT, ⟨TT, by rw [k9]⟩, TT, TT⟩, ⟨TT, TT⟩⟩) ?_
                refine Done.mk ?_
                obtain rfl := Option.some.inj h
                exact ⟨rfl, by kernel_rfl⟩
              · refine bind_el h (fun b1 k10 h => ?_)
                refine awp_regionD Try_mixed (orcs := [(2, tV (pB b)), (4, tB false), (7, tB true), (16, tV (pI r_1.y)), (20, tB false), (26, tB false), (29, tV (pB b1))]) (gs := [.keep [1, 4, 6, 7, 8, 44] [1, 4]]) (s' := ⟨[(1, .ptr 1 0), (4, .ptr 4 0), (6, .p (encL Row.cs t0.rows)), (7, pI ((t0.rows.length : Int))), (8, pI t8), (44, pB (!b1))], [(1, .lit 24 [.p (encL Row.cs t0.rows)]), (4, .lit 48 [pI r_.y, .p (encL Run.cs r_.runs)])]⟩) (by kernel_rfl) (holds_of ((UU ∧ UU ∧ (ASpec Try.prog 31 [pI r_.y] [] (pB b) []) ∧ UU ∧ ((UU ∧ some (pB (!b)) = some (pB false))) ∧ UU ∧ UU ∧ ((UU ∧ some (pB (decide (t8 > (0 : Int)))) = some (pB true))) ∧ UU ∧ UU ∧ UU ∧ UU ∧ UU ∧ (InR .i64 (t8 - 1 : Int)) ∧ ((0 ≤ (t8 - 1 : Int) ∧ (t8 - 1 : Int) < (t0.rows.length : Int))) ∧ UU ∧ ((t0.rows.flatMap Row.cs)[(t8 - 1 : Int).toNat * 2]? = some (vI r_1.y)) ∧ UU ∧ UU ∧ UU ∧ ((UU ∧ some (pB (decide (r_.y ≤ r_1.y))) = some (pB false))) ∧ UU ∧ UU ∧ UU ∧ UU ∧ UU ∧ ((UU ∧ some (pB ((r_.runs.length : Int) == (0 : Int))) = some (pB false))) ∧ UU ∧ UU ∧ (ASpec Try.prog 43 [.p (encL Run.cs r_.runs)] [] (pB b1) []) ∧ UU ∧ UU ∧ UU) ∧ (UU ∧ UU)) (by kernel_rfl) ⟨⟨TT, TT, region_ok_ok k3, TT, ⟨TT, by rw [k4]⟩, TT, TT, ⟨TT, by rw [k5]⟩, TT, TT, TT, TT, TT, k6, k7.2, TT, row_at Row.cs_len k7.1 (j := 0) (by omega) (by decide), TT, TT, TT, ⟨TT, by rw [k8]⟩, TT, TT, TT, TT, TT, ⟨TT, by rw [k9]⟩, TT, TT, runs_Valid_ok k10, TT, TT, TT⟩, ⟨TT, TT⟩⟩) ?_
                refine Done.mk ?_
                obtain rfl := Option.some.inj h
                exact ⟨rfl, by kernel_rfl⟩
          · refine ifB_el h (fun k11 h => ?_) (fun k11 h => ?_)
            · refine awp_regionD Try_mixed (orcs := [(2, tV (pB b)), (4, tB false), (7, tB false), (26, tB true)]) (gs := [.keep [1, 4, 6, 7, 8, 44] [1, 4]]) (s' := ⟨[(1, .ptr 1 0), (4, .ptr 4 0), (6, .p (encL Row.cs t0.rows)), (7, pI ((t0.rows.length : Int))), (8, pI t8), (44, pB true)], [(1, .lit 24 [.p (encL Row.cs t0.rows)]), (4, .lit 48 [pI r_.y, .p (encL Run.cs r_.runs)])]⟩) (by kernel_rfl) (holds_of ((UU ∧ UU ∧ (ASpec Try.prog 31 [pI r_.y] [] (pB b) []) ∧ UU ∧ ((UU ∧ some (pB (!b)) = some (pB false))) ∧ UU ∧ UU ∧ ((UU ∧ some (pB (decide (t8 > (0 : Int)))) = some (pB false))) ∧ UU ∧ UU ∧ UU ∧ UU ∧ UU ∧ UU ∧ UU ∧ UU ∧ ((UU ∧ some (pB ((r_.runs.length : Int) == (0 : Int))) = some (pB true))) ∧ UU ∧ UU) ∧ (UU ∧ UU)) (by kernel_rfl) ⟨⟨TT, TT, region_ok_ok k3, TT, ⟨TT, by rw [k4]⟩, TT, TT, ⟨TT, by rw [k5]⟩, TT, TT, TT, TT, TT, TT, TT, TT, ⟨TT, by rw [k11]⟩, TT, TT⟩, ⟨TT, TT⟩⟩) ?_
              refine Done.mk ?_
              obtain rfl := Option.some.inj h
              exact ⟨rfl, by kernel_rfl⟩
            · refine bind_el h (fun b2 k12 h => ?_)
              refine awp_regionD Try_mixed (orcs := [(2, tV (pB b)), (4, tB false), (7, tB false), (26, tB false), (29, tV (pB b2))]) (gs := [.keep [1, 4, 6, 7, 8, 44] [1, 4]]) (s' := ⟨[(1, .ptr 1 0), (4, .ptr 4 0), (6, .p (encL Row.cs t0.rows)), (7, pI ((t0.rows.length : Int))), (8, pI t8), (44, pB (!b2))], [(1, .lit 24 [.p (encL Row.cs t0.rows)]), (4, .lit 48 [pI r_.y, .p (encL Run.cs r_.runs)])]⟩) (by kernel_rfl) (holds_of ((UU ∧ UU ∧ (ASpec Try.prog 31 [pI r_.y] [] (pB b) []) ∧ UU ∧ ((UU ∧ some (pB (!b)) = some (pB false))) ∧ UU ∧ UU ∧ ((UU ∧ some (pB (decide (t8 > (0 : Int)))) = some (pB false))) ∧ UU ∧ UU ∧ UU ∧ UU ∧ UU ∧ UU ∧ UU ∧ UU ∧ ((UU ∧ some (pB ((r_.runs.length : Int) == (0 : Int))) = some (pB false))) ∧ UU ∧ UU ∧ (ASpec Try.prog 43 [.p (encL Run.cs r_.runs)] [] (pB b2) []) ∧ UU ∧ UU ∧ UU) ∧ (UU ∧ UU)) (by kernel_rfl) ⟨⟨TT, TT, region_ok_ok k3, TT, ⟨TT, by rw [k4]⟩, TT, TT, ⟨TT, by rw [k5]⟩, TT, TT, TT, TT, TT, TT, TT, TT, ⟨TT, by rw [k11]⟩, TT, TT, runs_Valid_ok k12, TT, TT, TT⟩, ⟨TT, TT⟩⟩) ?_
              refine Done.mk ?_
              obtain rfl := Option.some.inj h
              exact ⟨rfl, by kernel_rfl⟩
      · have _ := hm
        refine Done.as (e := Exit.normal) (s := ⟨[(1, .ptr 1 0), (4, .ptr 4 0), (6, .p (encL Row.cs t0.rows)), (7, pI ((t0.rows.length : Int))), (8, pI t8), (44, pB t44)], [(1, .lit 24 [.p (encL Row.cs t0.rows)]), (4, .lit 48 [pI r_.y, .p (encL Run.cs r_.runs)])]⟩) rfl (by kernel_rfl) ?_
        refine Done.mk (thenQ_n ?_)
        refine ifB_el h (fun k13 h => ?_) (fun k13 h => ?_)
        · refine awp_cond_t (b := t44) (by kernel_rfl) k13 ?_
          refine awp_seq ?_
          refine awp_regionD Try_mixed (orcs := []) (gs := [.keep [2] []]) (s' := ⟨[(2, pB false)], []⟩) (by kernel_rfl) (holds_of ((UU ∧ UU) ∧ (UU ∧ UU)) (by kernel_rfl) ⟨⟨TT, TT⟩, ⟨TT, TT⟩⟩) ?_
          refine Done.mk (thenQ_n ?_)
          refine doneRet ?_
          refine Done.mk (thenQ_r (inB_r (thenQ_r ?_)))
          obtain rfl := Option.some.inj h
          exact ⟨fun q => (by cases q), fun q => (by subst q; exact ⟨rfl, by kernel_rfl⟩)⟩
        · refine awp_cond_f (b := t44) (by kernel_rfl) k13 ?_
          refine doneSkip ?_
          refine Done.mk (thenQ_n ?_)
          refine awp_seq ?_
          refine bind_el h (fun t65 hm h => ?_)
          refine awp_tail (fun _ => Exit.normal) (fun o => match o with | t65 => ⟨[(1, .ptr 1 0), (6, .p (encL Row.cs t0.rows)), (7, pI ((t0.rows.length : Int))), (8, pI t8), (65, pB t65)], [(1, .lit 24 [.p (encL Row.cs t0.rows)])]⟩) hm (fun o h => ?_) ?_
          · refine bind_el h (fun r_2 k14 h => ?_)
            replace k14 := getI_el k14
            refine bind_el h (fun b3 k15 h => ?_)
            refine ifB_el h (fun k16 h => ?_) (fun k16 h => ?_)
            · refine awp_regionD Try_mixed (orcs := [(4, tV (pI r_2.frm)), (5, tV (pB b3)), (7, tB true)]) (gs := [.keep [1, 6, 7, 8, 65] [1]]) (s' := ⟨[(1, .ptr 1 0), (6, .p (encL Row.cs t0.rows)), (7, pI ((t0.rows.length : Int))), (8, pI t8), (65, pB true)], [(1, .lit 24 [.p (encL Row.cs t0.rows)])]⟩) (by kernel_rfl) (holds_of ((UU ∧ UU ∧ ((0 ≤ (0 : Int) ∧ (0 : Int) < (r_.runs.length : Int))) ∧ UU ∧ ((r_.runs.flatMap Run.cs)[(0 : Int).toNat * 2]? = some (vI r_2.frm)) ∧ (ASpec Try.prog 31 [pI r_2.frm] [] (pB b3) []) ∧ UU ∧ ((UU ∧ some (pB (!b3)) = some (pB true))) ∧ UU ∧ UU) ∧ (UU ∧ UU)) (by kernel_rfl) ⟨⟨TT, TT, k14.2, TT, row_at Run.cs_len k14.1 (j := 0) (by omega) (by decide), region_ok_ok k15, TT, ⟨TT, by rw [k16]⟩, TT, TT⟩, ⟨TT, TT⟩⟩) ?_
              refine Done.mk ?_
              obtain rfl := Option.some.inj h
              exact ⟨rfl, by kernel_rfl⟩
            · refine chk_el h (fun k17 h => ?_)
              refine bind_el h (fun r_3 k18 h => ?_)
              replace k18 := getI_el k18
              refine chk_el h (fun k19 h => ?_)
              refine bind_el h (fun b4 k20 h => ?_)
              refine awp_regionD Try_mixed (orcs := [(4, tV (pI r_2.frm)), (5, tV (pB b3)), (7, tB false), (16, tV (pI r_3.to)), (18, tV (pB b4))]) (gs := [.keep [1, 6, 7, 8, 65] [1]]) (s' := ⟨[(1, .ptr 1 0), (6, .p (encL Row.cs t0.rows)), (7, pI ((t0.rows.length : Int))), (8, pI t8), (65, pB (!b4))], [(1, .lit 24 [.p (encL Row.cs t0.rows)])]⟩) (by kernel_rfl) (holds_of ((UU ∧ UU ∧ ((0 ≤ (0 : Int) ∧ (0 : Int) < (r_.runs.length : Int))) ∧ UU ∧ ((r_.runs.flatMap Run.cs)[(0 : Int).toNat * 2]? = some (vI r_2.frm)) ∧ (ASpec Try.prog 31 [pI r_2.frm] [] (pB b3) []) ∧ UU ∧ ((UU ∧ some (pB (!b3)) = some (pB false))) ∧ UU ∧ UU ∧ UU ∧ UU ∧ UU ∧ (InR .i64 (((r_.runs.length : Int)) - 1 : Int)) ∧ ((0 ≤ (((r_.runs.length : Int)) - 1 : Int) ∧ (((r_.runs.length : Int)) - 1 : Int) < (r_.runs.length : Int))) ∧ UU ∧ ((r_.runs.flatMap Run.cs)[(((r_.runs.length : Int)) - 1 : Int).toNat * 2 + 1]? = some (vI r_3.to)) ∧ (InR .i64 (r_3.to - 1 : Int)) ∧ (ASpec Try.prog 31 [pI (r_3.to - 1)] [] (pB b4) []) ∧ UU ∧ UU ∧ UU) ∧ (UU ∧ UU)) (by kernel_rfl) ⟨⟨TT, TT, k14.2, TT, row_at Run.cs_len k14.1 (j := 0) (by omega) (by decide), region_ok_ok k15, TT, ⟨TT, by rw [k16]⟩, TT, TT, TT, TT, TT, k17, k18.2, TT, row_at Run.cs_len k18.1 (j := 1) (by omega) (by decide), k19, region_ok_ok k20, TT, TT, TT⟩, ⟨TT, TT⟩⟩) ?_
              refine Done.mk ?_
              obtain rfl := Option.some.inj h
              exact ⟨rfl, by kernel_rfl⟩
          · have _ := hm
            refine Done.as (e := Exit.normal) (s := ⟨[(1, .ptr 1 0), (6, .p (encL Row.cs t0.rows)), (7, pI ((t0.rows.length : Int))), (8, pI t8), (65, pB t65)], [(1, .lit 24 [.p (encL Row.cs t0.rows)])]⟩) rfl (by kernel_rfl) ?_
            refine Done.mk (thenQ_n ?_)
            refine ifB_el h (fun k21 h => ?_) (fun k21 h => ?_)
            · refine awp_cond_t (b := t65) (by kernel_rfl) k21 ?_
              refine awp_seq ?_
              refine awp_regionD Try_mixed (orcs := []) (gs := [.keep [2] []]) (s' := ⟨[(2, pB false)], []⟩) (by kernel_rfl) (holds_of ((UU ∧ UU) ∧ (UU ∧ UU)) (by kernel_rfl) ⟨⟨TT, TT⟩, ⟨TT, TT⟩⟩) ?_
              refine Done.mk (thenQ_n ?_)
              refine doneRet ?_
              refine Done.mk (inB_r (thenQ_r ?_))
              obtain rfl := Option.some.inj h
              exact ⟨fun q => (by cases q), fun q => (by subst q; exact ⟨rfl, by kernel_rfl⟩)⟩
            · refine awp_cond_f (b := t65) (by kernel_rfl) k21 ?_
              refine doneSkip ?_
              refine Done.mk (inB_n (thenQ_n ?_))
              refine chk_el h (fun k22 h => ?_)
              refine awp_regionD Try_mixed (orcs := []) (gs := [.keep [1, 6, 7, 8] [1]]) (s' := ⟨[(1, .ptr 1 0), (6, .p (encL Row.cs t0.rows)), (7, pI ((t0.rows.length : Int))), (8, pI (t8 + 1))], [(1, .lit 24 [.p (encL Row.cs t0.rows)])]⟩) (by kernel_rfl) (holds_of (((InR .i64 (t8 + 1 : Int)) ∧ UU ∧ UU) ∧ (UU ∧ UU)) (by kernel_rfl) ⟨⟨k22, TT, TT⟩, ⟨TT, TT⟩⟩) ?_
              refine Done.mk ?_
              obtain rfl := Option.some.inj h
              exact ⟨rfl, by kernel_rfl⟩
    · refine awp_cond_f (b := decide (t8 < (t0.rows.length : Int))) (by kernel_rfl) k1 ?_
      refine doneExit ?_
      refine Done.gh [.keep [] [], .keep [] []] (s' := ⟨[], []⟩) (by kernel_rfl) (holds_of (UU ∧ UU ∧ UU) (by kernel_rfl) ⟨TT, TT, TT⟩) ?_
      refine Done.mk (thenQ_x ?_)
      obtain rfl := Option.some.inj h
      exact ⟨fun q => (by cases q), fun q => (by subst q; exact ⟨rfl, by kernel_rfl⟩)⟩
  · rcases o with _u | _u
    · refine Done.as (e := (Exit.exit 0)) (s := ⟨[], []⟩) rfl (by kernel_rfl) ?_
      refine Done.mk (inB_hit (thenQ_n ?_))
      refine awp_seq ?_
      refine awp_regionD Try_mixed (orcs := []) (gs := [.keep [2] []]) (s' := ⟨[(2, pB true)], []⟩) (by kernel_rfl) (holds_of ((UU ∧ UU) ∧ (UU ∧ UU)) (by kernel_rfl) ⟨⟨TT, TT⟩, ⟨TT, TT⟩⟩) ?_
      refine Done.mk (thenQ_n ?_)
      refine doneRet ?_
      refine Done.mk ?_
      obtain rfl := Option.some.inj h
      exact ⟨Or.inr rfl, by kernel_rfl, by kernel_rfl⟩
    · refine Done.as (e := Exit.ret) (s := ⟨[(2, pB false)], []⟩) rfl (by kernel_rfl) ?_
      refine Done.mk (inB_r (thenQ_r ?_))
      obtain rfl := Option.some.inj h
      exact ⟨Or.inr rfl, by kernel_rfl, by kernel_rfl⟩
end
end Go.AM
end
section
namespace Go.AM
open Go Go.RowKit Go.Proofs
noncomputable section
def track_onGrid_j1 (c : Cell) : Option (Bool) :=
    ifB (decide (c.x ≥ (-4096 : Int)))
    (ifB (decide (c.x < (4096 : Int)))
      (ifB (decide (c.y ≥ (-4096 : Int)))
        (some (decide (c.y < (4096 : Int))))
        (some false))
      (some false))
    (some false)
noncomputable def track_onGrid (c : Cell) : Option Bool :=
  (track_onGrid_j1 c).bind fun t2 =>
  some t2
set_option maxRecDepth 100000 in
set_option maxHeartbeats 4000000 in
theorem track_onGrid_ok {c : Cell} {r : Bool} (h : track_onGrid c = some r) : ASpec Try.prog 22 [.agg [pI c.x, pI c.y]] [] (pB r) [] := by
  refine aspec_of Try.func22 (c := _) rfl (by kernel_rfl) (by rw [Try.ntmps22]; exact Nat.le_of_ble_eq_true rfl) ?_
  refine awp_seq ?_
  refine awp_regionD Try_mixed (orcs := []) (gs := [.keep [1] [1]]) (s' := ⟨[(1, .ptr 1 0)], [(1, .lit 37 [pI c.x, pI c.y])]⟩) (by kernel_rfl) (holds_of ((UU ∧ UU ∧ UU) ∧ (UU ∧ UU)) (by kernel_rfl) ⟨⟨TT, TT, TT⟩, ⟨TT, TT⟩⟩) ?_
  refine Done.mk (thenQ_n ?_)
  refine awp_seq ?_
  refine bind_el h (fun t2 hm h => ?_)
  refine awp_tail (fun _ => Exit.normal) (fun o => match o with | t2 => ⟨[(2, pB t2)], []⟩) hm (fun o h => ?_) ?_
  · refine ifB_el h (fun k1 h => ?_) (fun k1 h => ?_)
    · refine ifB_el h (fun k2 h => ?_) (fun k2 h => ?_)
      · refine ifB_el h (fun k3 h => ?_) (fun k3 h => ?_)
        · refine awp_regionD Try_mixed (orcs := [(3, tB true), (8, tB true), (13, tB true)]) (gs := [.keep [2] []]) (s' := ⟨[(2, pB (decide (c.y < (4096 : Int))))], []⟩) (by kernel_rfl) (holds_of ((UU ∧ UU ∧ UU ∧ ((UU ∧ some (pB (decide (c.x ≥ (-4096 : Int)))) = some (pB true))) ∧ UU ∧ UU ∧ UU ∧ UU ∧ ((UU ∧ some (pB (decide (c.x < (4096 : Int)))) = some (pB true))) ∧ UU ∧ UU ∧ UU ∧ UU ∧ ((UU ∧ some (pB (decide (c.y ≥ (-4096 : Int)))) = some (pB true))) ∧ UU ∧ UU ∧ UU ∧ UU ∧ UU ∧ UU) ∧ (UU ∧ UU)) (by kernel_rfl) ⟨⟨TT, TT, TT, ⟨TT, by rw [k1]⟩, TT, TT, TT, TT, ⟨TT, by rw [k2]⟩, TT, TT, TT, TT, ⟨TT, by rw [k3]⟩, TT, TT, TT, TT, TT, TT⟩, ⟨TT, TT⟩⟩) ?_
          refine Done.mk ?_
          obtain rfl := Option.some.inj h
          exact ⟨rfl, by kernel_rfl⟩
        · refine awp_regionD Try_mixed (orcs := [(3, tB true), (8, tB true), (13, tB false)]) (gs := [.keep [2] []]) (s' := ⟨[(2, pB false)], []⟩) (by kernel_rfl) (holds_of ((UU ∧ UU ∧ UU ∧ ((UU ∧ some (pB (decide (c.x ≥ (-4096 : Int)))) = some (pB true))) ∧ UU ∧ UU ∧ UU ∧ UU ∧ ((UU ∧ some (pB (decide (c.x < (4096 : Int)))) = some (pB true))) ∧ UU ∧ UU ∧ UU ∧ UU ∧ ((UU ∧ some (pB (decide (c.y ≥ (-4096 : Int)))) = some (pB false))) ∧ UU ∧ UU ∧ UU) ∧ (UU ∧ UU)) (by kernel_rfl) ⟨⟨TT, TT, TT, ⟨TT, by rw [k1]⟩, TT, TT, TT, TT, ⟨TT, by rw [k2]⟩, TT, TT, TT, TT, ⟨TT, by rw [k3]⟩, TT, TT, TT⟩, ⟨TT, TT⟩⟩) ?_
          refine Done.mk ?_
          obtain rfl := Option.some.inj h
          exact ⟨rfl, by kernel_rfl⟩
      · refine awp_regionD Try_mixed (orcs := [(3, tB true), (8, tB false)]) (gs := [.keep [2] []]) (s' := ⟨[(2, pB false)], []⟩) (by kernel_rfl) (holds_of ((UU ∧ UU ∧ UU ∧ ((UU ∧ some (pB (decide (c.x ≥ (-4096 : Int)))) = some (pB true))) ∧ UU ∧ UU ∧ UU ∧ UU ∧ ((UU ∧ some (pB (decide (c.x < (4096 : Int)))) = some (pB false))) ∧ UU ∧ UU ∧ UU ∧ UU ∧ UU) ∧ (UU ∧ UU)) (by kernel_rfl) ⟨⟨TT, TT, TT, ⟨TT, by rw [k1]⟩, TT, TT, TT, TT, ⟨TT, by rw [k2]⟩, TT, TT, TT, TT, TT⟩, ⟨TT, TT⟩⟩) ?_
        refine Done.mk ?_
        obtain rfl := Option.some.inj h
        exact ⟨rfl, by kernel_rfl⟩
    · refine awp_regionD Try_mixed (orcs := [(3, tB false)]) (gs := [.keep [2] []]) (s' := ⟨[(2, pB false)], []⟩) (by kernel_rfl) (holds_of ((UU ∧ UU ∧ UU ∧ ((UU ∧ some (pB (decide (c.x ≥ (-4096 : Int)))) = some (pB false))) ∧ UU ∧ UU ∧ UU ∧ UU ∧ UU ∧ UU ∧ UU) ∧ (UU ∧ UU)) (by kernel_rfl) ⟨⟨TT, TT, TT, ⟨TT, by rw [k1]⟩, TT, TT, TT, TT, TT, TT, TT⟩, ⟨TT, TT⟩⟩) ?_
      refine Done.mk ?_
      obtain rfl := Option.some.inj h
      exact ⟨rfl, by kernel_rfl⟩
  · have _ := hm
    refine Done.as (e := Exit.normal) (s := ⟨[(2, pB t2)], []⟩) rfl (by kernel_rfl) ?_
    refine Done.mk (thenQ_n ?_)
    refine doneRet ?_
    refine Done.mk ?_
    obtain rfl := Option.some.inj h
    exact ⟨Or.inr rfl, by kernel_rfl, by kernel_rfl⟩
end
end Go.AM
end
section
namespace Go.AM
open Go Go.RowKit Go.Proofs
noncomputable section
noncomputable def track_neighbors (a : Cell) (b : Cell) : Option Bool :=
  chk (InR .i64 (a.x - b.x : Int))
  (chk (InR .i64 (a.y - b.y : Int))
  (chk (InR .i64 ((a.x - b.x) * (a.x - b.x) : Int))
  (chk (InR .i64 ((a.y - b.y) * (a.y - b.y) : Int))
  (chk (InR .i64 (((a.x - b.x) * (a.x - b.x)) + ((a.y - b.y) * (a.y - b.y)) : Int))
  (some ((((a.x - b.x) * (a.x - b.x)) + ((a.y - b.y) * (a.y - b.y)) : Int) == (1 : Int)))))))
set_option maxRecDepth 100000 in
set_option maxHeartbeats 4000000 in
theorem track_neighbors_ok {a : Cell} {b : Cell} {r : Bool} (h : track_neighbors a b = some r) : ASpec Try.prog 23 [.agg [pI a.x, pI a.y], .agg [pI b.x, pI b.y]] [] (pB r) [] := by
  refine aspec_of Try.func23 (c := _) rfl (by kernel_rfl) (by rw [Try.ntmps23]; exact Nat.le_of_ble_eq_true rfl) ?_
  refine awp_seq ?_
  refine awp_regionD Try_mixed (orcs := []) (gs := [.keep [2, 3] [2, 3]]) (s' := ⟨[(2, .ptr 2 0), (3, .ptr 3 0)], [(2, .lit 37 [pI a.x, pI a.y]), (3, .lit 37 [pI b.x, pI b.y])]⟩) (by kernel_rfl) (holds_of ((UU ∧ UU ∧ UU ∧ UU) ∧ (UU ∧ UU)) (by kernel_rfl) ⟨⟨TT, TT, TT, TT⟩, ⟨TT, TT⟩⟩) ?_
  refine Done.mk (thenQ_n ?_)
  refine awp_seq ?_
  refine chk_el h (fun k1 h => ?_)
  refine chk_el h (fun k2 h => ?_)
  refine awp_regionD Try_mixed (orcs := []) (gs := [.keep [5, 6] []]) (s' := ⟨[(5, pI (a.x - b.x)), (6, pI (a.y - b.y))], []⟩) (by kernel_rfl) (holds_of ((UU ∧ UU ∧ UU ∧ UU ∧ (InR .i64 (a.x - b.x : Int)) ∧ UU ∧ UU ∧ UU ∧ UU ∧ (InR .i64 (a.y - b.y : Int)) ∧ UU ∧ UU ∧ UU) ∧ (UU ∧ UU)) (by kernel_rfl) ⟨⟨TT, TT, TT, TT, k1, TT, TT, TT, TT, k2, TT, TT, TT⟩, ⟨TT, TT⟩⟩) ?_
  refine Done.mk (thenQ_n ?_)
  refine awp_seq ?_
  refine chk_el h (fun k3 h => ?_)
  refine chk_el h (fun k4 h => ?_)
  refine chk_el h (fun k5 h => ?_)
  refine awp_regionD Try_mixed (orcs := []) (gs := [.keep [4] []]) (s' := ⟨[(4, pB ((((a.x - b.x) * (a.x - b.x)) + ((a.y - b.y) * (a.y - b.y)) : Int) == (1 : Int)))], []⟩) (by kernel_rfl) (holds_of ((UU ∧ UU ∧ (InR .i64 ((a.x - b.x) * (a.x - b.x) : Int)) ∧ UU ∧ UU ∧ (InR .i64 ((a.y - b.y) * (a.y - b.y) : Int)) ∧ (InR .i64 (((a.x - b.x) * (a.x - b.x)) + ((a.y - b.y) * (a.y - b.y)) : Int)) ∧ UU ∧ UU ∧ UU) ∧ (UU ∧ UU)) (by kernel_rfl) ⟨⟨TT, TT, k3, TT, TT, k4, k5, TT, TT, TT⟩, ⟨TT, TT⟩⟩) ?_
  refine Done.mk (thenQ_n ?_)
  refine doneRet ?_
  refine Done.mk ?_
  obtain rfl := Option.some.inj h
  exact ⟨Or.inr rfl, by kernel_rfl, by kernel_rfl⟩
end
end Go.AM
end
