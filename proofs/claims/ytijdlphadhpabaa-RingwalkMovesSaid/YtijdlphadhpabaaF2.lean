/- Models of functions, and that their calls do what the models say. Printed by gen.py. -/
import Derived.Test.YtijdlphadhpabaaProg
import Derived.Test.YtijdlphadhpabaaA4
import Derived.Test.YtijdlphadhpabaaA3
import Derived.Test.YtijdlphadhpabaaA1
import Derived.Test.YtijdlphadhpabaaA6
import Derived.Test.YtijdlphadhpabaaA8
import Derived.Test.YtijdlphadhpabaaA5
import Derived.Test.YtijdlphadhpabaaA7
import Derived.Test.YtijdlphadhpabaaA2
import Derived.Test.YtijdlphadhpabaaF1
section
namespace Go.AM
open Go Go.RowKit Go.Proofs
noncomputable section
set_option maxRecDepth 100000 in
set_option maxHeartbeats 4000000 in
theorem runs_Valid_ok {l : (List Run)} {r : Bool} (h : runs_Valid l = some r) : ASpec Try.prog 43 [.p (encL Run.cs l)] [] (pB r) [] := by
  refine aspec_of Try.func43 (c := _) rfl (by kernel_rfl) (by rw [Try.ntmps43]; exact Nat.le_of_ble_eq_true rfl) ?_
  refine awp_seq ?_
  refine awp_regionD Try_mixed (orcs := []) (gs := [.keep [0] []]) (s' := ⟨[(0, .p (encL Run.cs l))], []⟩) (by kernel_rfl) (holds_of ((UU ∧ UU) ∧ (UU ∧ UU)) (by kernel_rfl) ⟨⟨TT, TT⟩, ⟨TT, TT⟩⟩) ?_
  refine Done.mk (thenQ_n ?_)
  refine awp_seq ?_
  refine awp_seq ?_
  refine awp_regionD Try_mixed (orcs := []) (gs := [.keep [0, 5, 6, 7] []]) (s' := ⟨[(0, .p (encL Run.cs l)), (5, .p (encL Run.cs l)), (6, pI ((l.length : Int))), (7, pI 0)], []⟩) (by kernel_rfl) (holds_of ((UU ∧ UU ∧ UU ∧ UU) ∧ (UU ∧ UU)) (by kernel_rfl) ⟨⟨TT, TT, TT, TT⟩, ⟨TT, TT⟩⟩) ?_
  refine Done.mk (thenQ_n ?_)
  refine awp_block ?_
  refine bind_el h (fun o hm h => ?_)
  refine awp_gh [.keep [0, 5, 6, 7] [], .keep [0, 5, 6, 7] []] (s' := ⟨[(0, .p (encL Run.cs l)), (5, .p (encL Run.cs l)), (6, pI ((l.length : Int))), (7, pI 0)], []⟩) (by kernel_rfl) (holds_of (UU ∧ UU ∧ UU) (by kernel_rfl) ⟨TT, TT, TT⟩) ?_
  refine awp_tail (fun o => match o with | .inl _ => (Exit.exit 0) | .inr _ => Exit.ret) (fun o => match o with | .inl _ => ⟨[], []⟩ | .inr _ => ⟨[(2, pB false)], []⟩) hm (fun o h => ?_) ?_
  · refine awp_loop' (fun s => match s with | t7 => ⟨[(0, .p (encL Run.cs l)), (5, .p (encL Run.cs l)), (6, pI ((l.length : Int))), (7, pI t7)], []⟩) h (by kernel_rfl) (fun t7 out h => ?_)
    refine awp_seq ?_
    refine awp_regionD Try_mixed (orcs := []) (gs := [.keep [0, 5, 6, 7, 8] []]) (s' := ⟨[(0, .p (encL Run.cs l)), (5, .p (encL Run.cs l)), (6, pI ((l.length : Int))), (7, pI t7), (8, pB (decide (t7 < (l.length : Int))))], []⟩) (by kernel_rfl) (holds_of ((UU ∧ UU) ∧ (UU ∧ UU)) (by kernel_rfl) ⟨⟨TT, TT⟩, ⟨TT, TT⟩⟩) ?_
    refine Done.mk (thenQ_n ?_)
    refine awp_seq ?_
    refine ifB_el h (fun k1 h => ?_) (fun k1 h => ?_)
    · refine awp_cond_t (b := decide (t7 < (l.length : Int))) (by kernel_rfl) k1 ?_
      refine doneSkip ?_
      refine Done.mk (thenQ_n ?_)
      refine awp_seq ?_
      refine awp_block ?_
      refine awp_seq ?_
      refine bind_el h (fun r_ k2 h => ?_)
      replace k2 := getI_el k2
      refine awp_regionD Try_mixed (orcs := [(2, tV (.agg [pI r_.frm, pI r_.to]))]) (gs := [.keep [0, 3, 4, 5, 6, 7] [4]]) (s' := ⟨[(0, .p (encL Run.cs l)), (3, pI t7), (4, .ptr 4 0), (5, .p (encL Run.cs l)), (6, pI ((l.length : Int))), (7, pI t7)], [(4, .lit 57 [pI r_.frm, pI r_.to])]⟩) (by kernel_rfl) (holds_of ((UU ∧ ((0 ≤ t7 ∧ t7 < (l.length : Int))) ∧ (rowHas (l.flatMap Run.cs) (t7.toNat * 2) [pI r_.frm, pI r_.to]) ∧ UU ∧ UU ∧ UU ∧ UU) ∧ (UU ∧ UU)) (by kernel_rfl) ⟨⟨TT, k2.2, row_has Run.cs_len k2.1 (o := 0) (m := 2) (by omega) (by decide), TT, TT, TT, TT⟩, ⟨TT, TT⟩⟩) ?_
      refine Done.mk (thenQ_n ?_)
      refine awp_seq ?_
      refine bind_el h (fun t36 hm h => ?_)
      refine awp_tail (fun _ => Exit.normal) (fun o => match o with | t36 => ⟨[(0, .p (encL Run.cs l)), (5, .p (encL Run.cs l)), (6, pI ((l.length : Int))), (7, pI t7), (36, pB t36)], []⟩) hm (fun o h => ?_) ?_
      · refine ifB_el h (fun k3 h => ?_) (fun k3 h => ?_)
        · refine awp_regionD Try_mixed (orcs := [(5, tB true)]) (gs := [.keep [0, 5, 6, 7, 36] []]) (s' := ⟨[(0, .p (encL Run.cs l)), (5, .p (encL Run.cs l)), (6, pI ((l.length : Int))), (7, pI t7), (36, pB true)], []⟩) (by kernel_rfl) (holds_of ((UU ∧ UU ∧ UU ∧ UU ∧ UU ∧ ((UU ∧ some (pB (decide (r_.frm ≥ r_.to))) = some (pB true))) ∧ UU ∧ UU ∧ UU ∧ UU) ∧ (UU ∧ UU)) (by kernel_rfl) ⟨⟨TT, TT, TT, TT, TT, ⟨TT, by rw [k3]⟩, TT, TT, TT, TT⟩, ⟨TT, TT⟩⟩) ?_
          refine Done.mk ?_
          obtain rfl := Option.some.inj h
          exact ⟨rfl, by kernel_rfl⟩
        · refine bind_el h (fun b k4 h => ?_)
          refine ifB_el h (fun k5 h => ?_) (fun k5 h => ?_)
          · refine awp_regionD Try_mixed (orcs := [(5, tB false), (7, tV (pB b)), (10, tB true)]) (gs := [.keep [0, 5, 6, 7, 36] []]) (s' := ⟨[(0, .p (encL Run.cs l)), (5, .p (encL Run.cs l)), (6, pI ((l.length : Int))), (7, pI t7), (36, pB true)], []⟩) (by kernel_rfl) (holds_of ((UU ∧ UU ∧ UU ∧ UU ∧ UU ∧ ((UU ∧ some (pB (decide (r_.frm ≥ r_.to))) = some (pB false))) ∧ UU ∧ (ASpec Try.prog 60 [.agg [pI r_.frm, pI r_.to]] [] (pB b) []) ∧ UU ∧ UU ∧ ((UU ∧ some (pB (!b)) = some (pB true))) ∧ UU ∧ UU) ∧ (UU ∧ UU)) (by kernel_rfl) ⟨⟨TT, TT, TT, TT, TT, ⟨TT, by rw [k3]⟩, TT, runs_fits_ok k4, TT, TT, ⟨TT, by rw [k5]⟩, TT, TT⟩, ⟨TT, TT⟩⟩) ?_
            refine Done.mk ?_
            obtain rfl := Option.some.inj h
            exact ⟨rfl, by kernel_rfl⟩
          · refine ifB_el h (fun k6 h => ?_) (fun k6 h => ?_)
            · refine chk_el h (fun k7 h => ?_)
              refine bind_el h (fun r_1 k8 h => ?_)
              replace k8 := getI_el k8
              refine awp_regionD Try_mixed (orcs := [(5, tB false), (7, tV (pB b)), (10, tB false), (13, tB true), (21, tV (pI r_1.to))]) (gs := [.keep [0, 5, 6, 7, 36] []]) (s' := ⟨[(0, .p (encL Run.cs l)), (5, .p (encL Run.cs l)), (6, pI ((l.length : Int))), (7, pI t7), (36, pB (decide (r_.frm ≤ r_1.to)))], []⟩) (by kernel_rfl) (holds_of ((UU ∧ UU ∧ UU ∧ UU ∧ UU ∧ ((UU ∧ some (pB (decide (r_.frm ≥ r_.to))) = some (pB false))) ∧ UU ∧ (ASpec Try.prog 60 [.agg [pI r_.frm, pI r_.to]] [] (pB b) []) ∧ UU ∧ UU ∧ ((UU ∧ some (pB (!b)) = some (pB false))) ∧ UU ∧ UU ∧ ((UU ∧ some (pB (decide (t7 > (0 : Int)))) = some (pB true))) ∧ UU ∧ UU ∧ UU ∧ UU ∧ (InR .i64 (t7 - 1 : Int)) ∧ ((0 ≤ (t7 - 1 : Int) ∧ (t7 - 1 : Int) < (l.length : Int))) ∧ UU ∧ ((l.flatMap Run.cs)[(t7 - 1 : Int).toNat * 2 + 1]? = some (vI r_1.to)) ∧ UU ∧ UU ∧ UU ∧ UU) ∧ (UU ∧ UU)) (by kernel_rfl) ⟨⟨TT, TT, TT, TT, TT, ⟨TT, by rw [k3]⟩, TT, runs_fits_ok k4, TT, TT, ⟨TT, by rw [k5]⟩, TT, TT, ⟨TT, by rw [k6]⟩, TT, TT, TT, TT, k7, k8.2, TT, row_at Run.cs_len k8.1 (j := 1) (by omega) (by decide), TT, TT, TT, TT⟩, ⟨TT, TT⟩⟩) ?_
              refine Done.mk ?_
              obtain rfl := Option.some.inj h
              exact ⟨rfl, by kernel_rfl⟩
            · refine awp_regionD Try_mixed (orcs := [(5, tB false), (7, tV (pB b)), (10, tB false), (13, tB false)]) (gs := [.keep [0, 5, 6, 7, 36] []]) (s' := ⟨[(0, .p (encL Run.cs l)), (5, .p (encL Run.cs l)), (6, pI ((l.length : Int))), (7, pI t7), (36, pB false)], []⟩) (by kernel_rfl) (holds_of ((UU ∧ UU ∧ UU ∧ UU ∧ UU ∧ ((UU ∧ some (pB (decide (r_.frm ≥ r_.to))) = some (pB false))) ∧ UU ∧ (ASpec Try.prog 60 [.agg [pI r_.frm, pI r_.to]] [] (pB b) []) ∧ UU ∧ UU ∧ ((UU ∧ some (pB (!b)) = some (pB false))) ∧ UU ∧ UU ∧ ((UU ∧ some (pB (decide (t7 > (0 : Int)))) = some (pB false))) ∧ UU ∧ UU ∧ UU) ∧ (UU ∧ UU)) (by kernel_rfl) ⟨⟨TT, TT, TT, TT, TT, ⟨TT, by rw [k3]⟩, TT, runs_fits_ok k4, TT, TT, ⟨TT, by rw [k5]⟩, TT, TT, ⟨TT, by rw [k6]⟩, TT, TT, TT⟩, ⟨TT, TT⟩⟩) ?_
              refine Done.mk ?_
              obtain rfl := Option.some.inj h
              exact ⟨rfl, by kernel_rfl⟩
      · have _ := hm
        refine Done.as (e := Exit.normal) (s := ⟨[(0, .p (encL Run.cs l)), (5, .p (encL Run.cs l)), (6, pI ((l.length : Int))), (7, pI t7), (36, pB t36)], []⟩) rfl (by kernel_rfl) ?_
        refine Done.mk (thenQ_n ?_)
        refine ifB_el h (fun k9 h => ?_) (fun k9 h => ?_)
        · refine awp_cond_t (b := t36) (by kernel_rfl) k9 ?_
          refine awp_seq ?_
          refine awp_regionD Try_mixed (orcs := []) (gs := [.keep [2] []]) (s' := ⟨[(2, pB false)], []⟩) (by kernel_rfl) (holds_of ((UU ∧ UU) ∧ (UU ∧ UU)) (by kernel_rfl) ⟨⟨TT, TT⟩, ⟨TT, TT⟩⟩) ?_
          refine Done.mk (thenQ_n ?_)
          refine doneRet ?_
          refine Done.mk (inB_r (thenQ_r ?_))
          obtain rfl := Option.some.inj h
          exact ⟨fun q => (by cases q), fun q => (by subst q; exact ⟨rfl, by kernel_rfl⟩)⟩
        · refine awp_cond_f (b := t36) (by kernel_rfl) k9 ?_
          refine doneSkip ?_
          refine Done.mk (inB_n (thenQ_n ?_))
          refine chk_el h (fun k10 h => ?_)
          refine awp_regionD Try_mixed (orcs := []) (gs := [.keep [0, 5, 6, 7] []]) (s' := ⟨[(0, .p (encL Run.cs l)), (5, .p (encL Run.cs l)), (6, pI ((l.length : Int))), (7, pI (t7 + 1))], []⟩) (by kernel_rfl) (holds_of (((InR .i64 (t7 + 1 : Int)) ∧ UU ∧ UU) ∧ (UU ∧ UU)) (by kernel_rfl) ⟨⟨k10, TT, TT⟩, ⟨TT, TT⟩⟩) ?_
          refine Done.mk ?_
          obtain rfl := Option.some.inj h
          exact ⟨rfl, by kernel_rfl⟩
    · refine awp_cond_f (b := decide (t7 < (l.length : Int))) (by kernel_rfl) k1 ?_
      refine doneExit ?_
      refine Done.gh [.keep [] [], .keep [] []] (s' := ⟨[], []⟩) (by kernel_rfl) (holds_of (UU ∧ UU ∧ UU) (by kernel_rfl) ⟨TT, TT, TT⟩) ?_
      refine Done.mk (thenQ_x ?_)
      obtain rfl := Option.some.inj h
      exact ⟨fun q => (by cases q), fun q => (by subst q; exact ⟨rfl, by kernel_rfl⟩)⟩
  · rcases o with _u | _u
    · refine Done.as (e := (Exit.exit 0)) (s := ⟨[], []⟩) rfl (by kernel_rfl) ?_
      refine Done.mk (inB_hit (thenQ_n ?_))
      refine awp_seq ?_
      refine awp_regionD Try_mixed (orcs := []) (gs := [.keep [2] []]) (s' := ⟨[(2, pB true)], []⟩) (by kernel_rfl) (holds_of ((UU ∧ UU) ∧ (UU ∧ UU)) (by kernel_rfl) ⟨⟨TT, TT⟩, ⟨TT, TT⟩⟩) ?_
      refine Done.mk (thenQ_n ?_)
      refine doneRet ?_
      refine Done.mk ?_
      obtain rfl := Option.some.inj h
      exact ⟨Or.inr rfl, by kernel_rfl, by kernel_rfl⟩
    · refine Done.as (e := Exit.ret) (s := ⟨[(2, pB false)], []⟩) rfl (by kernel_rfl) ?_
      refine Done.mk (inB_r (thenQ_r ?_))
      obtain rfl := Option.some.inj h
      exact ⟨Or.inr rfl, by kernel_rfl, by kernel_rfl⟩
end
end Go.AM
end
section
namespace Go.AM
open Go Go.RowKit Go.Proofs
noncomputable section
set_option maxRecDepth 100000 in
set_option maxHeartbeats 4000000 in
theorem region_Valid_ok {t0 : Region} {r : Bool} (h : region_Valid t0 = some r) : ASpec Try.prog 24 [.agg [.p (encL Row.cs t0.rows)]] [] (pB r) [] := by
  refine aspec_of Try.func24 (c := _) rfl (by kernel_rfl) (by rw [Try.ntmps24]; exact Nat.le_of_ble_eq_true rfl) ?_
  refine awp_seq ?_
  refine awp_regionD Try_mixed (orcs := []) (gs := [.keep [1] [1]]) (s' := ⟨[(1, .ptr 1 0)], [(1, .lit 24 [.p (encL Row.cs t0.rows)])]⟩) (by kernel_rfl) (holds_of ((UU ∧ UU ∧ UU) ∧ (UU ∧ UU)) (by kernel_rfl) ⟨⟨TT, TT, TT⟩, ⟨TT, TT⟩⟩) ?_
  refine Done.mk (thenQ_n ?_)
  refine awp_seq ?_
  refine awp_seq ?_
  refine awp_regionD Try_mixed (orcs := []) (gs := [.keep [1, 6, 7, 8] [1]]) (s' := ⟨[(1, .ptr 1 0), (6, .p (encL Row.cs t0.rows)), (7, pI ((t0.rows.length : Int))), (8, pI 0)], [(1, .lit 24 [.p (encL Row.cs t0.rows)])]⟩) (by kernel_rfl) (holds_of ((UU ∧ UU ∧ UU ∧ UU ∧ UU) ∧ (UU ∧ UU)) (by kernel_rfl) ⟨⟨TT, TT, TT, TT, TT⟩, ⟨TT, TT⟩⟩) ?_
  refine Done.mk (thenQ_n ?_)
  refine awp_block ?_
  refine bind_el h (fun o hm h => ?_)
  refine awp_gh [.keep [1, 6, 7, 8] [1], .keep [1, 6, 7, 8] [1]] (s' := ⟨[(1, .ptr 1 0), (6, .p (encL Row.cs t0.rows)), (7, pI ((t0.rows.length : Int))), (8, pI 0)], [(1, .lit 24 [.p (encL Row.cs t0.rows)])]⟩) (by kernel_rfl) (holds_of (UU ∧ UU ∧ UU) (by kernel_rfl) ⟨TT, TT, TT⟩) ?_
  refine awp_tail (fun o => match o with | .inl _ => (Exit.exit 0) | .inr _ => Exit.ret) (fun o => match o with | .inl _ => ⟨[], []⟩ | .inr _ => ⟨[(2, pB false)], []⟩) hm (fun o h => ?_) ?_
  · refine awp_loop' (fun s => match s with | t8 => ⟨[(1, .ptr 1 0), (6, .p (encL Row.cs t0.rows)), (7, pI ((t0.rows.length : Int))), (8, pI t8)], [(1, .lit 24 [.p (encL Row.cs t0.rows)])]⟩) h (by kernel_rfl) (fun t8 out h => ?_)
    refine awp_seq ?_
    refine awp_regionD Try_mixed (orcs := []) (gs := [.keep [1, 6, 7, 8, 9] [1]]) (s' := ⟨[(1, .ptr 1 0), (6, .p (encL Row.cs t0.rows)), (7, pI ((t0.rows.length : Int))), (8, pI t8), (9, pB (decide (t8 < (t0.rows.length : Int))))], [(1, .lit 24 [.p (encL Row.cs t0.rows)])]⟩) (by kernel_rfl) (holds_of ((UU ∧ UU) ∧ (UU ∧ UU)) (by kernel_rfl) ⟨⟨TT, TT⟩, ⟨TT, TT⟩⟩) ?_
    refine Done.mk (thenQ_n ?_)
    refine awp_seq ?_
    refine ifB_el h (fun k1 h => ?_) (fun k1 h => ?_)
    · refine awp_cond_t (b := decide (t8 < (t0.rows.length : Int))) (by kernel_rfl) k1 ?_
      refine doneSkip ?_
      refine Done.mk (thenQ_n ?_)
      refine awp_seq ?_
      refine awp_block ?_
      refine awp_seq ?_
      refine bind_el h (fun r_ k2 h => ?_)
      replace k2 := getI_el k2
      refine awp_regionD Try_mixed (orcs := [(2, tV (.agg [pI r_.y, .p (encL Run.cs r_.runs)]))]) (gs := [.keep [1, 3, 4, 6, 7, 8] [1, 4]]) (s' := ⟨[(1, .ptr 1 0), (3, pI t8), (4, .ptr 4 0), (6, .p (encL Row.cs t0.rows)), (7, pI ((t0.rows.length : Int))), (8, pI t8)], [(1, .lit 24 [.p (encL Row.cs t0.rows)]), (4, .lit 48 [pI r_.y, .p (encL Run.cs r_.runs)])]⟩) (by kernel_rfl) (holds_of ((UU ∧ ((0 ≤ t8 ∧ t8 < (t0.rows.length : Int))) ∧ (rowHas (t0.rows.flatMap Row.cs) (t8.toNat * 2) [pI r_.y, .p (encL Run.cs r_.runs)]) ∧ UU ∧ UU ∧ UU ∧ UU) ∧ (UU ∧ UU)) (by kernel_rfl) ⟨⟨TT, k2.2, row_has Row.cs_len k2.1 (o := 0) (m := 2) (by omega) (by decide), TT, TT, TT, TT⟩, ⟨TT, TT⟩⟩) ?_
      refine Done.mk (thenQ_n ?_)
      refine awp_seq ?_
      refine awp_seq ?_
      refine bind_el h (fun t44 hm h => ?_)
      refine awp_tail (fun _ => Exit.normal) (fun o => match o with | t44 => ⟨[(1, .ptr 1 0), (4, .ptr 4 0), (6, .p (encL Row.cs t0.rows)), (7, pI ((t0.rows.length : Int))), (8, pI t8), (44, pB t44)], [(1, .lit 24 [.p (encL Row.cs t0.rows)]), (4, .lit 48 [pI r_.y, .p (encL Run.cs r_.runs)])]⟩) hm (fun o h => ?_) ?_
      · refine bind_el h (fun b k3 h => ?_)
        refine ifB_el h (fun k4 h => ?_) (fun k4 h => ?_)
        · refine awp_regionD Try_mixed (orcs := [(2, tV (pB b)), (4, tB true)]) (gs := [.keep [1, 4, 6, 7, 8, 44] [1, 4]]) (s' := ⟨[(1, .ptr 1 0), (4, .ptr 4 0), (6, .p (encL Row.cs t0.rows)), (7, pI ((t0.rows.length : Int))), (8, pI t8), (44, pB true)], [(1, .lit 24 [.p (encL Row.cs t0.rows)]), (4, .lit 48 [pI r_.y, .p (encL Run.cs r_.runs)])]⟩) (by kernel_rfl) (holds_of ((UU ∧ UU ∧ (ASpec Try.prog 31 [pI r_.y] [] (pB b) []) ∧ UU ∧ ((UU ∧ some (pB (!b)) = some (pB true))) ∧ UU ∧ UU ∧ UU ∧ UU ∧ UU ∧ UU) ∧ (UU ∧ UU)) (by kernel_rfl) ⟨⟨TT, TT, region_ok_ok k3, TT, ⟨TT, by rw [k4]⟩, TT, TT, TT, TT, TT, TT⟩, ⟨TT, TT⟩⟩) ?_
          refine Done.mk ?_
          obtain rfl := Option.some.inj h
          exact ⟨rfl, by kernel_rfl⟩
        · refine ifB_el h (fun k5 h => ?_) (fun k5 h => ?_)
          · refine chk_el h (fun k6 h => ?_)
            refine bind_el h (fun r_1 k7 h => ?_)
            replace k7 := getI_el k7
            refine ifB_el h (fun k8 h => ?_) (fun k8 h => ?_)
            · refine awp_regionD Try_mixed (orcs := [(2, tV (pB b)), (4, tB false), (7, tB true), (16, tV (pI r_1.y)), (20, tB true)]) (gs := [.keep [1, 4, 6, 7, 8, 44] [1, 4]]) (s' := ⟨[(1, .ptr 1 0), (4, .ptr 4 0), (6, .p (encL Row.cs t0.rows)), (7, pI ((t0.rows.length : Int))), (8, pI t8), (44, pB true)], [(1, .lit 24 [.p (encL Row.cs t0.rows)]), (4, .lit 48 [pI r_.y, .p (encL Run.cs r_.runs)])]⟩) (by kernel_rfl) (holds_of ((UU ∧ UU ∧ (ASpec Try.prog 31 [pI r_.y] [] (pB b) []) ∧ UU ∧ ((UU ∧ some (pB (!b)) = some (pB false))) ∧ UU ∧ UU ∧ ((UU ∧ some (pB (decide (t8 > (0 : Int)))) = some (pB true))) ∧ UU ∧ UU ∧ UU ∧ UU ∧ UU ∧ (InR .i64 (t8 - 1 : Int)) ∧ ((0 ≤ (t8 - 1 : Int) ∧ (t8 - 1 : Int) < (t0.rows.length : Int))) ∧ UU ∧ ((t0.rows.flatMap Row.cs)[(t8 - 1 : Int).toNat * 2]? = some (vI r_1.y)) ∧ UU ∧ UU ∧ UU ∧ ((UU ∧ some (pB (decide (r_.y ≤ r_1.y))) = some (pB true))) ∧ UU ∧ UU ∧ UU ∧ UU) ∧ (UU ∧ UU)) (by kernel_rfl) ⟨⟨TT, TT, region_ok_ok k3, TT, ⟨TT, by rw [k4]⟩, TT, TT, ⟨TT, by rw [k5]⟩, TT, TT, TT, TT, TT, k6, k7.2, TT, row_at Row.cs_len k7.1 (j := 0) (by omega) (by decide), TT, TT, TT, ⟨TT, by rw [k8]⟩, TT, TT, TT, TT⟩, ⟨TT, TT⟩⟩) ?_
              refine Done.mk ?_
              obtain rfl := Option.some.inj h
              exact ⟨rfl, by kernel_rfl⟩
            · refine ifB_el h (fun k9 h => ?_) (fun k9 h => ?_)
              · refine awp_regionD Try_mixed (orcs := [(2, tV (pB b)), (4, tB false), (7, tB true), (16, tV (pI r_1.y)), (20, tB false), (26, tB true)]) (gs := [.keep [1, 4, 6, 7, 8, 44] [1, 4]]) (s' := ⟨[(1, .ptr 1 0), (4, .ptr 4 0), (6, .p (encL Row.cs t0.rows)), (7, pI ((t0.rows.length : Int))), (8, pI t8), (44, pB true)], [(1, .lit 24 [.p (encL Row.cs t0.rows)]), (4, .lit 48 [pI r_.y, .p (encL Run.cs r_.runs)])]⟩) (by kernel_rfl) (holds_of ((UU ∧ UU ∧ (ASpec Try.prog 31 [pI r_.y] [] (pB b) []) ∧ UU ∧ ((UU ∧ some (pB (!b)) = some (pB false))) ∧ UU ∧ UU ∧ ((UU ∧ some (pB (decide (t8 > (0 : Int)))) = some (pB true))) ∧ UU ∧ UU ∧ UU ∧ UU ∧ UU ∧ (InR .i64 (t8 - 1 : Int)) ∧ ((0 ≤ (t8 - 1 : Int) ∧ (t8 - 1 : Int) < (t0.rows.length : Int))) ∧ UU ∧ ((t0.rows.flatMap Row.cs)[(t8 - 1 : Int).toNat * 2]? = some (vI r_1.y)) ∧ UU ∧ UU ∧ UU ∧ ((UU ∧ some (pB (decide (r_.y ≤ r_1.y))) = some (pB false))) ∧ UU ∧ UU ∧ UU ∧ UU ∧ UU ∧ ((UU ∧ some (pB ((r_.runs.length : Int) == (0 : Int))) = some (pB true))) ∧ UU ∧ UU) ∧ (UU ∧ UU)) (by kernel_rfl) ⟨⟨TT, TT, region_ok_ok k3, TT, ⟨TT, by rw [k4]⟩, TT, TT, ⟨TT, by rw [k5]⟩, TT, TT, TT, TT, TT, k6, k7.2, TT, row_at Row.cs_len k7.1 (j := 0) (by omega) (by decide), TT, TT, TT, ⟨TT, by rw [k8]⟩, TT, TT, TT, TT, TT, ⟨TT, by rw [k9]⟩, TT, TT⟩, ⟨TT, TT⟩⟩) ?_
                refine Done.mk ?_
                obtain rfl := Option.some.inj h
                exact ⟨rfl, by kernel_rfl⟩
              · refine bind_el h (fun b1 k10 h => ?_)
                refine awp_regionD Try_mixed (orcs := [(2, tV (pB b)), (4, tB false), (7, tB true), (16, tV (pI r_1.y)), (20, tB false), (26, tB false), (29, tV (pB b1))]) (gs := [.keep [1, 4, 6, 7, 8, 44] [1, 4]]) (s' := ⟨[(1, .ptr 1 0), (4, .ptr 4 0), (6, .p (encL Row.cs t0.rows)), (7, pI ((t0.rows.length : Int))), (8, pI t8), (44, pB (!b1))], [(1, .lit 24 [.p (encL Row.cs t0.rows)]), (4, .lit 48 [pI r_.y, .p (encL Run.cs r_.runs)])]⟩) (by kernel_rfl) (holds_of ((UU ∧ UU ∧ (ASpec Try.prog 31 [pI r_.y] [] (pB b) []) ∧ UU ∧ ((UU ∧ some (pB (!b)) = some (pB false))) ∧ UU ∧ UU ∧ ((UU ∧ some (pB (decide (t8 > (0 : Int)))) = some (pB true))) ∧ UU ∧ UU ∧ UU ∧ UU ∧ UU ∧ (InR .i64 (t8 - 1 : Int)) ∧ ((0 ≤ (t8 - 1 : Int) ∧ (t8 - 1 : Int) < (t0.rows.length : Int))) ∧ UU ∧ ((t0.rows.flatMap Row.cs)[(t8 - 1 : Int).toNat * 2]? = some (vI r_1.y)) ∧ UU ∧ UU ∧ UU ∧ ((UU ∧ some (pB (decide (r_.y ≤ r_1.y))) = some (pB false))) ∧ UU ∧ UU ∧ UU ∧ UU ∧ UU ∧ ((UU ∧ some (pB ((r_.runs.length : Int) == (0 : Int))) = some (pB false))) ∧ UU ∧ UU ∧ (ASpec Try.prog 43 [.p (encL Run.cs r_.runs)] [] (pB b1) []) ∧ UU ∧ UU ∧ UU) ∧ (UU ∧ UU)) (by kernel_rfl) ⟨⟨TT, TT, region_ok_ok k3, TT, ⟨TT, by rw [k4]⟩, TT, TT, ⟨TT, by rw [k5]⟩, TT, TT, TT, TT, TT, k6, k7.2, TT, row_at Row.cs_len k7.1 (j := 0) (by omega) (by decide), TT, TT, TT, ⟨TT, by rw [k8]⟩, TT, TT, TT, TT, TT, ⟨TT, by rw [k9]⟩, TT, TT, runs_Valid_ok k10, TT, TT, TT⟩, ⟨TT, TT⟩⟩) ?_
                refine Done.mk ?_
                obtain rfl := Option.some.inj h
                exact ⟨rfl, by kernel_rfl⟩
          · refine ifB_el h (fun k11 h => ?_) (fun k11 h => ?_)
            · refine awp_regionD Try_mixed (orcs := [(2, tV (pB b)), (4, tB false), (7, tB false), (26, tB true)]) (gs := [.keep [1, 4, 6, 7, 8, 44] [1, 4]]) (s' := ⟨[(1, .ptr 1 0), (4, .ptr 4 0), (6, .p (encL Row.cs t0.rows)), (7, pI ((t0.rows.length : Int))), (8, pI t8), (44, pB true)], [(1, .lit 24 [.p (encL Row.cs t0.rows)]), (4, .lit 48 [pI r_.y, .p (encL Run.cs r_.runs)])]⟩) (by kernel_rfl) (holds_of ((UU ∧ UU ∧ (ASpec Try.prog 31 [pI r_.y] [] (pB b) []) ∧ UU ∧ ((UU ∧ some (pB (!b)) = some (pB false))) ∧ UU ∧ UU ∧ ((UU ∧ some (pB (decide (t8 > (0 : Int)))) = some (pB false))) ∧ UU ∧ UU ∧ UU ∧ UU ∧ UU ∧ UU ∧ UU ∧ UU ∧ ((UU ∧ some (pB ((r_.runs.length : Int) == (0 : Int))) = some (pB true))) ∧ UU ∧ UU) ∧ (UU ∧ UU)) (by kernel_rfl) ⟨⟨TT, TT, region_ok_ok k3, TT, ⟨TT, by rw [k4]⟩, TT, TT, ⟨TT, by rw [k5]⟩, TT, TT, TT, TT, TT, TT, TT, TT, ⟨TT, by rw [k11]⟩, TT, TT⟩, ⟨TT, TT⟩⟩) ?_
              refine Done.mk ?_
              obtain rfl := Option.some.inj h
              exact ⟨rfl, by kernel_rfl⟩
            · refine bind_el h (fun b2 k12 h => ?_)
              refine awp_regionD Try_mixed (orcs := [(2, tV (pB b)), (4, tB false), (7, tB false), (26, tB false), (29, tV (pB b2))]) (gs := [.keep [1, 4, 6, 7, 8, 44] [1, 4]]) (s' := ⟨[(1, .ptr 1 0), (4, .ptr 4 0), (6, .p (encL Row.cs t0.rows)), (7, pI ((t0.rows.length : Int))), (8, pI t8), (44, pB (!b2))], [(1, .lit 24 [.p (encL Row.cs t0.rows)]), (4, .lit 48 [pI r_.y, .p (encL Run.cs r_.runs)])]⟩) (by kernel_rfl) (holds_of ((UU ∧ UU ∧ (ASpec Try.prog 31 [pI r_.y] [] (pB b) []) ∧ UU ∧ ((UU ∧ some (pB (!b)) = some (pB false))) ∧ UU ∧ UU ∧ ((UU ∧ some (pB (decide (t8 > (0 : Int)))) = some (pB false))) ∧ UU ∧ UU ∧ UU ∧ UU ∧ UU ∧ UU ∧ UU ∧ UU ∧ ((UU ∧ some (pB ((r_.runs.length : Int) == (0 : Int))) = some (pB false))) ∧ UU ∧ UU ∧ (ASpec Try.prog 43 [.p (encL Run.cs r_.runs)] [] (pB b2) []) ∧ UU ∧ UU ∧ UU) ∧ (UU ∧ UU)) (by kernel_rfl) ⟨⟨TT, TT, region_ok_ok k3, TT, ⟨TT, by rw [k4]⟩, TT, TT, ⟨TT, by rw [k5]⟩, TT, TT, TT, TT, TT, TT, TT, TT, ⟨TT, by rw [k11]⟩, TT, TT, runs_Valid_ok k12, TT, TT, TT⟩, ⟨TT, TT⟩⟩) ?_
              refine Done.mk ?_
              obtain rfl := Option.some.inj h
              exact ⟨rfl, by kernel_rfl⟩
      · have _ := hm
        refine Done.as (e := Exit.normal) (s := ⟨[(1, .ptr 1 0), (4, .ptr 4 0), (6, .p (encL Row.cs t0.rows)), (7, pI ((t0.rows.length : Int))), (8, pI t8), (44, pB t44)], [(1, .lit 24 [.p (encL Row.cs t0.rows)]), (4, .lit 48 [pI r_.y, .p (encL Run.cs r_.runs)])]⟩) rfl (by kernel_rfl) ?_
        refine Done.mk (thenQ_n ?_)
        refine ifB_el h (fun k13 h => ?_) (fun k13 h => ?_)
        · refine awp_cond_t (b := t44) (by kernel_rfl) k13 ?_
          refine awp_seq ?_
          refine awp_regionD Try_mixed (orcs := []) (gs := [.keep [2] []]) (s' := ⟨[(2, pB false)], []⟩) (by kernel_rfl) (holds_of ((UU ∧ UU) ∧ (UU ∧ UU)) (by kernel_rfl) ⟨⟨TT, TT⟩, ⟨TT, TT⟩⟩) ?_
          refine Done.mk (thenQ_n ?_)
          refine doneRet ?_
          refine Done.mk (thenQ_r (inB_r (thenQ_r ?_)))
          obtain rfl := Option.some.inj h
          exact ⟨fun q => (by cases q), fun q => (by subst q; exact ⟨rfl, by kernel_rfl⟩)⟩
        · refine awp_cond_f (b := t44) (by kernel_rfl) k13 ?_
          refine doneSkip ?_
          refine Done.mk (thenQ_n ?_)
          refine awp_seq ?_
          refine bind_el h (fun t65 hm h => ?_)
          refine awp_tail (fun _ => Exit.normal) (fun o => match o with | t65 => ⟨[(1, .ptr 1 0), (6, .p (encL Row.cs t0.rows)), (7, pI ((t0.rows.length : Int))), (8, pI t8), (65, pB t65)], [(1, .lit 24 [.p (encL Row.cs t0.rows)])]⟩) hm (fun o h => ?_) ?_
          · refine bind_el h (fun r_2 k14 h => ?_)
            replace k14 := getI_el k14
            refine bind_el h (fun b3 k15 h => ?_)
            refine ifB_el h (fun k16 h => ?_) (fun k16 h => ?_)
            · refine awp_regionD Try_mixed (orcs := [(4, tV (pI r_2.frm)), (5, tV (pB b3)), (7, tB true)]) (gs := [.keep [1, 6, 7, 8, 65] [1]]) (s' := ⟨[(1, .ptr 1 0), (6, .p (encL Row.cs t0.rows)), (7, pI ((t0.rows.length : Int))), (8, pI t8), (65, pB true)], [(1, .lit 24 [.p (encL Row.cs t0.rows)])]⟩) (by kernel_rfl) (holds_of ((UU ∧ UU ∧ ((0 ≤ (0 : Int) ∧ (0 : Int) < (r_.runs.length : Int))) ∧ UU ∧ ((r_.runs.flatMap Run.cs)[(0 : Int).toNat * 2]? = some (vI r_2.frm)) ∧ (ASpec Try.prog 31 [pI r_2.frm] [] (pB b3) []) ∧ UU ∧ ((UU ∧ some (pB (!b3)) = some (pB true))) ∧ UU ∧ UU) ∧ (UU ∧ UU)) (by kernel_rfl) ⟨⟨TT, TT, k14.2, TT, row_at Run.cs_len k14.1 (j := 0) (by omega) (by decide), region_ok_ok k15, TT, ⟨TT, by rw [k16]⟩, TT, TT⟩, ⟨TT, TT⟩⟩) ?_
              refine Done.mk ?_
              obtain rfl := Option.some.inj h
              exact ⟨rfl, by kernel_rfl⟩
            · refine chk_el h (fun k17 h => ?_)
              refine bind_el h (fun r_3 k18 h => ?_)
              replace k18 := getI_el k18
              refine chk_el h (fun k19 h => ?_)
              refine bind_el h (fun b4 k20 h => ?_)
              refine awp_regionD Try_mixed (orcs := [(4, tV (pI r_2.frm)), (5, tV (pB b3)), (7, tB false), (16, tV (pI r_3.to)), (18, tV (pB b4))]) (gs := [.keep [1, 6, 7, 8, 65] [1]]) (s' := ⟨[(1, .ptr 1 0), (6, .p (encL Row.cs t0.rows)), (7, pI ((t0.rows.length : Int))), (8, pI t8), (65, pB (!b4))], [(1, .lit 24 [.p (encL Row.cs t0.rows)])]⟩) (by kernel_rfl) (holds_of ((UU ∧ UU ∧ ((0 ≤ (0 : Int) ∧ (0 : Int) < (r_.runs.length : Int))) ∧ UU ∧ ((r_.runs.flatMap Run.cs)[(0 : Int).toNat * 2]? = some (vI r_2.frm)) ∧ (ASpec Try.prog 31 [pI r_2.frm] [] (pB b3) []) ∧ UU ∧ ((UU ∧ some (pB (!b3)) = some (pB false))) ∧ UU ∧ UU ∧ UU ∧ UU ∧ UU ∧ (InR .i64 (((r_.runs.length : Int)) - 1 : Int)) ∧ ((0 ≤ (((r_.runs.length : Int)) - 1 : Int) ∧ (((r_.runs.length : Int)) - 1 : Int) < (r_.runs.length : Int))) ∧ UU ∧ ((r_.runs.flatMap Run.cs)[(((r_.runs.length : Int)) - 1 : Int).toNat * 2 + 1]? = some (vI r_3.to)) ∧ (InR .i64 (r_3.to - 1 : Int)) ∧ (ASpec Try.prog 31 [pI (r_3.to - 1)] [] (pB b4) []) ∧ UU ∧ UU ∧ UU) ∧ (UU ∧ UU)) (by kernel_rfl) ⟨⟨TT, TT, k14.2, TT, row_at Run.cs_len k14.1 (j := 0) (by omega) (by decide), region_ok_ok k15, TT, ⟨TT, by rw [k16]⟩, TT, TT, TT, TT, TT, k17, k18.2, TT, row_at Run.cs_len k18.1 (j := 1) (by omega) (by decide), k19, region_ok_ok k20, TT, TT, TT⟩, ⟨TT, TT⟩⟩) ?_
              refine Done.mk ?_
              obtain rfl := Option.some.inj h
              exact ⟨rfl, by kernel_rfl⟩
          · have _ := hm
            refine Done.as (e := Exit.normal) (s := ⟨[(1, .ptr 1 0), (6, .p (encL Row.cs t0.rows)), (7, pI ((t0.rows.length : Int))), (8, pI t8), (65, pB t65)], [(1, .lit 24 [.p (encL Row.cs t0.rows)])]⟩) rfl (by kernel_rfl) ?_
            refine Done.mk (thenQ_n ?_)
            refine ifB_el h (fun k21 h => ?_) (fun k21 h => ?_)
            · refine awp_cond_t (b := t65) (by kernel_rfl) k21 ?_
              refine awp_seq ?_
              refine awp_regionD Try_mixed (orcs := []) (gs := [.keep [2] []]) (s' := ⟨[(2, pB false)], []⟩) (by kernel_rfl) (holds_of ((UU ∧ UU) ∧ (UU ∧ UU)) (by kernel_rfl) ⟨⟨TT, TT⟩, ⟨TT, TT⟩⟩) ?_
              refine Done.mk (thenQ_n ?_)
              refine doneRet ?_
              refine Done.mk (inB_r (thenQ_r ?_))
              obtain rfl := Option.some.inj h
              exact ⟨fun q => (by cases q), fun q => (by subst q; exact ⟨rfl, by kernel_rfl⟩)⟩
            · refine awp_cond_f (b := t65) (by kernel_rfl) k21 ?_
              refine doneSkip ?_
              refine Done.mk (inB_n (thenQ_n ?_))
              refine chk_el h (fun k22 h => ?_)
              refine awp_regionD Try_mixed (orcs := []) (gs := [.keep [1, 6, 7, 8] [1]]) (s' := ⟨[(1, .ptr 1 0), (6, .p (encL Row.cs t0.rows)), (7, pI ((t0.rows.length : Int))), (8, pI (t8 + 1))], [(1, .lit 24 [.p (encL Row.cs t0.rows)])]⟩) (by kernel_rfl) (holds_of (((InR .i64 (t8 + 1 : Int)) ∧ UU ∧ UU) ∧ (UU ∧ UU)) (by kernel_rfl) ⟨⟨k22, TT, TT⟩, ⟨TT, TT⟩⟩) ?_
              refine Done.mk ?_
              obtain rfl := Option.some.inj h
              exact ⟨rfl, by kernel_rfl⟩
    · refine awp_cond_f (b := decide (t8 < (t0.rows.length : Int))) (by kernel_rfl) k1 ?_
      refine doneExit ?_
      refine Done.gh [.keep [] [], .keep [] []] (s' := ⟨[], []⟩) (by kernel_rfl) (holds_of (UU ∧ UU ∧ UU) (by kernel_rfl) ⟨TT, TT, TT⟩) ?_
      refine Done.mk (thenQ_x ?_)
      obtain rfl := Option.some.inj h
      exact ⟨fun q => (by cases q), fun q => (by subst q; exact ⟨rfl, by kernel_rfl⟩)⟩
  · rcases o with _u | _u
    · refine Done.as (e := (Exit.exit 0)) (s := ⟨[], []⟩) rfl (by kernel_rfl) ?_
      refine Done.mk (inB_hit (thenQ_n ?_))
      refine awp_seq ?_
      refine awp_regionD Try_mixed (orcs := []) (gs := [.keep [2] []]) (s' := ⟨[(2, pB true)], []⟩) (by kernel_rfl) (holds_of ((UU ∧ UU) ∧ (UU ∧ UU)) (by kernel_rfl) ⟨⟨TT, TT⟩, ⟨TT, TT⟩⟩) ?_
      refine Done.mk (thenQ_n ?_)
      refine doneRet ?_
      refine Done.mk ?_
      obtain rfl := Option.some.inj h
      exact ⟨Or.inr rfl, by kernel_rfl, by kernel_rfl⟩
    · refine Done.as (e := Exit.ret) (s := ⟨[(2, pB false)], []⟩) rfl (by kernel_rfl) ?_
      refine Done.mk (inB_r (thenQ_r ?_))
      obtain rfl := Option.some.inj h
      exact ⟨Or.inr rfl, by kernel_rfl, by kernel_rfl⟩
end
end Go.AM
end
section
namespace Go.AM
open Go Go.RowKit Go.Proofs
noncomputable section
set_option maxRecDepth 100000 in
set_option maxHeartbeats 4000000 in
theorem boundary_around_ok {r_ : Region} {i : Int} {r : ((List Run) × (List Run))} (h : boundary_around r_ i = some r) : ASpec Try.prog 44 [.agg [.p (encL Row.cs r_.rows)], pI i] [] (.tup [.p (encL Run.cs r.1), .p (encL Run.cs r.2)]) [] := by
  refine aspec_of Try.func44 (c := _) rfl (by kernel_rfl) (by rw [Try.ntmps44]; exact Nat.le_of_ble_eq_true rfl) ?_
  refine awp_seq ?_
  refine awp_regionD Try_mixed (orcs := []) (gs := [.keep [1, 2, 4, 5] [2]]) (s' := ⟨[(1, pI i), (2, .ptr 2 0), (4, .nils), (5, .nils)], [(2, .lit 24 [.p (encL Row.cs r_.rows)])]⟩) (by kernel_rfl) (holds_of ((UU ∧ UU ∧ UU ∧ UU) ∧ (UU ∧ UU)) (by kernel_rfl) ⟨⟨TT, TT, TT, TT⟩, ⟨TT, TT⟩⟩) ?_
  refine Done.mk (thenQ_n ?_)
  refine awp_seq ?_
  refine bind_el h (fun r_1 k1 h => ?_)
  replace k1 := getI_el k1
  refine awp_regionD Try_mixed (orcs := [(5, tV (pI r_1.y))]) (gs := [.keep [1, 2, 4, 5, 6] [2]]) (s' := ⟨[(1, pI i), (2, .ptr 2 0), (4, .nils), (5, .nils), (6, pI r_1.y)], [(2, .lit 24 [.p (encL Row.cs r_.rows)])]⟩) (by kernel_rfl) (holds_of ((UU ∧ UU ∧ UU ∧ ((0 ≤ i ∧ i < (r_.rows.length : Int))) ∧ UU ∧ ((r_.rows.flatMap Row.cs)[i.toNat * 2]? = some (vI r_1.y)) ∧ UU ∧ UU) ∧ (UU ∧ UU)) (by kernel_rfl) ⟨⟨TT, TT, TT, k1.2, TT, row_at Row.cs_len k1.1 (j := 0) (by omega) (by decide), TT, TT⟩, ⟨TT, TT⟩⟩) ?_
  refine Done.mk (thenQ_n ?_)
  refine awp_seq ?_
  refine bind_el h (fun below hm h => ?_)
  refine awp_tail (fun _ => Exit.normal) (fun o => match o with | below => ⟨[(1, pI i), (2, .ptr 2 0), (4, .p (encL Run.cs below)), (5, .nils), (6, pI r_1.y)], [(2, .lit 24 [.p (encL Row.cs r_.rows)])]⟩) hm (fun o h => ?_) ?_
  · refine awp_seq ?_
    refine bind_el h (fun t26 hm h => ?_)
    refine awp_tail (fun _ => Exit.normal) (fun o => match o with | t26 => ⟨[(1, pI i), (2, .ptr 2 0), (4, .nils), (5, .nils), (6, pI r_1.y), (26, pB t26)], [(2, .lit 24 [.p (encL Row.cs r_.rows)])]⟩) hm (fun o h => ?_) ?_
    · refine ifB_el h (fun k2 h => ?_) (fun k2 h => ?_)
      · refine chk_el h (fun k3 h => ?_)
        refine bind_el h (fun r_2 k4 h => ?_)
        replace k4 := getI_el k4
        refine chk_el h (fun k5 h => ?_)
        refine awp_regionD Try_mixed (orcs := [(2, tB true), (9, tV (pI r_2.y))]) (gs := [.keep [1, 2, 4, 5, 6, 26] [2]]) (s' := ⟨[(1, pI i), (2, .ptr 2 0), (4, .nils), (5, .nils), (6, pI r_1.y), (26, pB (r_2.y == (r_1.y - 1 : Int)))], [(2, .lit 24 [.p (encL Row.cs r_.rows)])]⟩) (by kernel_rfl) (holds_of ((UU ∧ UU ∧ ((UU ∧ some (pB (decide (i > (0 : Int)))) = some (pB true))) ∧ UU ∧ UU ∧ UU ∧ (InR .i64 (i - 1 : Int)) ∧ ((0 ≤ (i - 1 : Int) ∧ (i - 1 : Int) < (r_.rows.length : Int))) ∧ UU ∧ ((r_.rows.flatMap Row.cs)[(i - 1 : Int).toNat * 2]? = some (vI r_2.y)) ∧ UU ∧ (InR .i64 (r_1.y - 1 : Int)) ∧ UU ∧ UU ∧ UU) ∧ (UU ∧ UU)) (by kernel_rfl) ⟨⟨TT, TT, ⟨TT, by rw [k2]⟩, TT, TT, TT, k3, k4.2, TT, row_at Row.cs_len k4.1 (j := 0) (by omega) (by decide), TT, k5, TT, TT, TT⟩, ⟨TT, TT⟩⟩) ?_
        refine Done.mk ?_
        obtain rfl := Option.some.inj h
        exact ⟨rfl, by kernel_rfl⟩
      · refine awp_regionD Try_mixed (orcs := [(2, tB false)]) (gs := [.keep [1, 2, 4, 5, 6, 26] [2]]) (s' := ⟨[(1, pI i), (2, .ptr 2 0), (4, .nils), (5, .nils), (6, pI r_1.y), (26, pB false)], [(2, .lit 24 [.p (encL Row.cs r_.rows)])]⟩) (by kernel_rfl) (holds_of ((UU ∧ UU ∧ ((UU ∧ some (pB (decide (i > (0 : Int)))) = some (pB false))) ∧ UU ∧ UU) ∧ (UU ∧ UU)) (by kernel_rfl) ⟨⟨TT, TT, ⟨TT, by rw [k2]⟩, TT, TT⟩, ⟨TT, TT⟩⟩) ?_
        refine Done.mk ?_
        obtain rfl := Option.some.inj h
        exact ⟨rfl, by kernel_rfl⟩
    · have _ := hm
      refine Done.as (e := Exit.normal) (s := ⟨[(1, pI i), (2, .ptr 2 0), (4, .nils), (5, .nils), (6, pI r_1.y), (26, pB t26)], [(2, .lit 24 [.p (encL Row.cs r_.rows)])]⟩) rfl (by kernel_rfl) ?_
      refine Done.mk (thenQ_n ?_)
      refine ifB_el h (fun k6 h => ?_) (fun k6 h => ?_)
      · refine awp_cond_t (b := t26) (by kernel_rfl) k6 ?_
        refine chk_el h (fun k7 h => ?_)
        refine bind_el h (fun r_3 k8 h => ?_)
        replace k8 := getI_el k8
        refine awp_regionD Try_mixed (orcs := [(6, tV (.p (encL Run.cs r_3.runs)))]) (gs := [.keep [1, 2, 4, 5, 6] [2]]) (s' := ⟨[(1, pI i), (2, .ptr 2 0), (4, .p (encL Run.cs r_3.runs)), (5, .nils), (6, pI r_1.y)], [(2, .lit 24 [.p (encL Row.cs r_.rows)])]⟩) (by kernel_rfl) (holds_of ((UU ∧ UU ∧ UU ∧ (InR .i64 (i - 1 : Int)) ∧ ((0 ≤ (i - 1 : Int) ∧ (i - 1 : Int) < (r_.rows.length : Int))) ∧ UU ∧ ((r_.rows.flatMap Row.cs)[(i - 1 : Int).toNat * 2 + 1]? = some (encL Run.cs r_3.runs)) ∧ UU ∧ UU) ∧ (UU ∧ UU)) (by kernel_rfl) ⟨⟨TT, TT, TT, k7, k8.2, TT, row_at Row.cs_len k8.1 (j := 1) (by omega) (by decide), TT, TT⟩, ⟨TT, TT⟩⟩) ?_
        refine Done.mk ?_
        obtain rfl := Option.some.inj h
        exact ⟨rfl, by kernel_rfl⟩
      · refine awp_cond_f (b := t26) (by kernel_rfl) k6 ?_
        refine doneSkip ?_
        refine Done.gh [.keep [1, 2, 4, 5, 6] [2], .pureT 4, .keep [1, 2, 4, 5, 6] [2]] (s' := ⟨[(1, pI i), (2, .ptr 2 0), (4, .p (encL Run.cs (([] : List Run)))), (5, .nils), (6, pI r_1.y)], [(2, .lit 24 [.p (encL Row.cs r_.rows)])]⟩) (by kernel_rfl) (holds_of (UU ∧ UU ∧ UU ∧ UU) (by kernel_rfl) ⟨TT, TT, TT, TT⟩) ?_
        refine Done.mk ?_
        obtain rfl := Option.some.inj h
        exact ⟨rfl, by kernel_rfl⟩
  · have _ := hm
    refine Done.as (e := Exit.normal) (s := ⟨[(1, pI i), (2, .ptr 2 0), (4, .p (encL Run.cs below)), (5, .nils), (6, pI r_1.y)], [(2, .lit 24 [.p (encL Row.cs r_.rows)])]⟩) rfl (by kernel_rfl) ?_
    refine Done.mk (thenQ_n ?_)
    refine awp_seq ?_
    refine bind_el h (fun above hm h => ?_)
    refine awp_tail (fun _ => Exit.normal) (fun o => match o with | above => ⟨[(4, .p (encL Run.cs below)), (5, .p (encL Run.cs above))], []⟩) hm (fun o h => ?_) ?_
    · refine awp_seq ?_
      refine bind_el h (fun t51 hm h => ?_)
      refine awp_tail (fun _ => Exit.normal) (fun o => match o with | t51 => ⟨[(1, pI i), (2, .ptr 2 0), (4, .p (encL Run.cs below)), (5, .nils), (51, pB t51)], [(2, .lit 24 [.p (encL Row.cs r_.rows)])]⟩) hm (fun o h => ?_) ?_
      · refine chk_el h (fun k9 h => ?_)
        refine ifB_el h (fun k10 h => ?_) (fun k10 h => ?_)
        · refine bind_el h (fun r_4 k11 h => ?_)
          replace k11 := getI_el k11
          refine chk_el h (fun k12 h => ?_)
          refine awp_regionD Try_mixed (orcs := [(6, tB true), (13, tV (pI r_4.y))]) (gs := [.keep [1, 2, 4, 5, 51] [2]]) (s' := ⟨[(1, pI i), (2, .ptr 2 0), (4, .p (encL Run.cs below)), (5, .nils), (51, pB (r_4.y == (r_1.y + 1 : Int)))], [(2, .lit 24 [.p (encL Row.cs r_.rows)])]⟩) (by kernel_rfl) (holds_of ((UU ∧ (InR .i64 (i + 1 : Int)) ∧ UU ∧ UU ∧ UU ∧ UU ∧ ((UU ∧ some (pB (decide ((i + 1 : Int) < (r_.rows.length : Int)))) = some (pB true))) ∧ UU ∧ UU ∧ UU ∧ (InR .i64 (i + 1 : Int)) ∧ ((0 ≤ (i + 1 : Int) ∧ (i + 1 : Int) < (r_.rows.length : Int))) ∧ UU ∧ ((r_.rows.flatMap Row.cs)[(i + 1 : Int).toNat * 2]? = some (vI r_4.y)) ∧ UU ∧ (InR .i64 (r_1.y + 1 : Int)) ∧ UU ∧ UU ∧ UU) ∧ (UU ∧ UU)) (by kernel_rfl) ⟨⟨TT, k9, TT, TT, TT, TT, ⟨TT, by rw [k10]⟩, TT, TT, TT, k9, k11.2, TT, row_at Row.cs_len k11.1 (j := 0) (by omega) (by decide), TT, k12, TT, TT, TT⟩, ⟨TT, TT⟩⟩) ?_
          refine Done.mk ?_
          obtain rfl := Option.some.inj h
          exact ⟨rfl, by kernel_rfl⟩
        · refine awp_regionD Try_mixed (orcs := [(6, tB false)]) (gs := [.keep [1, 2, 4, 5, 51] [2]]) (s' := ⟨[(1, pI i), (2, .ptr 2 0), (4, .p (encL Run.cs below)), (5, .nils), (51, pB false)], [(2, .lit 24 [.p (encL Row.cs r_.rows)])]⟩) (by kernel_rfl) (holds_of ((UU ∧ (InR .i64 (i + 1 : Int)) ∧ UU ∧ UU ∧ UU ∧ UU ∧ ((UU ∧ some (pB (decide ((i + 1 : Int) < (r_.rows.length : Int)))) = some (pB false))) ∧ UU ∧ UU) ∧ (UU ∧ UU)) (by kernel_rfl) ⟨⟨TT, k9, TT, TT, TT, TT, ⟨TT, by rw [k10]⟩, TT, TT⟩, ⟨TT, TT⟩⟩) ?_
          refine Done.mk ?_
          obtain rfl := Option.some.inj h
          exact ⟨rfl, by kernel_rfl⟩
      · have _ := hm
        refine Done.as (e := Exit.normal) (s := ⟨[(1, pI i), (2, .ptr 2 0), (4, .p (encL Run.cs below)), (5, .nils), (51, pB t51)], [(2, .lit 24 [.p (encL Row.cs r_.rows)])]⟩) rfl (by kernel_rfl) ?_
        refine Done.mk (thenQ_n ?_)
        refine ifB_el h (fun k13 h => ?_) (fun k13 h => ?_)
        · refine awp_cond_t (b := t51) (by kernel_rfl) k13 ?_
          refine chk_el h (fun k14 h => ?_)
          refine bind_el h (fun r_5 k15 h => ?_)
          replace k15 := getI_el k15
          refine awp_regionD Try_mixed (orcs := [(6, tV (.p (encL Run.cs r_5.runs)))]) (gs := [.keep [4, 5] []]) (s' := ⟨[(4, .p (encL Run.cs below)), (5, .p (encL Run.cs r_5.runs))], []⟩) (by kernel_rfl) (holds_of ((UU ∧ UU ∧ UU ∧ (InR .i64 (i + 1 : Int)) ∧ ((0 ≤ (i + 1 : Int) ∧ (i + 1 : Int) < (r_.rows.length : Int))) ∧ UU ∧ ((r_.rows.flatMap Row.cs)[(i + 1 : Int).toNat * 2 + 1]? = some (encL Run.cs r_5.runs)) ∧ UU ∧ UU) ∧ (UU ∧ UU)) (by kernel_rfl) ⟨⟨TT, TT, TT, k14, k15.2, TT, row_at Row.cs_len k15.1 (j := 1) (by omega) (by decide), TT, TT⟩, ⟨TT, TT⟩⟩) ?_
          refine Done.mk ?_
          obtain rfl := Option.some.inj h
          exact ⟨rfl, by kernel_rfl⟩
        · refine awp_cond_f (b := t51) (by kernel_rfl) k13 ?_
          refine doneSkip ?_
          refine Done.gh [.keep [4, 5] [], .pureT 5, .keep [4, 5] []] (s' := ⟨[(4, .p (encL Run.cs below)), (5, .p (encL Run.cs (([] : List Run))))], []⟩) (by kernel_rfl) (holds_of (UU ∧ UU ∧ UU ∧ UU) (by kernel_rfl) ⟨TT, TT, TT, TT⟩) ?_
          refine Done.mk ?_
          obtain rfl := Option.some.inj h
          exact ⟨rfl, by kernel_rfl⟩
    · have _ := hm
      refine Done.as (e := Exit.normal) (s := ⟨[(4, .p (encL Run.cs below)), (5, .p (encL Run.cs above))], []⟩) rfl (by kernel_rfl) ?_
      refine Done.mk (thenQ_n ?_)
      refine awp_seq ?_
      refine awp_regionD Try_mixed (orcs := []) (gs := [.keep [4, 5] []]) (s' := ⟨[(4, .p (encL Run.cs below)), (5, .p (encL Run.cs above))], []⟩) (by kernel_rfl) (holds_of ((UU ∧ UU ∧ UU ∧ UU ∧ UU) ∧ (UU ∧ UU)) (by kernel_rfl) ⟨⟨TT, TT, TT, TT, TT⟩, ⟨TT, TT⟩⟩) ?_
      refine Done.mk (thenQ_n ?_)
      refine doneRet ?_
      refine Done.mk ?_
      obtain rfl := Option.some.inj h
      exact ⟨Or.inr rfl, by kernel_rfl, by kernel_rfl⟩
end
end Go.AM
end
section
namespace Go.AM
open Go Go.RowKit Go.Proofs
noncomputable section
set_option maxRecDepth 100000 in
set_option maxHeartbeats 4000000 in
theorem runs_Subtract_1_ok {inA : Bool} {inB : Bool} {r : Bool} (h : runs_Subtract_1 inA inB = some r) : ASpec Try.prog 62 [pB inA, pB inB] [] (pB r) [] := by
  refine aspec_of Try.func62 (c := _) rfl (by kernel_rfl) (by rw [Try.ntmps62]; exact Nat.le_of_ble_eq_true rfl) ?_
  refine awp_seq ?_
  refine awp_regionD Try_mixed (orcs := []) (gs := [.keep [0, 1] []]) (s' := ⟨[(0, pB inA), (1, pB inB)], []⟩) (by kernel_rfl) (holds_of ((UU ∧ UU) ∧ (UU ∧ UU)) (by kernel_rfl) ⟨⟨TT, TT⟩, ⟨TT, TT⟩⟩) ?_
  refine Done.mk (thenQ_n ?_)
  refine awp_seq ?_
  refine bind_el h (fun t4 hm h => ?_)
  refine awp_tail (fun _ => Exit.normal) (fun o => match o with | t4 => ⟨[(4, pB t4)], []⟩) hm (fun o h => ?_) ?_
  · refine ifB_el h (fun k1 h => ?_) (fun k1 h => ?_)
    · refine awp_regionD Try_mixed (orcs := [(1, tB true)]) (gs := [.keep [4] []]) (s' := ⟨[(4, pB (!inB))], []⟩) (by kernel_rfl) (holds_of ((UU ∧ ((UU ∧ some (pB inA) = some (pB true))) ∧ UU ∧ UU ∧ UU ∧ UU ∧ UU) ∧ (UU ∧ UU)) (by kernel_rfl) ⟨⟨TT, ⟨TT, by rw [k1]⟩, TT, TT, TT, TT, TT⟩, ⟨TT, TT⟩⟩) ?_
      refine Done.mk ?_
      obtain rfl := Option.some.inj h
      exact ⟨rfl, by kernel_rfl⟩
    · refine awp_regionD Try_mixed (orcs := [(1, tB false)]) (gs := [.keep [4] []]) (s' := ⟨[(4, pB false)], []⟩) (by kernel_rfl) (holds_of ((UU ∧ ((UU ∧ some (pB inA) = some (pB false))) ∧ UU ∧ UU ∧ UU) ∧ (UU ∧ UU)) (by kernel_rfl) ⟨⟨TT, ⟨TT, by rw [k1]⟩, TT, TT, TT⟩, ⟨TT, TT⟩⟩) ?_
      refine Done.mk ?_
      obtain rfl := Option.some.inj h
      exact ⟨rfl, by kernel_rfl⟩
  · have _ := hm
    refine Done.as (e := Exit.normal) (s := ⟨[(4, pB t4)], []⟩) rfl (by kernel_rfl) ?_
    refine Done.mk (thenQ_n ?_)
    refine doneRet ?_
    refine Done.mk ?_
    obtain rfl := Option.some.inj h
    exact ⟨Or.inr rfl, by kernel_rfl, by kernel_rfl⟩
end
end Go.AM
end
section
namespace Go.AM
open Go Go.RowKit Go.Proofs
noncomputable section
set_option maxRecDepth 100000 in
set_option maxHeartbeats 4000000 in
theorem runs_bounds_over_ok {bRuns : (List Run)} {bAt : Int} {r : Bool} (h : runs_bounds_over bRuns bAt = some r) : ASpec Try.prog 78 [.ptr 0 0] [(0, .lit 125 [.p (encL Run.cs bRuns), pI bAt])] (pB r) [(0, .lit 125 [.p (encL Run.cs bRuns), pI bAt])] := by
  refine aspec_of Try.func78 (c := _) rfl (by kernel_rfl) (by rw [Try.ntmps78]; exact Nat.le_of_ble_eq_true rfl) ?_
  refine awp_seq ?_
  refine awp_regionD Try_mixed (orcs := []) (gs := [.keep [0] [0]]) (s' := ⟨[(0, .ptr 0 0)], [(0, .lit 125 [.p (encL Run.cs bRuns), pI bAt])]⟩) (by kernel_rfl) (holds_of ((UU ∧ UU) ∧ (UU ∧ UU)) (by kernel_rfl) ⟨⟨TT, TT⟩, ⟨TT, TT⟩⟩) ?_
  refine Done.mk (thenQ_n ?_)
  refine awp_seq ?_
  refine chk_el h (fun k1 h => ?_)
  refine awp_regionD Try_mixed (orcs := []) (gs := [.keep [2] [0]]) (s' := ⟨[(2, pB (bAt == (2 * ((bRuns.length : Int)) : Int)))], [(0, .lit 125 [.p (encL Run.cs bRuns), pI bAt])]⟩) (by kernel_rfl) (holds_of ((UU ∧ UU ∧ UU ∧ UU ∧ UU ∧ UU ∧ UU ∧ UU ∧ UU ∧ (InR .i64 (2 * ((bRuns.length : Int)) : Int)) ∧ UU ∧ UU ∧ UU) ∧ (UU ∧ UU)) (by kernel_rfl) ⟨⟨TT, TT, TT, TT, TT, TT, TT, TT, TT, k1, TT, TT, TT⟩, ⟨TT, TT⟩⟩) ?_
  refine Done.mk (thenQ_n ?_)
  refine doneRet ?_
  refine Done.mk ?_
  obtain rfl := Option.some.inj h
  exact ⟨Or.inr rfl, by kernel_rfl, by kernel_rfl⟩
end
end Go.AM
end
section
namespace Go.AM
open Go Go.RowKit Go.Proofs
noncomputable section
set_option maxRecDepth 100000 in
set_option maxHeartbeats 4000000 in
theorem runs_bounds_inside_ok {bRuns : (List Run)} {bAt : Int} {r : Bool} (h : runs_bounds_inside bRuns bAt = some r) : ASpec Try.prog 81 [.ptr 0 0] [(0, .lit 125 [.p (encL Run.cs bRuns), pI bAt])] (pB r) [(0, .lit 125 [.p (encL Run.cs bRuns), pI bAt])] := by
  refine aspec_of Try.func81 (c := _) rfl (by kernel_rfl) (by rw [Try.ntmps81]; exact Nat.le_of_ble_eq_true rfl) ?_
  refine awp_seq ?_
  refine awp_regionD Try_mixed (orcs := []) (gs := [.keep [0] [0]]) (s' := ⟨[(0, .ptr 0 0)], [(0, .lit 125 [.p (encL Run.cs bRuns), pI bAt])]⟩) (by kernel_rfl) (holds_of ((UU ∧ UU) ∧ (UU ∧ UU)) (by kernel_rfl) ⟨⟨TT, TT⟩, ⟨TT, TT⟩⟩) ?_
  refine Done.mk (thenQ_n ?_)
  refine awp_seq ?_
  refine awp_regionD Try_mixed (orcs := []) (gs := [.keep [2] [0]]) (s' := ⟨[(2, pB ((bAt.tmod (2 : Int) : Int) == (1 : Int)))], [(0, .lit 125 [.p (encL Run.cs bRuns), pI bAt])]⟩) (by kernel_rfl) (holds_of ((UU ∧ UU ∧ UU ∧ UU ∧ ((2 : Int) ≠ 0) ∧ UU ∧ UU ∧ UU) ∧ (UU ∧ UU)) (by kernel_rfl) ⟨⟨TT, TT, TT, TT, by decide, TT, TT, TT⟩, ⟨TT, TT⟩⟩) ?_
  refine Done.mk (thenQ_n ?_)
  refine doneRet ?_
  refine Done.mk ?_
  obtain rfl := Option.some.inj h
  exact ⟨Or.inr rfl, by kernel_rfl, by kernel_rfl⟩
end
end Go.AM
end
section
namespace Go.AM
open Go Go.RowKit Go.Proofs
noncomputable section
set_option maxRecDepth 100000 in
set_option maxHeartbeats 4000000 in
theorem runs_bounds_next_ok {bRuns : (List Run)} {bAt : Int} {r : Int} (h : runs_bounds_next bRuns bAt = some r) : ASpec Try.prog 79 [.ptr 0 0] [(0, .lit 125 [.p (encL Run.cs bRuns), pI bAt])] (pI r) [(0, .lit 125 [.p (encL Run.cs bRuns), pI bAt])] := by
  refine aspec_of Try.func79 (c := _) rfl (by kernel_rfl) (by rw [Try.ntmps79]; exact Nat.le_of_ble_eq_true rfl) ?_
  refine awp_seq ?_
  refine awp_regionD Try_mixed (orcs := []) (gs := [.keep [0] [0]]) (s' := ⟨[(0, .ptr 0 0)], [(0, .lit 125 [.p (encL Run.cs bRuns), pI bAt])]⟩) (by kernel_rfl) (holds_of ((UU ∧ UU) ∧ (UU ∧ UU)) (by kernel_rfl) ⟨⟨TT, TT⟩, ⟨TT, TT⟩⟩) ?_
  refine Done.mk (thenQ_n ?_)
  refine awp_seq ?_
  refine awp_block ?_
  refine awp_seq ?_
  refine bind_el h (fun b k1 h => ?_)
  refine awp_regionD Try_mixed (orcs := [(1, { r := some (pB b), fp := [0], post := [(0, .lit 125 [.p (encL Run.cs bRuns), pI bAt])] })]) (gs := [.keep [0, 3] [0]]) (s' := ⟨[(0, .ptr 0 0), (3, pB b)], [(0, .lit 125 [.p (encL Run.cs bRuns), pI bAt])]⟩) (by kernel_rfl) (holds_of ((UU ∧ (ASpec Try.prog 78 [.ptr 0 0] [(0, .lit 125 [.p (encL Run.cs bRuns), pI bAt])] (pB b) [(0, .lit 125 [.p (encL Run.cs bRuns), pI bAt])]) ∧ UU ∧ UU) ∧ (UU ∧ UU)) (by kernel_rfl) ⟨⟨TT, runs_bounds_over_ok k1, TT, TT⟩, ⟨TT, TT⟩⟩) ?_
  refine Done.mk (thenQ_n ?_)
  refine ifB_el h (fun k2 h => ?_) (fun k2 h => ?_)
  · refine awp_cond_t (b := b) (by kernel_rfl) k2 ?_
    refine awp_seq ?_
    refine awp_regionD Try_mixed (orcs := []) (gs := [.keep [2] [0]]) (s' := ⟨[(2, pI 1048577)], [(0, .lit 125 [.p (encL Run.cs bRuns), pI bAt])]⟩) (by kernel_rfl) (holds_of ((UU ∧ UU) ∧ (UU ∧ UU)) (by kernel_rfl) ⟨⟨TT, TT⟩, ⟨TT, TT⟩⟩) ?_
    refine Done.mk (thenQ_n ?_)
    refine doneRet ?_
    refine Done.mk (inB_r (thenQ_r ?_))
    obtain rfl := Option.some.inj h
    exact ⟨Or.inr rfl, by kernel_rfl, by kernel_rfl⟩
  · refine awp_cond_f (b := b) (by kernel_rfl) k2 ?_
    refine awp_seq ?_
    refine bind_el h (fun b1 k3 h => ?_)
    refine awp_regionD Try_mixed (orcs := [(1, { r := some (pB b1), fp := [0], post := [(0, .lit 125 [.p (encL Run.cs bRuns), pI bAt])] })]) (gs := [.keep [0, 6] [0]]) (s' := ⟨[(0, .ptr 0 0), (6, pB b1)], [(0, .lit 125 [.p (encL Run.cs bRuns), pI bAt])]⟩) (by kernel_rfl) (holds_of ((UU ∧ (ASpec Try.prog 81 [.ptr 0 0] [(0, .lit 125 [.p (encL Run.cs bRuns), pI bAt])] (pB b1) [(0, .lit 125 [.p (encL Run.cs bRuns), pI bAt])]) ∧ UU ∧ UU) ∧ (UU ∧ UU)) (by kernel_rfl) ⟨⟨TT, runs_bounds_inside_ok k3, TT, TT⟩, ⟨TT, TT⟩⟩) ?_
    refine Done.mk (thenQ_n ?_)
    refine ifB_el h (fun k4 h => ?_) (fun k4 h => ?_)
    · refine awp_cond_t (b := b1) (by kernel_rfl) k4 ?_
      refine awp_seq ?_
      refine chk_el h (fun k5 h => ?_)
      refine bind_el h (fun r_ k6 h => ?_)
      replace k6 := getI_el k6
      refine awp_regionD Try_mixed (orcs := [(11, tV (pI r_.to))]) (gs := [.keep [2] [0]]) (s' := ⟨[(2, pI r_.to)], [(0, .lit 125 [.p (encL Run.cs bRuns), pI bAt])]⟩) (by kernel_rfl) (holds_of ((UU ∧ UU ∧ UU ∧ UU ∧ UU ∧ UU ∧ UU ∧ UU ∧ (((2 : Int) ≠ 0 ∧ InR .i64 (bAt.tdiv (2 : Int)))) ∧ ((0 ≤ (bAt.tdiv (2 : Int) : Int) ∧ (bAt.tdiv (2 : Int) : Int) < (bRuns.length : Int))) ∧ UU ∧ ((bRuns.flatMap Run.cs)[(bAt.tdiv (2 : Int) : Int).toNat * 2 + 1]? = some (vI r_.to)) ∧ UU ∧ UU) ∧ (UU ∧ UU)) (by kernel_rfl) ⟨⟨TT, TT, TT, TT, TT, TT, TT, TT, k5, k6.2, TT, row_at Run.cs_len k6.1 (j := 1) (by omega) (by decide), TT, TT⟩, ⟨TT, TT⟩⟩) ?_
      refine Done.mk (thenQ_n ?_)
      refine doneRet ?_
      refine Done.mk (inB_r (thenQ_r ?_))
      obtain rfl := Option.some.inj h
      exact ⟨Or.inr rfl, by kernel_rfl, by kernel_rfl⟩
    · refine awp_cond_f (b := b1) (by kernel_rfl) k4 ?_
      refine doneSkip ?_
      refine Done.mk (inB_n (thenQ_n ?_))
      refine awp_seq ?_
      refine chk_el h (fun k7 h => ?_)
      refine bind_el h (fun r_1 k8 h => ?_)
      replace k8 := getI_el k8
      refine awp_regionD Try_mixed (orcs := [(11, tV (pI r_1.frm))]) (gs := [.keep [2] [0]]) (s' := ⟨[(2, pI r_1.frm)], [(0, .lit 125 [.p (encL Run.cs bRuns), pI bAt])]⟩) (by kernel_rfl) (holds_of ((UU ∧ UU ∧ UU ∧ UU ∧ UU ∧ UU ∧ UU ∧ UU ∧ (((2 : Int) ≠ 0 ∧ InR .i64 (bAt.tdiv (2 : Int)))) ∧ ((0 ≤ (bAt.tdiv (2 : Int) : Int) ∧ (bAt.tdiv (2 : Int) : Int) < (bRuns.length : Int))) ∧ UU ∧ ((bRuns.flatMap Run.cs)[(bAt.tdiv (2 : Int) : Int).toNat * 2]? = some (vI r_1.frm)) ∧ UU ∧ UU) ∧ (UU ∧ UU)) (by kernel_rfl) ⟨⟨TT, TT, TT, TT, TT, TT, TT, TT, k7, k8.2, TT, row_at Run.cs_len k8.1 (j := 0) (by omega) (by decide), TT, TT⟩, ⟨TT, TT⟩⟩) ?_
      refine Done.mk (thenQ_n ?_)
      refine doneRet ?_
      refine Done.mk ?_
      obtain rfl := Option.some.inj h
      exact ⟨Or.inr rfl, by kernel_rfl, by kernel_rfl⟩
end
end Go.AM
end
section
namespace Go.AM
open Go Go.RowKit Go.Proofs
noncomputable section
set_option maxRecDepth 100000 in
set_option maxHeartbeats 4000000 in
theorem runs_bounds_pass_ok {bRuns : (List Run)} {bAt : Int} {x : Int} {r : Int} (h : runs_bounds_pass bRuns bAt x = some r) : ASpec Try.prog 80 [.ptr 0 0, pI x] [(0, .lit 125 [.p (encL Run.cs bRuns), pI bAt])] (.tup []) [(0, .lit 125 [.p (encL Run.cs bRuns), pI r])] := by
  refine aspec_of Try.func80 (c := _) rfl (by kernel_rfl) (by rw [Try.ntmps80]; exact Nat.le_of_ble_eq_true rfl) ?_
  refine awp_seq ?_
  refine bind_el h (fun n k1 h => ?_)
  refine awp_regionD Try_mixed (orcs := [(1, { r := some (pI n), fp := [0], post := [(0, .lit 125 [.p (encL Run.cs bRuns), pI bAt])] })]) (gs := [.keep [0, 7] [0]]) (s' := ⟨[(0, .ptr 0 0), (7, pB (n == x))], [(0, .lit 125 [.p (encL Run.cs bRuns), pI bAt])]⟩) (by kernel_rfl) (holds_of ((UU ∧ (ASpec Try.prog 79 [.ptr 0 0] [(0, .lit 125 [.p (encL Run.cs bRuns), pI bAt])] (pI n) [(0, .lit 125 [.p (encL Run.cs bRuns), pI bAt])]) ∧ UU ∧ UU ∧ UU) ∧ (UU ∧ UU)) (by kernel_rfl) ⟨⟨TT, runs_bounds_next_ok k1, TT, TT, TT⟩, ⟨TT, TT⟩⟩) ?_
  refine Done.mk (thenQ_n ?_)
  refine ifB_el h (fun k2 h => ?_) (fun k2 h => ?_)
  · refine awp_cond_t (b := n == x) (by kernel_rfl) k2 ?_
    refine chk_el h (fun k3 h => ?_)
    refine awp_regionD Try_mixed (orcs := []) (gs := [.keep [] [0]]) (s' := ⟨[], [(0, .lit 125 [.p (encL Run.cs bRuns), pI (bAt + 1)])]⟩) (by kernel_rfl) (holds_of ((UU ∧ UU ∧ UU ∧ UU ∧ (InR .i64 (bAt + 1 : Int)) ∧ UU ∧ UU ∧ UU ∧ UU) ∧ (UU ∧ UU)) (by kernel_rfl) ⟨⟨TT, TT, TT, TT, k3, TT, TT, TT, TT⟩, ⟨TT, TT⟩⟩) ?_
    refine Done.mk ?_
    obtain rfl := Option.some.inj h
    exact ⟨Or.inl rfl, by kernel_rfl, by kernel_rfl⟩
  · refine awp_cond_f (b := n == x) (by kernel_rfl) k2 ?_
    refine doneSkip ?_
    refine Done.mk ?_
    obtain rfl := Option.some.inj h
    exact ⟨Or.inl rfl, by kernel_rfl, by kernel_rfl⟩
end
end Go.AM
end
