/- Models of functions, and that their calls do what the models say. Printed by gen.py. -/
import Derived.Test.YtijdlphadhpabaaProg
import Derived.Test.YtijdlphadhpabaaA3
import Derived.Test.YtijdlphadhpabaaA6
import Derived.Test.YtijdlphadhpabaaA1
import Derived.Test.YtijdlphadhpabaaA8
import Derived.Test.YtijdlphadhpabaaA5
import Derived.Test.YtijdlphadhpabaaA7
import Derived.Test.YtijdlphadhpabaaA2
import Derived.Test.YtijdlphadhpabaaA4
import Derived.Test.YtijdlphadhpabaaF1
import Derived.Test.YtijdlphadhpabaaF7
import Derived.Test.YtijdlphadhpabaaA9
import Derived.Test.YtijdlphadhpabaaF6
import Derived.Test.YtijdlphadhpabaaRows
section
namespace Go.AM
open Go Go.RowKit Go.Proofs
noncomputable section
set_option maxRecDepth 100000 in
set_option maxHeartbeats 4000000 in
theorem R18_Valid_ok {r_ : Region} {r : Bool} (h : R18_Valid r_ = some r) : ASpec Try.prog 33 [.agg [.p (encL Row.cs r_.rows)]] [] (pB r) [] := by
  refine aspec_of Try.func33 (c := _) rfl (by kernel_rfl) (by rw [Try.ntmps33]; exact Nat.le_of_ble_eq_true rfl) ?_
  refine awp_seq ?_
  refine awp_regionD Try_mixed (orcs := []) (gs := [.keep [1] [1]]) (s' := ⟨[(1, .ptr 1 0)], [(1, .lit 24 [.p (encL Row.cs r_.rows)])]⟩) (by kernel_rfl) (holds_of ((UU ∧ UU ∧ UU) ∧ (UU ∧ UU)) (by kernel_rfl) ⟨⟨TT, TT, TT⟩, ⟨TT, TT⟩⟩) ?_
  refine Done.mk (thenQ_n ?_)
  refine awp_seq ?_
  refine awp_seq ?_
  refine awp_regionD Try_mixed (orcs := []) (gs := [.keep [1, 3] [1]]) (s' := ⟨[(1, .ptr 1 0), (3, pI 0)], [(1, .lit 24 [.p (encL Row.cs r_.rows)])]⟩) (by kernel_rfl) (holds_of ((UU ∧ UU) ∧ (UU ∧ UU)) (by kernel_rfl) ⟨⟨TT, TT⟩, ⟨TT, TT⟩⟩) ?_
  refine Done.mk (thenQ_n ?_)
  refine awp_block ?_
  refine bind_el h (fun o hm h => ?_)
  refine awp_gh [.keep [1, 3] [1], .keep [1, 3] [1]] (s' := ⟨[(1, .ptr 1 0), (3, pI 0)], [(1, .lit 24 [.p (encL Row.cs r_.rows)])]⟩) (by kernel_rfl) (holds_of (UU ∧ UU ∧ UU) (by kernel_rfl) ⟨TT, TT, TT⟩) ?_
  refine awp_tail (fun o => match o with | .inl _ => (Exit.exit 0) | .inr _ => Exit.ret) (fun o => match o with | .inl _ => ⟨[], []⟩ | .inr _ => ⟨[(2, pB false)], []⟩) hm (fun o h => ?_) ?_
  · refine awp_loop' (fun s => match s with | i => ⟨[(1, .ptr 1 0), (3, pI i)], [(1, .lit 24 [.p (encL Row.cs r_.rows)])]⟩) h (by kernel_rfl) (fun i out h => ?_)
    refine awp_seq ?_
    refine awp_seq ?_
    refine awp_regionD Try_mixed (orcs := []) (gs := [.keep [1, 3, 9] [1]]) (s' := ⟨[(1, .ptr 1 0), (3, pI i), (9, pB (decide (i < (r_.rows.length : Int))))], [(1, .lit 24 [.p (encL Row.cs r_.rows)])]⟩) (by kernel_rfl) (holds_of ((UU ∧ UU ∧ UU ∧ UU ∧ UU ∧ UU) ∧ (UU ∧ UU)) (by kernel_rfl) ⟨⟨TT, TT, TT, TT, TT, TT⟩, ⟨TT, TT⟩⟩) ?_
    refine Done.mk (thenQ_n ?_)
    refine ifB_el h (fun k1 h => ?_) (fun k1 h => ?_)
    · refine awp_cond_t (b := decide (i < (r_.rows.length : Int))) (by kernel_rfl) k1 ?_
      refine doneSkip ?_
      refine Done.mk (thenQ_n ?_)
      refine awp_seq ?_
      refine awp_block ?_
      refine awp_seq ?_
      refine bind_el h (fun r_1 k2 h => ?_)
      replace k2 := getI_el k2
      refine awp_regionD Try_mixed (orcs := [(5, tV (pI r_1.y))]) (gs := [.keep [1, 3, 4] [1]]) (s' := ⟨[(1, .ptr 1 0), (3, pI i), (4, pI r_1.y)], [(1, .lit 24 [.p (encL Row.cs r_.rows)])]⟩) (by kernel_rfl) (holds_of ((UU ∧ UU ∧ UU ∧ ((0 ≤ i ∧ i < (r_.rows.length : Int))) ∧ UU ∧ ((r_.rows.flatMap Row.cs)[i.toNat * 2]? = some (vI r_1.y)) ∧ UU ∧ UU) ∧ (UU ∧ UU)) (by kernel_rfl) ⟨⟨TT, TT, TT, k2.2, TT, row_at Row.cs_len k2.1 (j := 0) (by omega) (by decide), TT, TT⟩, ⟨TT, TT⟩⟩) ?_
      refine Done.mk (thenQ_n ?_)
      refine awp_seq ?_
      refine bind_el h (fun t48 hm h => ?_)
      refine awp_tail (fun _ => Exit.normal) (fun o => match o with | t48 => ⟨[(1, .ptr 1 0), (3, pI i), (48, pB t48)], [(1, .lit 24 [.p (encL Row.cs r_.rows)])]⟩) hm (fun o h => ?_) ?_
      · refine ifB_el h (fun k3 h => ?_) (fun k3 h => ?_)
        · refine awp_regionD Try_mixed (orcs := [(2, tB true)]) (gs := [.keep [1, 3, 48] [1]]) (s' := ⟨[(1, .ptr 1 0), (3, pI i), (48, pB true)], [(1, .lit 24 [.p (encL Row.cs r_.rows)])]⟩) (by kernel_rfl) (holds_of ((UU ∧ UU ∧ ((UU ∧ some (pB (decide (r_1.y < (-4096 : Int)))) = some (pB true))) ∧ UU ∧ UU ∧ UU ∧ UU ∧ UU ∧ UU) ∧ (UU ∧ UU)) (by kernel_rfl) ⟨⟨TT, TT, ⟨TT, by rw [k3]⟩, TT, TT, TT, TT, TT, TT⟩, ⟨TT, TT⟩⟩) ?_
          refine Done.mk ?_
          obtain rfl := Option.some.inj h
          exact ⟨rfl, by kernel_rfl⟩
        · refine ifB_el h (fun k4 h => ?_) (fun k4 h => ?_)
          · refine awp_regionD Try_mixed (orcs := [(2, tB false), (6, tB true)]) (gs := [.keep [1, 3, 48] [1]]) (s' := ⟨[(1, .ptr 1 0), (3, pI i), (48, pB true)], [(1, .lit 24 [.p (encL Row.cs r_.rows)])]⟩) (by kernel_rfl) (holds_of ((UU ∧ UU ∧ ((UU ∧ some (pB (decide (r_1.y < (-4096 : Int)))) = some (pB false))) ∧ UU ∧ UU ∧ UU ∧ ((UU ∧ some (pB (decide (r_1.y ≥ (4096 : Int)))) = some (pB true))) ∧ UU ∧ UU ∧ UU ∧ UU) ∧ (UU ∧ UU)) (by kernel_rfl) ⟨⟨TT, TT, ⟨TT, by rw [k3]⟩, TT, TT, TT, ⟨TT, by rw [k4]⟩, TT, TT, TT, TT⟩, ⟨TT, TT⟩⟩) ?_
            refine Done.mk ?_
            obtain rfl := Option.some.inj h
            exact ⟨rfl, by kernel_rfl⟩
          · refine ifB_el h (fun k5 h => ?_) (fun k5 h => ?_)
            · refine chk_el h (fun k6 h => ?_)
              refine bind_el h (fun r_2 k7 h => ?_)
              replace k7 := getI_el k7
              refine ifB_el h (fun k8 h => ?_) (fun k8 h => ?_)
              · refine awp_regionD Try_mixed (orcs := [(2, tB false), (6, tB false), (9, tB true), (17, tV (pI r_2.y)), (21, tB true)]) (gs := [.keep [1, 3, 48] [1]]) (s' := ⟨[(1, .ptr 1 0), (3, pI i), (48, pB true)], [(1, .lit 24 [.p (encL Row.cs r_.rows)])]⟩) (by kernel_rfl) (holds_of ((UU ∧ UU ∧ ((UU ∧ some (pB (decide (r_1.y < (-4096 : Int)))) = some (pB false))) ∧ UU ∧ UU ∧ UU ∧ ((UU ∧ some (pB (decide (r_1.y ≥ (4096 : Int)))) = some (pB false))) ∧ UU ∧ UU ∧ ((UU ∧ some (pB (decide (i > (0 : Int)))) = some (pB true))) ∧ UU ∧ UU ∧ UU ∧ UU ∧ (InR .i64 (i - 1 : Int)) ∧ ((0 ≤ (i - 1 : Int) ∧ (i - 1 : Int) < (r_.rows.length : Int))) ∧ UU ∧ ((r_.rows.flatMap Row.cs)[(i - 1 : Int).toNat * 2]? = some (vI r_2.y)) ∧ UU ∧ UU ∧ UU ∧ ((UU ∧ some (pB (decide (r_1.y ≤ r_2.y))) = some (pB true))) ∧ UU ∧ UU) ∧ (UU ∧ UU)) (by kernel_rfl) ⟨⟨TT, TT, ⟨TT, by rw [k3]⟩, TT, TT, TT, ⟨TT, by rw [k4]⟩, TT, TT, ⟨TT, by rw [k5]⟩, TT, TT, TT, TT, k6, k7.2, TT, row_at Row.cs_len k7.1 (j := 0) (by omega) (by decide), TT, TT, TT, ⟨TT, by rw [k8]⟩, TT, TT⟩, ⟨TT, TT⟩⟩) ?_
                refine Done.mk ?_
                obtain rfl := Option.some.inj h
                exact ⟨rfl, by kernel_rfl⟩
              · refine bind_el h (fun b k9 h => ?_)
                refine awp_regionD Try_mixed (orcs := [(2, tB false), (6, tB false), (9, tB true), (17, tV (pI r_2.y)), (21, tB false), (27, tV (.p (encL Run.cs r_1.runs))), (28, tV (pB b))]) (gs := [.keep [1, 3, 48] [1]]) (s' := ⟨[(1, .ptr 1 0), (3, pI i), (48, pB (!b))], [(1, .lit 24 [.p (encL Row.cs r_.rows)])]⟩) (by kernel_rfl) (holds_of ((UU ∧ UU ∧ ((UU ∧ some (pB (decide (r_1.y < (-4096 : Int)))) = some (pB false))) ∧ UU ∧ UU ∧ UU ∧ ((UU ∧ some (pB (decide (r_1.y ≥ (4096 : Int)))) = some (pB false))) ∧ UU ∧ UU ∧ ((UU ∧ some (pB (decide (i > (0 : Int)))) = some (pB true))) ∧ UU ∧ UU ∧ UU ∧ UU ∧ (InR .i64 (i - 1 : Int)) ∧ ((0 ≤ (i - 1 : Int) ∧ (i - 1 : Int) < (r_.rows.length : Int))) ∧ UU ∧ ((r_.rows.flatMap Row.cs)[(i - 1 : Int).toNat * 2]? = some (vI r_2.y)) ∧ UU ∧ UU ∧ UU ∧ ((UU ∧ some (pB (decide (r_1.y ≤ r_2.y))) = some (pB false))) ∧ UU ∧ UU ∧ UU ∧ ((0 ≤ i ∧ i < (r_.rows.length : Int))) ∧ UU ∧ ((r_.rows.flatMap Row.cs)[i.toNat * 2 + 1]? = some (encL Run.cs r_1.runs)) ∧ (ASpec Try.prog 54 [.p (encL Run.cs r_1.runs)] [] (pB b) []) ∧ UU ∧ UU ∧ UU) ∧ (UU ∧ UU)) (by kernel_rfl) ⟨⟨TT, TT, ⟨TT, by rw [k3]⟩, TT, TT, TT, ⟨TT, by rw [k4]⟩, TT, TT, ⟨TT, by rw [k5]⟩, TT, TT, TT, TT, k6, k7.2, TT, row_at Row.cs_len k7.1 (j := 0) (by omega) (by decide), TT, TT, TT, ⟨TT, by rw [k8]⟩, TT, TT, TT, k2.2, TT, row_at Row.cs_len k2.1 (j := 1) (by omega) (by decide), R18_fine_ok k9, TT, TT, TT⟩, ⟨TT, TT⟩⟩) ?_
                refine Done.mk ?_
                obtain rfl := Option.some.inj h
                exact ⟨rfl, by kernel_rfl⟩
            · refine bind_el h (fun b1 k10 h => ?_)
              refine awp_regionD Try_mixed (orcs := [(2, tB false), (6, tB false), (9, tB false), (27, tV (.p (encL Run.cs r_1.runs))), (28, tV (pB b1))]) (gs := [.keep [1, 3, 48] [1]]) (s' := ⟨[(1, .ptr 1 0), (3, pI i), (48, pB (!b1))], [(1, .lit 24 [.p (encL Row.cs r_.rows)])]⟩) (by kernel_rfl) (holds_of ((UU ∧ UU ∧ ((UU ∧ some (pB (decide (r_1.y < (-4096 : Int)))) = some (pB false))) ∧ UU ∧ UU ∧ UU ∧ ((UU ∧ some (pB (decide (r_1.y ≥ (4096 : Int)))) = some (pB false))) ∧ UU ∧ UU ∧ ((UU ∧ some (pB (decide (i > (0 : Int)))) = some (pB false))) ∧ UU ∧ UU ∧ UU ∧ UU ∧ UU ∧ UU ∧ ((0 ≤ i ∧ i < (r_.rows.length : Int))) ∧ UU ∧ ((r_.rows.flatMap Row.cs)[i.toNat * 2 + 1]? = some (encL Run.cs r_1.runs)) ∧ (ASpec Try.prog 54 [.p (encL Run.cs r_1.runs)] [] (pB b1) []) ∧ UU ∧ UU ∧ UU) ∧ (UU ∧ UU)) (by kernel_rfl) ⟨⟨TT, TT, ⟨TT, by rw [k3]⟩, TT, TT, TT, ⟨TT, by rw [k4]⟩, TT, TT, ⟨TT, by rw [k5]⟩, TT, TT, TT, TT, TT, TT, k2.2, TT, row_at Row.cs_len k2.1 (j := 1) (by omega) (by decide), R18_fine_ok k10, TT, TT, TT⟩, ⟨TT, TT⟩⟩) ?_
              refine Done.mk ?_
              obtain rfl := Option.some.inj h
              exact ⟨rfl, by kernel_rfl⟩
      · have _ := hm
        refine Done.as (e := Exit.normal) (s := ⟨[(1, .ptr 1 0), (3, pI i), (48, pB t48)], [(1, .lit 24 [.p (encL Row.cs r_.rows)])]⟩) rfl (by kernel_rfl) ?_
        refine Done.mk (thenQ_n ?_)
        refine ifB_el h (fun k11 h => ?_) (fun k11 h => ?_)
        · refine awp_cond_t (b := t48) (by kernel_rfl) k11 ?_
          refine awp_seq ?_
          refine awp_regionD Try_mixed (orcs := []) (gs := [.keep [2] []]) (s' := ⟨[(2, pB false)], []⟩) (by kernel_rfl) (holds_of ((UU ∧ UU) ∧ (UU ∧ UU)) (by kernel_rfl) ⟨⟨TT, TT⟩, ⟨TT, TT⟩⟩) ?_
          refine Done.mk (thenQ_n ?_)
          refine doneRet ?_
          refine Done.mk (inB_r (thenQ_r ?_))
          obtain rfl := Option.some.inj h
          exact ⟨fun q => (by cases q), fun q => (by subst q; exact ⟨rfl, by kernel_rfl⟩)⟩
        · refine awp_cond_f (b := t48) (by kernel_rfl) k11 ?_
          refine doneSkip ?_
          refine Done.mk (inB_n (thenQ_n ?_))
          refine chk_el h (fun k12 h => ?_)
          refine awp_regionD Try_mixed (orcs := []) (gs := [.keep [1, 3] [1]]) (s' := ⟨[(1, .ptr 1 0), (3, pI (i + 1))], [(1, .lit 24 [.p (encL Row.cs r_.rows)])]⟩) (by kernel_rfl) (holds_of ((UU ∧ (InR .i64 (i + 1 : Int)) ∧ UU ∧ UU) ∧ (UU ∧ UU)) (by kernel_rfl) ⟨⟨TT, k12, TT, TT⟩, ⟨TT, TT⟩⟩) ?_
          refine Done.mk ?_
          obtain rfl := Option.some.inj h
          exact ⟨rfl, by kernel_rfl⟩
    · refine awp_cond_f (b := decide (i < (r_.rows.length : Int))) (by kernel_rfl) k1 ?_
      refine doneExit ?_
      refine Done.gh [.keep [] [], .keep [] []] (s' := ⟨[], []⟩) (by kernel_rfl) (holds_of (UU ∧ UU ∧ UU) (by kernel_rfl) ⟨TT, TT, TT⟩) ?_
      refine Done.mk (thenQ_x ?_)
      obtain rfl := Option.some.inj h
      exact ⟨fun q => (by cases q), fun q => (by subst q; exact ⟨rfl, by kernel_rfl⟩)⟩
  · rcases o with _u | _u
    · refine Done.as (e := (Exit.exit 0)) (s := ⟨[], []⟩) rfl (by kernel_rfl) ?_
      refine Done.mk (inB_hit (thenQ_n ?_))
      refine awp_seq ?_
      refine awp_regionD Try_mixed (orcs := []) (gs := [.keep [2] []]) (s' := ⟨[(2, pB true)], []⟩) (by kernel_rfl) (holds_of ((UU ∧ UU) ∧ (UU ∧ UU)) (by kernel_rfl) ⟨⟨TT, TT⟩, ⟨TT, TT⟩⟩) ?_
      refine Done.mk (thenQ_n ?_)
      refine doneRet ?_
      refine Done.mk ?_
      obtain rfl := Option.some.inj h
      exact ⟨Or.inr rfl, by kernel_rfl, by kernel_rfl⟩
    · refine Done.as (e := Exit.ret) (s := ⟨[(2, pB false)], []⟩) rfl (by kernel_rfl) ?_
      refine Done.mk (inB_r (thenQ_r ?_))
      obtain rfl := Option.some.inj h
      exact ⟨Or.inr rfl, by kernel_rfl, by kernel_rfl⟩
end
end Go.AM
end
section
namespace Go.AM
open Go Go.RowKit Go.Proofs
noncomputable section
set_option maxRecDepth 100000 in
set_option maxHeartbeats 4000000 in
theorem R18_Count_ok {r_ : Region} {r : Int} (h : R18_Count r_ = some r) : ASpec Try.prog 16 [.agg [.p (encL Row.cs r_.rows)]] [] (pI r) [] := by
  refine aspec_of Try.func16 (c := _) rfl (by kernel_rfl) (by rw [Try.ntmps16]; exact Nat.le_of_ble_eq_true rfl) ?_
  refine awp_seq ?_
  refine awp_regionD Try_mixed (orcs := []) (gs := [.keep [1] [1]]) (s' := ⟨[(1, .ptr 1 0)], [(1, .lit 24 [.p (encL Row.cs r_.rows)])]⟩) (by kernel_rfl) (holds_of ((UU ∧ UU ∧ UU) ∧ (UU ∧ UU)) (by kernel_rfl) ⟨⟨TT, TT, TT⟩, ⟨TT, TT⟩⟩) ?_
  refine Done.mk (thenQ_n ?_)
  refine awp_seq ?_
  refine awp_regionD Try_mixed (orcs := []) (gs := [.keep [1, 3] [1]]) (s' := ⟨[(1, .ptr 1 0), (3, pI 0)], [(1, .lit 24 [.p (encL Row.cs r_.rows)])]⟩) (by kernel_rfl) (holds_of ((UU ∧ UU) ∧ (UU ∧ UU)) (by kernel_rfl) ⟨⟨TT, TT⟩, ⟨TT, TT⟩⟩) ?_
  refine Done.mk (thenQ_n ?_)
  refine awp_seq ?_
  refine awp_seq ?_
  refine bind_el h (fun b k1 h => ?_)
  refine awp_regionD Try_mixed (orcs := [(1, tV (pB b))]) (gs := [.keep [1, 3, 8] [1]]) (s' := ⟨[(1, .ptr 1 0), (3, pI 0), (8, pB (!b))], [(1, .lit 24 [.p (encL Row.cs r_.rows)])]⟩) (by kernel_rfl) (holds_of ((UU ∧ (ASpec Try.prog 33 [.agg [.p (encL Row.cs r_.rows)]] [] (pB b) []) ∧ UU ∧ UU) ∧ (UU ∧ UU)) (by kernel_rfl) ⟨⟨TT, R18_Valid_ok k1, TT, TT⟩, ⟨TT, TT⟩⟩) ?_
  refine Done.mk (thenQ_n ?_)
  refine ifB_el h (fun k2 h => ?_) (fun k2 h => ?_)
  · refine awp_cond_t (b := !b) (by kernel_rfl) k2 ?_
    refine awp_seq ?_
    refine awp_regionD Try_mixed (orcs := []) (gs := [.keep [2] []]) (s' := ⟨[(2, pI 0)], []⟩) (by kernel_rfl) (holds_of ((UU ∧ UU ∧ UU) ∧ (UU ∧ UU)) (by kernel_rfl) ⟨⟨TT, TT, TT⟩, ⟨TT, TT⟩⟩) ?_
    refine Done.mk (thenQ_n ?_)
    refine doneRet ?_
    refine Done.mk (thenQ_r ?_)
    obtain rfl := Option.some.inj h
    exact ⟨Or.inr rfl, by kernel_rfl, by kernel_rfl⟩
  · refine awp_cond_f (b := !b) (by kernel_rfl) k2 ?_
    refine doneSkip ?_
    refine Done.mk (thenQ_n ?_)
    refine awp_seq ?_
    refine awp_seq ?_
    refine awp_regionD Try_mixed (orcs := []) (gs := [.keep [1, 3, 4] [1]]) (s' := ⟨[(1, .ptr 1 0), (3, pI 0), (4, pI 0)], [(1, .lit 24 [.p (encL Row.cs r_.rows)])]⟩) (by kernel_rfl) (holds_of ((UU ∧ UU) ∧ (UU ∧ UU)) (by kernel_rfl) ⟨⟨TT, TT⟩, ⟨TT, TT⟩⟩) ?_
    refine Done.mk (thenQ_n ?_)
    refine awp_block ?_
    refine bind_el h (fun n3 hm h => ?_)
    refine awp_gh [.keep [1, 3, 4] [1], .keep [1, 3, 4] [1]] (s' := ⟨[(1, .ptr 1 0), (3, pI 0), (4, pI 0)], [(1, .lit 24 [.p (encL Row.cs r_.rows)])]⟩) (by kernel_rfl) (holds_of (UU ∧ UU ∧ UU) (by kernel_rfl) ⟨TT, TT, TT⟩) ?_
    refine awp_tail (fun _ => (Exit.exit 0)) (fun o => match o with | n3 => ⟨[(3, pI n3)], []⟩) hm (fun o h => ?_) ?_
    · refine awp_loop' (fun s => match s with | (n2, i) => ⟨[(1, .ptr 1 0), (3, pI n2), (4, pI i)], [(1, .lit 24 [.p (encL Row.cs r_.rows)])]⟩) h (by kernel_rfl) (fun s out h => ?_)
      obtain ⟨n2, i⟩ := s
      refine awp_seq ?_
      refine awp_seq ?_
      refine awp_regionD Try_mixed (orcs := []) (gs := [.keep [1, 3, 4, 14] [1]]) (s' := ⟨[(1, .ptr 1 0), (3, pI n2), (4, pI i), (14, pB (decide (i < (r_.rows.length : Int))))], [(1, .lit 24 [.p (encL Row.cs r_.rows)])]⟩) (by kernel_rfl) (holds_of ((UU ∧ UU ∧ UU ∧ UU ∧ UU ∧ UU) ∧ (UU ∧ UU)) (by kernel_rfl) ⟨⟨TT, TT, TT, TT, TT, TT⟩, ⟨TT, TT⟩⟩) ?_
      refine Done.mk (thenQ_n ?_)
      refine ifB_el h (fun k3 h => ?_) (fun k3 h => ?_)
      · refine awp_cond_t (b := decide (i < (r_.rows.length : Int))) (by kernel_rfl) k3 ?_
        refine doneSkip ?_
        refine Done.mk (thenQ_n ?_)
        refine awp_seq ?_
        refine awp_block ?_
        refine awp_seq ?_
        refine awp_regionD Try_mixed (orcs := []) (gs := [.keep [1, 3, 4, 5] [1]]) (s' := ⟨[(1, .ptr 1 0), (3, pI n2), (4, pI i), (5, pI 0)], [(1, .lit 24 [.p (encL Row.cs r_.rows)])]⟩) (by kernel_rfl) (holds_of ((UU ∧ UU) ∧ (UU ∧ UU)) (by kernel_rfl) ⟨⟨TT, TT⟩, ⟨TT, TT⟩⟩) ?_
        refine Done.mk (thenQ_n ?_)
        refine awp_block ?_
        refine bind_el h (fun n1 hm h => ?_)
        refine awp_gh [.keep [1, 3, 4, 5] [1], .keep [1, 3, 4, 5] [1]] (s' := ⟨[(1, .ptr 1 0), (3, pI n2), (4, pI i), (5, pI 0)], [(1, .lit 24 [.p (encL Row.cs r_.rows)])]⟩) (by kernel_rfl) (holds_of (UU ∧ UU ∧ UU) (by kernel_rfl) ⟨TT, TT, TT⟩) ?_
        refine awp_tail (fun _ => (Exit.exit 2)) (fun o => match o with | n1 => ⟨[(1, .ptr 1 0), (3, pI n1), (4, pI i)], [(1, .lit 24 [.p (encL Row.cs r_.rows)])]⟩) hm (fun o h => ?_) ?_
        · refine awp_loop' (fun s => match s with | (n, k) => ⟨[(1, .ptr 1 0), (3, pI n), (4, pI i), (5, pI k)], [(1, .lit 24 [.p (encL Row.cs r_.rows)])]⟩) h (by kernel_rfl) (fun s out h => ?_)
          obtain ⟨n, k⟩ := s
          refine awp_seq ?_
          refine awp_seq ?_
          refine bind_el h (fun r_1 k4 h => ?_)
          replace k4 := getI_el k4
          refine awp_regionD Try_mixed (orcs := [(6, tV (.p (encL Run.cs r_1.runs)))]) (gs := [.keep [1, 3, 4, 5, 25] [1]]) (s' := ⟨[(1, .ptr 1 0), (3, pI n), (4, pI i), (5, pI k), (25, pB (decide (k < (r_1.runs.length : Int))))], [(1, .lit 24 [.p (encL Row.cs r_.rows)])]⟩) (by kernel_rfl) (holds_of ((UU ∧ UU ∧ UU ∧ UU ∧ ((0 ≤ i ∧ i < (r_.rows.length : Int))) ∧ UU ∧ ((r_.rows.flatMap Row.cs)[i.toNat * 2 + 1]? = some (encL Run.cs r_1.runs)) ∧ UU ∧ UU ∧ UU) ∧ (UU ∧ UU)) (by kernel_rfl) ⟨⟨TT, TT, TT, TT, k4.2, TT, row_at Row.cs_len k4.1 (j := 1) (by omega) (by decide), TT, TT, TT⟩, ⟨TT, TT⟩⟩) ?_
          refine Done.mk (thenQ_n ?_)
          refine ifB_el h (fun k5 h => ?_) (fun k5 h => ?_)
          · refine awp_cond_t (b := decide (k < (r_1.runs.length : Int))) (by kernel_rfl) k5 ?_
            refine doneSkip ?_
            refine Done.mk (thenQ_n ?_)
            refine awp_seq ?_
            refine awp_block ?_
            refine bind_el h (fun r_2 k6 h => ?_)
            replace k6 := getI_el k6
            refine chk_el h (fun k7 h => ?_)
            refine chk_el h (fun k8 h => ?_)
            refine awp_regionD Try_mixed (orcs := [(6, tV (.p (encL Run.cs r_1.runs))), (10, tV (pI r_2.to)), (16, tV (.p (encL Run.cs r_1.runs))), (20, tV (pI r_2.frm))]) (gs := [.keep [1, 3, 4, 5] [1]]) (s' := ⟨[(1, .ptr 1 0), (3, pI (n + (r_2.to - r_2.frm))), (4, pI i), (5, pI k)], [(1, .lit 24 [.p (encL Row.cs r_.rows)])]⟩) (by kernel_rfl) (holds_of ((UU ∧ UU ∧ UU ∧ UU ∧ ((0 ≤ i ∧ i < (r_.rows.length : Int))) ∧ UU ∧ ((r_.rows.flatMap Row.cs)[i.toNat * 2 + 1]? = some (encL Run.cs r_1.runs)) ∧ UU ∧ ((0 ≤ k ∧ k < (r_1.runs.length : Int))) ∧ UU ∧ ((r_1.runs.flatMap Run.cs)[k.toNat * 2 + 1]? = some (vI r_2.to)) ∧ UU ∧ UU ∧ UU ∧ ((0 ≤ i ∧ i < (r_.rows.length : Int))) ∧ UU ∧ ((r_.rows.flatMap Row.cs)[i.toNat * 2 + 1]? = some (encL Run.cs r_1.runs)) ∧ UU ∧ ((0 ≤ k ∧ k < (r_1.runs.length : Int))) ∧ UU ∧ ((r_1.runs.flatMap Run.cs)[k.toNat * 2]? = some (vI r_2.frm)) ∧ (InR .i64 (r_2.to - r_2.frm : Int)) ∧ (InR .i64 (n + (r_2.to - r_2.frm) : Int)) ∧ UU ∧ UU) ∧ (UU ∧ UU)) (by kernel_rfl) ⟨⟨TT, TT, TT, TT, k4.2, TT, row_at Row.cs_len k4.1 (j := 1) (by omega) (by decide), TT, k6.2, TT, row_at Run.cs_len k6.1 (j := 1) (by omega) (by decide), TT, TT, TT, k4.2, TT, row_at Row.cs_len k4.1 (j := 1) (by omega) (by decide), TT, k6.2, TT, row_at Run.cs_len k6.1 (j := 0) (by omega) (by decide), k7, k8, TT, TT⟩, ⟨TT, TT⟩⟩) ?_
            refine Done.mk (inB_n (thenQ_n ?_))
            refine chk_el h (fun k9 h => ?_)
            refine awp_regionD Try_mixed (orcs := []) (gs := [.keep [1, 3, 4, 5] [1]]) (s' := ⟨[(1, .ptr 1 0), (3, pI (n + (r_2.to - r_2.frm))), (4, pI i), (5, pI (k + 1))], [(1, .lit 24 [.p (encL Row.cs r_.rows)])]⟩) (by kernel_rfl) (holds_of ((UU ∧ (InR .i64 (k + 1 : Int)) ∧ UU ∧ UU) ∧ (UU ∧ UU)) (by kernel_rfl) ⟨⟨TT, k9, TT, TT⟩, ⟨TT, TT⟩⟩) ?_
            refine Done.mk ?_
            obtain rfl := Option.some.inj h
            exact ⟨rfl, by kernel_rfl⟩
          · refine awp_cond_f (b := decide (k < (r_1.runs.length : Int))) (by kernel_rfl) k5 ?_
            refine doneExit ?_
            refine Done.gh [.keep [1, 3, 4] [1], .keep [1, 3, 4] [1]] (s' := ⟨[(1, .ptr 1 0), (3, pI n), (4, pI i)], [(1, .lit 24 [.p (encL Row.cs r_.rows)])]⟩) (by kernel_rfl) (holds_of (UU ∧ UU ∧ UU) (by kernel_rfl) ⟨TT, TT, TT⟩) ?_
            refine Done.mk (thenQ_x ?_)
            obtain rfl := Option.some.inj h
            exact ⟨fun q => (by cases q), fun q => (by subst q; exact ⟨rfl, by kernel_rfl⟩)⟩
        · have _ := hm
          refine Done.as (e := (Exit.exit 2)) (s := ⟨[(1, .ptr 1 0), (3, pI n1), (4, pI i)], [(1, .lit 24 [.p (encL Row.cs r_.rows)])]⟩) rfl (by kernel_rfl) ?_
          refine Done.mk (inB_hit (inB_n (thenQ_n ?_)))
          refine chk_el h (fun k10 h => ?_)
          refine awp_regionD Try_mixed (orcs := []) (gs := [.keep [1, 3, 4] [1]]) (s' := ⟨[(1, .ptr 1 0), (3, pI n1), (4, pI (i + 1))], [(1, .lit 24 [.p (encL Row.cs r_.rows)])]⟩) (by kernel_rfl) (holds_of ((UU ∧ (InR .i64 (i + 1 : Int)) ∧ UU ∧ UU) ∧ (UU ∧ UU)) (by kernel_rfl) ⟨⟨TT, k10, TT, TT⟩, ⟨TT, TT⟩⟩) ?_
          refine Done.mk ?_
          obtain rfl := Option.some.inj h
          exact ⟨rfl, by kernel_rfl⟩
      · refine awp_cond_f (b := decide (i < (r_.rows.length : Int))) (by kernel_rfl) k3 ?_
        refine doneExit ?_
        refine Done.gh [.keep [3] [], .keep [3] []] (s' := ⟨[(3, pI n2)], []⟩) (by kernel_rfl) (holds_of (UU ∧ UU ∧ UU) (by kernel_rfl) ⟨TT, TT, TT⟩) ?_
        refine Done.mk (thenQ_x ?_)
        obtain rfl := Option.some.inj h
        exact ⟨fun q => (by cases q), fun q => (by subst q; exact ⟨rfl, by kernel_rfl⟩)⟩
    · have _ := hm
      refine Done.as (e := (Exit.exit 0)) (s := ⟨[(3, pI n3)], []⟩) rfl (by kernel_rfl) ?_
      refine Done.mk (inB_hit (thenQ_n ?_))
      refine awp_seq ?_
      refine awp_regionD Try_mixed (orcs := []) (gs := [.keep [2] []]) (s' := ⟨[(2, pI n3)], []⟩) (by kernel_rfl) (holds_of ((UU ∧ UU ∧ UU) ∧ (UU ∧ UU)) (by kernel_rfl) ⟨⟨TT, TT, TT⟩, ⟨TT, TT⟩⟩) ?_
      refine Done.mk (thenQ_n ?_)
      refine doneRet ?_
      refine Done.mk ?_
      obtain rfl := Option.some.inj h
      exact ⟨Or.inr rfl, by kernel_rfl, by kernel_rfl⟩
end
end Go.AM
end
section
namespace Go.AM
open Go Go.RowKit Go.Proofs
noncomputable section
set_option maxRecDepth 100000 in
set_option maxHeartbeats 4000000 in
theorem L18_Small_ok {r_ : Region} {r : Bool} (h : L18_Small r_ = some r) : ASpec Try.prog 7 [.agg [.p (encL Row.cs r_.rows)]] [] (pB r) [] := by
  refine aspec_of Try.func7 (c := _) rfl (by kernel_rfl) (by rw [Try.ntmps7]; exact Nat.le_of_ble_eq_true rfl) ?_
  refine awp_seq ?_
  refine awp_regionD Try_mixed (orcs := []) (gs := [.keep [1] [1]]) (s' := ⟨[(1, .ptr 1 0)], [(1, .lit 24 [.p (encL Row.cs r_.rows)])]⟩) (by kernel_rfl) (holds_of ((UU ∧ UU ∧ UU) ∧ (UU ∧ UU)) (by kernel_rfl) ⟨⟨TT, TT, TT⟩, ⟨TT, TT⟩⟩) ?_
  refine Done.mk (thenQ_n ?_)
  refine awp_seq ?_
  refine awp_seq ?_
  refine awp_regionD Try_mixed (orcs := []) (gs := [.keep [1, 7] [1]]) (s' := ⟨[(1, .ptr 1 0), (7, pB (decide ((r_.rows.length : Int) > (40 : Int))))], [(1, .lit 24 [.p (encL Row.cs r_.rows)])]⟩) (by kernel_rfl) (holds_of ((UU ∧ UU ∧ UU ∧ UU ∧ UU) ∧ (UU ∧ UU)) (by kernel_rfl) ⟨⟨TT, TT, TT, TT, TT⟩, ⟨TT, TT⟩⟩) ?_
  refine Done.mk (thenQ_n ?_)
  refine ifB_el h (fun k1 h => ?_) (fun k1 h => ?_)
  · refine awp_cond_t (b := decide ((r_.rows.length : Int) > (40 : Int))) (by kernel_rfl) k1 ?_
    refine awp_seq ?_
    refine awp_regionD Try_mixed (orcs := []) (gs := [.keep [2] []]) (s' := ⟨[(2, pB false)], []⟩) (by kernel_rfl) (holds_of ((UU ∧ UU) ∧ (UU ∧ UU)) (by kernel_rfl) ⟨⟨TT, TT⟩, ⟨TT, TT⟩⟩) ?_
    refine Done.mk (thenQ_n ?_)
    refine doneRet ?_
    refine Done.mk (thenQ_r ?_)
    obtain rfl := Option.some.inj h
    exact ⟨Or.inr rfl, by kernel_rfl, by kernel_rfl⟩
  · refine awp_cond_f (b := decide ((r_.rows.length : Int) > (40 : Int))) (by kernel_rfl) k1 ?_
    refine doneSkip ?_
    refine Done.mk (thenQ_n ?_)
    refine awp_seq ?_
    refine awp_seq ?_
    refine awp_regionD Try_mixed (orcs := []) (gs := [.keep [1, 3] [1]]) (s' := ⟨[(1, .ptr 1 0), (3, pI 0)], [(1, .lit 24 [.p (encL Row.cs r_.rows)])]⟩) (by kernel_rfl) (holds_of ((UU ∧ UU) ∧ (UU ∧ UU)) (by kernel_rfl) ⟨⟨TT, TT⟩, ⟨TT, TT⟩⟩) ?_
    refine Done.mk (thenQ_n ?_)
    refine awp_block ?_
    refine bind_el h (fun o hm h => ?_)
    refine awp_gh [.keep [1, 3] [1], .keep [1, 3] [1]] (s' := ⟨[(1, .ptr 1 0), (3, pI 0)], [(1, .lit 24 [.p (encL Row.cs r_.rows)])]⟩) (by kernel_rfl) (holds_of (UU ∧ UU ∧ UU) (by kernel_rfl) ⟨TT, TT, TT⟩) ?_
    refine awp_tail (fun o => match o with | .inl _ => (Exit.exit 0) | .inr _ => Exit.ret) (fun o => match o with | .inl _ => ⟨[(1, .ptr 1 0)], [(1, .lit 24 [.p (encL Row.cs r_.rows)])]⟩ | .inr _ => ⟨[(2, pB false)], []⟩) hm (fun o h => ?_) ?_
    · refine awp_loop' (fun s => match s with | i => ⟨[(1, .ptr 1 0), (3, pI i)], [(1, .lit 24 [.p (encL Row.cs r_.rows)])]⟩) h (by kernel_rfl) (fun i out h => ?_)
      refine awp_seq ?_
      refine awp_seq ?_
      refine awp_regionD Try_mixed (orcs := []) (gs := [.keep [1, 3, 12] [1]]) (s' := ⟨[(1, .ptr 1 0), (3, pI i), (12, pB (decide (i < (r_.rows.length : Int))))], [(1, .lit 24 [.p (encL Row.cs r_.rows)])]⟩) (by kernel_rfl) (holds_of ((UU ∧ UU ∧ UU ∧ UU ∧ UU ∧ UU) ∧ (UU ∧ UU)) (by kernel_rfl) ⟨⟨TT, TT, TT, TT, TT, TT⟩, ⟨TT, TT⟩⟩) ?_
      refine Done.mk (thenQ_n ?_)
      refine ifB_el h (fun k2 h => ?_) (fun k2 h => ?_)
      · refine awp_cond_t (b := decide (i < (r_.rows.length : Int))) (by kernel_rfl) k2 ?_
        refine doneSkip ?_
        refine Done.mk (thenQ_n ?_)
        refine awp_seq ?_
        refine awp_block ?_
        refine awp_seq ?_
        refine bind_el h (fun r_1 k3 h => ?_)
        replace k3 := getI_el k3
        refine awp_regionD Try_mixed (orcs := [(5, tV (.p (encL Run.cs r_1.runs)))]) (gs := [.keep [1, 3, 22] [1]]) (s' := ⟨[(1, .ptr 1 0), (3, pI i), (22, pB (decide ((r_1.runs.length : Int) > (40 : Int))))], [(1, .lit 24 [.p (encL Row.cs r_.rows)])]⟩) (by kernel_rfl) (holds_of ((UU ∧ UU ∧ UU ∧ ((0 ≤ i ∧ i < (r_.rows.length : Int))) ∧ UU ∧ ((r_.rows.flatMap Row.cs)[i.toNat * 2 + 1]? = some (encL Run.cs r_1.runs)) ∧ UU ∧ UU ∧ UU) ∧ (UU ∧ UU)) (by kernel_rfl) ⟨⟨TT, TT, TT, k3.2, TT, row_at Row.cs_len k3.1 (j := 1) (by omega) (by decide), TT, TT, TT⟩, ⟨TT, TT⟩⟩) ?_
        refine Done.mk (thenQ_n ?_)
        refine ifB_el h (fun k4 h => ?_) (fun k4 h => ?_)
        · refine awp_cond_t (b := decide ((r_1.runs.length : Int) > (40 : Int))) (by kernel_rfl) k4 ?_
          refine awp_seq ?_
          refine awp_regionD Try_mixed (orcs := []) (gs := [.keep [2] []]) (s' := ⟨[(2, pB false)], []⟩) (by kernel_rfl) (holds_of ((UU ∧ UU) ∧ (UU ∧ UU)) (by kernel_rfl) ⟨⟨TT, TT⟩, ⟨TT, TT⟩⟩) ?_
          refine Done.mk (thenQ_n ?_)
          refine doneRet ?_
          refine Done.mk (inB_r (thenQ_r ?_))
          obtain rfl := Option.some.inj h
          exact ⟨fun q => (by cases q), fun q => (by subst q; exact ⟨rfl, by kernel_rfl⟩)⟩
        · refine awp_cond_f (b := decide ((r_1.runs.length : Int) > (40 : Int))) (by kernel_rfl) k4 ?_
          refine doneSkip ?_
          refine Done.mk (inB_n (thenQ_n ?_))
          refine chk_el h (fun k5 h => ?_)
          refine awp_regionD Try_mixed (orcs := []) (gs := [.keep [1, 3] [1]]) (s' := ⟨[(1, .ptr 1 0), (3, pI (i + 1))], [(1, .lit 24 [.p (encL Row.cs r_.rows)])]⟩) (by kernel_rfl) (holds_of ((UU ∧ (InR .i64 (i + 1 : Int)) ∧ UU ∧ UU) ∧ (UU ∧ UU)) (by kernel_rfl) ⟨⟨TT, k5, TT, TT⟩, ⟨TT, TT⟩⟩) ?_
          refine Done.mk ?_
          obtain rfl := Option.some.inj h
          exact ⟨rfl, by kernel_rfl⟩
      · refine awp_cond_f (b := decide (i < (r_.rows.length : Int))) (by kernel_rfl) k2 ?_
        refine doneExit ?_
        refine Done.gh [.keep [1] [1], .keep [1] [1]] (s' := ⟨[(1, .ptr 1 0)], [(1, .lit 24 [.p (encL Row.cs r_.rows)])]⟩) (by kernel_rfl) (holds_of (UU ∧ UU ∧ UU) (by kernel_rfl) ⟨TT, TT, TT⟩) ?_
        refine Done.mk (thenQ_x ?_)
        obtain rfl := Option.some.inj h
        exact ⟨fun q => (by cases q), fun q => (by subst q; exact ⟨rfl, by kernel_rfl⟩)⟩
    · rcases o with _u | _u
      · refine Done.as (e := (Exit.exit 0)) (s := ⟨[(1, .ptr 1 0)], [(1, .lit 24 [.p (encL Row.cs r_.rows)])]⟩) rfl (by kernel_rfl) ?_
        refine Done.mk (inB_hit (thenQ_n ?_))
        refine awp_seq ?_
        refine bind_el h (fun n k6 h => ?_)
        refine awp_regionD Try_mixed (orcs := [(1, tV (pI n))]) (gs := [.keep [2] []]) (s' := ⟨[(2, pB (decide (n ≤ (600 : Int))))], []⟩) (by kernel_rfl) (holds_of ((UU ∧ (ASpec Try.prog 16 [.agg [.p (encL Row.cs r_.rows)]] [] (pI n) []) ∧ UU ∧ UU ∧ UU) ∧ (UU ∧ UU)) (by kernel_rfl) ⟨⟨TT, R18_Count_ok k6, TT, TT, TT⟩, ⟨TT, TT⟩⟩) ?_
        refine Done.mk (thenQ_n ?_)
        refine doneRet ?_
        refine Done.mk ?_
        obtain rfl := Option.some.inj h
        exact ⟨Or.inr rfl, by kernel_rfl, by kernel_rfl⟩
      · refine Done.as (e := Exit.ret) (s := ⟨[(2, pB false)], []⟩) rfl (by kernel_rfl) ?_
        refine Done.mk (inB_r (thenQ_r ?_))
        obtain rfl := Option.some.inj h
        exact ⟨Or.inr rfl, by kernel_rfl, by kernel_rfl⟩
end
end Go.AM
end
section
namespace Go.AM
open Go Go.RowKit Go.Proofs
noncomputable section
set_option maxRecDepth 100000 in
set_option maxHeartbeats 4000000 in
theorem L24_box_ok {x : Int} {y : Int} {w_ : Int} {h_ : Int} {r : Region} (h : L24_box x y w_ h_ = some r) : ASpec Try.prog 12 [pI x, pI y, pI w_, pI h_] [] (.agg [.p (encL Row.cs r.rows)]) [] := by
  refine aspec_of Try.func12 (c := _) rfl (by kernel_rfl) (by rw [Try.ntmps12]; exact Nat.le_of_ble_eq_true rfl) ?_
  refine awp_seq ?_
  refine awp_regionD Try_mixed (orcs := []) (gs := [.keep [0, 1, 2, 3, 8] [8]]) (s' := ⟨[(0, pI x), (1, pI y), (2, pI w_), (3, pI h_), (8, .ptr 8 0)], [(8, .lit 24 [.nils])]⟩) (by kernel_rfl) (holds_of ((UU ∧ UU) ∧ (UU ∧ UU)) (by kernel_rfl) ⟨⟨TT, TT⟩, ⟨TT, TT⟩⟩) ?_
  refine Done.mk (thenQ_n ?_)
  refine awp_seq ?_
  refine awp_regionD Try_mixed (orcs := []) (gs := [.keep [0, 1, 2, 3, 8, 9] [8, 9]]) (s' := ⟨[(0, pI x), (1, pI y), (2, pI w_), (3, pI h_), (8, .ptr 8 0), (9, .ptr 9 0)], [(8, .lit 24 [.nils]), (9, .lit 24 [.nils])]⟩) (by kernel_rfl) (holds_of ((UU ∧ UU) ∧ (UU ∧ UU)) (by kernel_rfl) ⟨⟨TT, TT⟩, ⟨TT, TT⟩⟩) ?_
  refine Done.mk (thenQ_n ?_)
  refine awp_seq ?_
  refine awp_seq ?_
  refine awp_regionD Try_mixed (orcs := []) (gs := [.keep [0, 1, 2, 3, 8, 9, 10] [8, 9]]) (s' := ⟨[(0, pI x), (1, pI y), (2, pI w_), (3, pI h_), (8, .ptr 8 0), (9, .ptr 9 0), (10, pI 0)], [(8, .lit 24 [.nils]), (9, .lit 24 [.nils])]⟩) (by kernel_rfl) (holds_of ((UU ∧ UU) ∧ (UU ∧ UU)) (by kernel_rfl) ⟨⟨TT, TT⟩, ⟨TT, TT⟩⟩) ?_
  refine Done.mk (thenQ_n ?_)
  refine awp_block ?_
  refine bind_el h (fun out_1 hm h => ?_)
  refine awp_gh [.keep [0, 1, 2, 3, 8, 9, 10] [8, 9], .opnB 9 0 5001 48 2, .keep [0, 1, 2, 3, 8, 9, 10] [8, 9, 5001]] (s' := ⟨[(0, pI x), (1, pI y), (2, pI w_), (3, pI h_), (8, .ptr 8 0), (9, .ptr 9 0), (10, pI 0)], [(8, .lit 24 [.nils]), (9, .lit 24 [.own 5001 0 (([] : List Row)).length 2]), (5001, .row 48 ((([] : List Row)).flatMap Row.cs))]⟩) (by kernel_rfl) (holds_of (UU ∧ UU ∧ UU ∧ UU) (by kernel_rfl) ⟨TT, TT, TT, TT⟩) ?_
  refine awp_tail (fun _ => (Exit.exit 0)) (fun o => match o with | out_1 => ⟨[(8, .ptr 8 0), (9, .ptr 9 0)], [(8, .lit 24 [.nils]), (9, .lit 24 [.own 5001 0 out_1.length 2]), (5001, .row 48 (out_1.flatMap Row.cs))]⟩) hm (fun o h => ?_) ?_
  · refine awp_loop' (fun s => match s with | (i, out_) => ⟨[(0, pI x), (1, pI y), (2, pI w_), (3, pI h_), (8, .ptr 8 0), (9, .ptr 9 0), (10, pI i)], [(8, .lit 24 [.nils]), (9, .lit 24 [.own 5001 0 out_.length 2]), (5001, .row 48 (out_.flatMap Row.cs))]⟩) h (by kernel_rfl) (fun s out h => ?_)
    obtain ⟨i, out_⟩ := s
    refine awp_seq ?_
    refine awp_seq ?_
    refine awp_regionD Try_mixed (orcs := []) (gs := [.keep [0, 1, 2, 3, 8, 9, 10, 13] [8, 9, 5001]]) (s' := ⟨[(0, pI x), (1, pI y), (2, pI w_), (3, pI h_), (8, .ptr 8 0), (9, .ptr 9 0), (10, pI i), (13, pB (decide (i < h_)))], [(8, .lit 24 [.nils]), (9, .lit 24 [.own 5001 0 out_.length 2]), (5001, .row 48 (out_.flatMap Row.cs))]⟩) (by kernel_rfl) (holds_of ((UU ∧ UU ∧ UU ∧ UU) ∧ (UU ∧ UU)) (by kernel_rfl) ⟨⟨TT, TT, TT, TT⟩, ⟨TT, TT⟩⟩) ?_
    refine Done.mk (thenQ_n ?_)
    refine ifB_el h (fun k1 h => ?_) (fun k1 h => ?_)
    · refine awp_cond_t (b := decide (i < h_)) (by kernel_rfl) k1 ?_
      refine doneSkip ?_
      refine Done.mk (thenQ_n ?_)
      refine awp_seq ?_
      refine awp_block ?_
      refine chk_el h (fun k2 h => ?_)
      refine chk_el h (fun k3 h => ?_)
      refine chk_el h (fun k4 h => ?_)
      refine awp_regionD Try_mixed (orcs := [(13, tV (.own 29 0 (out_ ++ ([Row.mk (y + i) ([Run.mk x (x + w_)])])).length 2))]) (gs := [.castB 29 (.row 48 ((out_ ++ ([Row.mk (y + i) ([Run.mk x (x + w_)])])).flatMap Row.cs)), .keep [0, 1, 2, 3, 8, 9, 10] [8, 9, 29]]) (s' := ⟨[(0, pI x), (1, pI y), (2, pI w_), (3, pI h_), (8, .ptr 8 0), (9, .ptr 9 0), (10, pI i)], [(8, .lit 24 [.nils]), (9, .lit 24 [.own 29 0 (out_ ++ ([Row.mk (y + i) ([Run.mk x (x + w_)])])).length 2]), (29, .row 48 ((out_ ++ ([Row.mk (y + i) ([Run.mk x (x + w_)])])).flatMap Row.cs))]⟩) (by kernel_rfl) (holds_of ((UU ∧ UU ∧ UU ∧ UU ∧ (InR .i64 (y + i : Int)) ∧ UU ∧ UU ∧ UU ∧ (InR .i64 (x + w_ : Int)) ∧ UU ∧ UU ∧ UU ∧ UU ∧ ((((out_.flatMap Row.cs).length = out_.length * 2 ∧ (([Row.mk (y + i) ([Run.mk x (x + w_)])]).flatMap Row.cs).length = ([Row.mk (y + i) ([Run.mk x (x + w_)])]).length * 2 ∧ (out_.length + ([Row.mk (y + i) ([Run.mk x (x + w_)])]).length) * 32 ≤ 140737488355328 ∧ out_.length + ([Row.mk (y + i) ([Run.mk x (x + w_)])]).length ≤ 9223372036854775807) ∧ some (AV.own 29 0 (out_.length + ([Row.mk (y + i) ([Run.mk x (x + w_)])]).length) 2) = some (AV.own 29 0 (out_ ++ ([Row.mk (y + i) ([Run.mk x (x + w_)])])).length 2))) ∧ UU ∧ UU ∧ UU) ∧ ((some (ABlk.row 48 (out_.flatMap Row.cs ++ ([Row.mk (y + i) ([Run.mk x (x + w_)])]).flatMap Row.cs)) = some (ABlk.row 48 ((out_ ++ ([Row.mk (y + i) ([Run.mk x (x + w_)])])).flatMap Row.cs))) ∧ UU ∧ UU)) (by kernel_rfl) ⟨⟨TT, TT, TT, TT, k2, TT, TT, TT, k3, TT, TT, TT, TT, ⟨⟨flat_len Row.cs_len _, flat_len Row.cs_len _, by omega, by omega⟩, app_len _ _ _ _⟩, TT, TT, TT⟩, ⟨(app_row Row.cs _ _ _), TT, TT⟩⟩) ?_
      refine Done.mk (inB_n (thenQ_n ?_))
      refine chk_el h (fun k5 h => ?_)
      refine awp_regionD Try_mixed (orcs := []) (gs := [.keep [0, 1, 2, 3, 8, 9, 10] [8, 9, 29]]) (s' := ⟨[(0, pI x), (1, pI y), (2, pI w_), (3, pI h_), (8, .ptr 8 0), (9, .ptr 9 0), (10, pI (i + 1))], [(8, .lit 24 [.nils]), (9, .lit 24 [.own 29 0 (out_ ++ ([Row.mk (y + i) ([Run.mk x (x + w_)])])).length 2]), (29, .row 48 ((out_ ++ ([Row.mk (y + i) ([Run.mk x (x + w_)])])).flatMap Row.cs))]⟩) (by kernel_rfl) (holds_of ((UU ∧ (InR .i64 (i + 1 : Int)) ∧ UU ∧ UU) ∧ (UU ∧ UU)) (by kernel_rfl) ⟨⟨TT, k5, TT, TT⟩, ⟨TT, TT⟩⟩) ?_
      refine Done.gh [.keep [0, 1, 2, 3, 8, 9, 10] [8, 9, 29], .ren 29 5001, .keep [0, 1, 2, 3, 8, 9, 10] [8, 9, 5001]] (s' := ⟨[(0, pI x), (1, pI y), (2, pI w_), (3, pI h_), (8, .ptr 8 0), (9, .ptr 9 0), (10, pI (i + 1))], [(8, .lit 24 [.nils]), (9, .lit 24 [.own 5001 0 (out_ ++ ([Row.mk (y + i) ([Run.mk x (x + w_)])])).length 2]), (5001, .row 48 ((out_ ++ ([Row.mk (y + i) ([Run.mk x (x + w_)])])).flatMap Row.cs))]⟩) (by kernel_rfl) (holds_of (UU ∧ UU ∧ UU ∧ UU) (by kernel_rfl) ⟨TT, TT, TT, TT⟩) ?_
      refine Done.mk ?_
      obtain rfl := Option.some.inj h
      exact ⟨rfl, by kernel_rfl⟩
    · refine awp_cond_f (b := decide (i < h_)) (by kernel_rfl) k1 ?_
      refine doneExit ?_
      refine Done.gh [.keep [8, 9] [8, 9, 5001], .keep [8, 9] [8, 9, 5001]] (s' := ⟨[(8, .ptr 8 0), (9, .ptr 9 0)], [(8, .lit 24 [.nils]), (9, .lit 24 [.own 5001 0 out_.length 2]), (5001, .row 48 (out_.flatMap Row.cs))]⟩) (by kernel_rfl) (holds_of (UU ∧ UU ∧ UU) (by kernel_rfl) ⟨TT, TT, TT⟩) ?_
      refine Done.mk (thenQ_x ?_)
      obtain rfl := Option.some.inj h
      exact ⟨fun q => (by cases q), fun q => (by subst q; exact ⟨rfl, by kernel_rfl⟩)⟩
  · have _ := hm
    refine Done.as (e := (Exit.exit 0)) (s := ⟨[(8, .ptr 8 0), (9, .ptr 9 0)], [(8, .lit 24 [.nils]), (9, .lit 24 [.own 5001 0 out_1.length 2]), (5001, .row 48 (out_1.flatMap Row.cs))]⟩) rfl (by kernel_rfl) ?_
    refine Done.mk (inB_hit (thenQ_n ?_))
    refine awp_seq ?_
    refine awp_regionD Try_mixed (orcs := []) (gs := [.keep [8] [8, 5001]]) (s' := ⟨[(8, .ptr 8 0)], [(8, .lit 24 [.own 5001 0 out_1.length 2]), (5001, .row 48 (out_1.flatMap Row.cs))]⟩) (by kernel_rfl) (holds_of ((UU ∧ UU ∧ UU) ∧ (UU ∧ UU)) (by kernel_rfl) ⟨⟨TT, TT, TT⟩, ⟨TT, TT⟩⟩) ?_
    refine Done.mk (thenQ_n ?_)
    refine doneRet ?_
    refine Done.gh [.frz 5001, .keep [8] [8]] (s' := ⟨[(8, .ptr 8 0)], [(8, .lit 24 [.p (encL Row.cs out_1)])]⟩) (by kernel_rfl) (holds_of (UU ∧ UU ∧ UU) (by kernel_rfl) ⟨TT, TT, TT⟩) ?_
    refine Done.mk ?_
    obtain rfl := Option.some.inj h
    exact ⟨Or.inr rfl, by kernel_rfl, by kernel_rfl⟩
end
end Go.AM
end
section
namespace Go.AM
open Go Go.RowKit Go.Proofs
noncomputable section
set_option maxRecDepth 100000 in
set_option maxHeartbeats 4000000 in
theorem L24_awake_ok  {r : Bool} (h : L24_awake = some r) : ASpec Try.prog 8 [] [] (pB r) [] := by
  refine aspec_of Try.func8 (c := _) rfl (by kernel_rfl) (by rw [Try.ntmps8]; exact Nat.le_of_ble_eq_true rfl) ?_
  refine awp_seq ?_
  refine awp_regionD Try_mixed (orcs := []) (gs := [.keep [] []]) (s' := ⟨[], []⟩) (by kernel_rfl) (holds_of ((UU ∧ UU) ∧ (UU ∧ UU)) (by kernel_rfl) ⟨⟨TT, TT⟩, ⟨TT, TT⟩⟩) ?_
  refine Done.mk (thenQ_n ?_)
  refine awp_seq ?_
  refine bind_el h (fun v k1 h => ?_)
  refine bind_el h (fun v1 k2 h => ?_)
  refine awp_regionD Try_mixed (orcs := [(0, tV (.agg [.p (encL Row.cs v.rows)])), (1, tV (.p (encL Track.cs v1)))]) (gs := [.keep [1] []]) (s' := ⟨[(1, .p (encL Track.cs v1))], []⟩) (by kernel_rfl) (holds_of (((ASpec Try.prog 12 [pI 0, pI 0, pI 2, pI 2] [] (.agg [.p (encL Row.cs v.rows)]) []) ∧ (ASpec Try.prog 10 [.agg [.p (encL Row.cs v.rows)]] [] (.p (encL Track.cs v1)) []) ∧ UU ∧ UU) ∧ (UU ∧ UU)) (by kernel_rfl) ⟨⟨L24_box_ok k1, ringwalk_Walk_ok k2, TT, TT⟩, ⟨TT, TT⟩⟩) ?_
  refine Done.mk (thenQ_n ?_)
  refine awp_seq ?_
  refine awp_seq ?_
  refine bind_el h (fun t15 hm h => ?_)
  refine awp_tail (fun _ => Exit.normal) (fun o => match o with | t15 => ⟨[(1, .p (encL Track.cs v1)), (15, pB t15)], []⟩) hm (fun o h => ?_) ?_
  · refine ifB_el h (fun k3 h => ?_) (fun k3 h => ?_)
    · refine awp_regionD Try_mixed (orcs := [(3, tB true)]) (gs := [.keep [1, 15] []]) (s' := ⟨[(1, .p (encL Track.cs v1)), (15, pB true)], []⟩) (by kernel_rfl) (holds_of ((UU ∧ UU ∧ UU ∧ ((UU ∧ some (pB ((v1.length : Int) != (1 : Int))) = some (pB true))) ∧ UU ∧ UU) ∧ (UU ∧ UU)) (by kernel_rfl) ⟨⟨TT, TT, TT, ⟨TT, by rw [k3]⟩, TT, TT⟩, ⟨TT, TT⟩⟩) ?_
      refine Done.mk ?_
      obtain rfl := Option.some.inj h
      exact ⟨rfl, by kernel_rfl⟩
    · refine bind_el h (fun t k4 h => ?_)
      replace k4 := getI_el k4
      refine awp_regionD Try_mixed (orcs := [(3, tB false), (7, tV (.p (encL Cell.cs t.cells)))]) (gs := [.keep [1, 15] []]) (s' := ⟨[(1, .p (encL Track.cs v1)), (15, pB ((t.cells.length : Int) != (4 : Int)))], []⟩) (by kernel_rfl) (holds_of ((UU ∧ UU ∧ UU ∧ ((UU ∧ some (pB ((v1.length : Int) != (1 : Int))) = some (pB false))) ∧ UU ∧ ((0 ≤ (0 : Int) ∧ (0 : Int) < (v1.length : Int))) ∧ UU ∧ ((v1.flatMap Track.cs)[(0 : Int).toNat * 3 + 2]? = some (encL Cell.cs t.cells)) ∧ UU ∧ UU ∧ UU ∧ UU) ∧ (UU ∧ UU)) (by kernel_rfl) ⟨⟨TT, TT, TT, ⟨TT, by rw [k3]⟩, TT, k4.2, TT, row_at Track.cs_len k4.1 (j := 2) (by omega) (by decide), TT, TT, TT, TT⟩, ⟨TT, TT⟩⟩) ?_
      refine Done.mk ?_
      obtain rfl := Option.some.inj h
      exact ⟨rfl, by kernel_rfl⟩
  · have _ := hm
    refine Done.as (e := Exit.normal) (s := ⟨[(1, .p (encL Track.cs v1)), (15, pB t15)], []⟩) rfl (by kernel_rfl) ?_
    refine Done.mk (thenQ_n ?_)
    refine ifB_el h (fun k5 h => ?_) (fun k5 h => ?_)
    · refine awp_cond_t (b := t15) (by kernel_rfl) k5 ?_
      refine awp_seq ?_
      refine awp_regionD Try_mixed (orcs := []) (gs := [.keep [0] []]) (s' := ⟨[(0, pB false)], []⟩) (by kernel_rfl) (holds_of ((UU ∧ UU) ∧ (UU ∧ UU)) (by kernel_rfl) ⟨⟨TT, TT⟩, ⟨TT, TT⟩⟩) ?_
      refine Done.mk (thenQ_n ?_)
      refine doneRet ?_
      refine Done.mk (thenQ_r ?_)
      obtain rfl := Option.some.inj h
      exact ⟨Or.inr rfl, by kernel_rfl, by kernel_rfl⟩
    · refine awp_cond_f (b := t15) (by kernel_rfl) k5 ?_
      refine doneSkip ?_
      refine Done.mk (thenQ_n ?_)
      refine awp_seq ?_
      refine bind_el h (fun t1 k6 h => ?_)
      replace k6 := getI_el k6
      refine awp_regionD Try_mixed (orcs := [(3, tV (.p (encL Cell.cs t1.cells)))]) (gs := [.keep [1, 2] []]) (s' := ⟨[(1, .p (encL Track.cs v1)), (2, .p (encL Cell.cs t1.cells))], []⟩) (by kernel_rfl) (holds_of ((UU ∧ ((0 ≤ (0 : Int) ∧ (0 : Int) < (v1.length : Int))) ∧ UU ∧ ((v1.flatMap Track.cs)[(0 : Int).toNat * 3 + 2]? = some (encL Cell.cs t1.cells)) ∧ UU ∧ UU) ∧ (UU ∧ UU)) (by kernel_rfl) ⟨⟨TT, k6.2, TT, row_at Track.cs_len k6.1 (j := 2) (by omega) (by decide), TT, TT⟩, ⟨TT, TT⟩⟩) ?_
      refine Done.mk (thenQ_n ?_)
      refine awp_seq ?_
      refine bind_el h (fun t0 hm h => ?_)
      refine awp_tail (fun _ => Exit.normal) (fun o => match o with | t0 => ⟨[(0, pB t0)], []⟩) hm (fun o h => ?_) ?_
      · refine ifB_el h (fun k7 h => ?_) (fun k7 h => ?_)
        · refine ifB_el h (fun k8 h => ?_) (fun k8 h => ?_)
          · refine bind_el h (fun c k9 h => ?_)
            replace k9 := getI_el k9
            refine ifB_el h (fun k10 h => ?_) (fun k10 h => ?_)
            · refine bind_el h (fun c1 k11 h => ?_)
              replace k11 := getI_el k11
              refine ifB_el h (fun k12 h => ?_) (fun k12 h => ?_)
              · refine bind_el h (fun c2 k13 h => ?_)
                replace k13 := getI_el k13
                refine ifB_el h (fun k14 h => ?_) (fun k14 h => ?_)
                · refine bind_el h (fun c3 k15 h => ?_)
                  replace k15 := getI_el k15
                  refine awp_regionD Try_mixed (orcs := [(3, tV (pB t1.closed)), (4, tB true), (8, tV (pI t1.role)), (11, tB true), (14, tV (.agg [pI c.x, pI c.y])), (18, tB true), (21, tV (.agg [pI c1.x, pI c1.y])), (25, tB true), (28, tV (.agg [pI c2.x, pI c2.y])), (32, tB true), (35, tV (.agg [pI c3.x, pI c3.y]))]) (gs := [.keep [0] []]) (s' := ⟨[(0, pB ((c3.x == (0 : Int)) && ((c3.y == (1 : Int)) && true)))], []⟩) (by kernel_rfl) (holds_of ((UU ∧ ((0 ≤ (0 : Int) ∧ (0 : Int) < (v1.length : Int))) ∧ UU ∧ ((v1.flatMap Track.cs)[(0 : Int).toNat * 3 + 1]? = some (.bool t1.closed)) ∧ ((UU ∧ some (pB t1.closed) = some (pB true))) ∧ UU ∧ ((0 ≤ (0 : Int) ∧ (0 : Int) < (v1.length : Int))) ∧ UU ∧ ((v1.flatMap Track.cs)[(0 : Int).toNat * 3]? = some (vI t1.role)) ∧ UU ∧ UU ∧ ((UU ∧ some (pB (t1.role == (1 : Int))) = some (pB true))) ∧ UU ∧ ((0 ≤ (0 : Int) ∧ (0 : Int) < (t1.cells.length : Int))) ∧ (rowHas (t1.cells.flatMap Cell.cs) ((0 : Int).toNat * 2) [pI c.x, pI c.y]) ∧ UU ∧ UU ∧ UU ∧ ((UU ∧ some (pB ((c.x == (0 : Int)) && ((c.y == (0 : Int)) && true))) = some (pB true))) ∧ UU ∧ ((0 ≤ (1 : Int) ∧ (1 : Int) < (t1.cells.length : Int))) ∧ (rowHas (t1.cells.flatMap Cell.cs) ((1 : Int).toNat * 2) [pI c1.x, pI c1.y]) ∧ UU ∧ UU ∧ UU ∧ ((UU ∧ some (pB ((c1.x == (1 : Int)) && ((c1.y == (0 : Int)) && true))) = some (pB true))) ∧ UU ∧ ((0 ≤ (2 : Int) ∧ (2 : Int) < (t1.cells.length : Int))) ∧ (rowHas (t1.cells.flatMap Cell.cs) ((2 : Int).toNat * 2) [pI c2.x, pI c2.y]) ∧ UU ∧ UU ∧ UU ∧ ((UU ∧ some (pB ((c2.x == (1 : Int)) && ((c2.y == (1 : Int)) && true))) = some (pB true))) ∧ UU ∧ ((0 ≤ (3 : Int) ∧ (3 : Int) < (t1.cells.length : Int))) ∧ (rowHas (t1.cells.flatMap Cell.cs) ((3 : Int).toNat * 2) [pI c3.x, pI c3.y]) ∧ UU ∧ UU ∧ UU ∧ UU ∧ UU) ∧ (UU ∧ UU)) (by kernel_rfl) ⟨⟨TT, k6.2, TT, row_at Track.cs_len k6.1 (j := 1) (by omega) (by decide), ⟨TT, by rw [k7]⟩, TT, k6.2, TT, row_at Track.cs_len k6.1 (j := 0) (by omega) (by decide), TT, TT, ⟨TT, by rw [k8]⟩, TT, k9.2, row_has Cell.cs_len k9.1 (o := 0) (m := 2) (by omega) (by decide), TT, TT, TT, ⟨TT, by rw [k10]⟩, TT, k11.2, row_has Cell.cs_len k11.1 (o := 0) (m := 2) (by omega) (by decide), TT, TT, TT, ⟨TT, by rw [k12]⟩, TT, k13.2, row_has Cell.cs_len k13.1 (o := 0) (m := 2) (by omega) (by decide), TT, TT, TT, ⟨TT, by rw [k14]⟩, TT, k15.2, row_has Cell.cs_len k15.1 (o := 0) (m := 2) (by omega) (by decide), TT, TT, TT, TT, TT⟩, ⟨TT, TT⟩⟩) ?_
                  refine Done.mk ?_
                  obtain rfl := Option.some.inj h
                  exact ⟨rfl, by kernel_rfl⟩
                · refine awp_regionD Try_mixed (orcs := [(3, tV (pB t1.closed)), (4, tB true), (8, tV (pI t1.role)), (11, tB true), (14, tV (.agg [pI c.x, pI c.y])), (18, tB true), (21, tV (.agg [pI c1.x, pI c1.y])), (25, tB true), (28, tV (.agg [pI c2.x, pI c2.y])), (32, tB false)]) (gs := [.keep [0] []]) (s' := ⟨[(0, pB false)], []⟩) (by kernel_rfl) (holds_of ((UU ∧ ((0 ≤ (0 : Int) ∧ (0 : Int) < (v1.length : Int))) ∧ UU ∧ ((v1.flatMap Track.cs)[(0 : Int).toNat * 3 + 1]? = some (.bool t1.closed)) ∧ ((UU ∧ some (pB t1.closed) = some (pB true))) ∧ UU ∧ ((0 ≤ (0 : Int) ∧ (0 : Int) < (v1.length : Int))) ∧ UU ∧ ((v1.flatMap Track.cs)[(0 : Int).toNat * 3]? = some (vI t1.role)) ∧ UU ∧ UU ∧ ((UU ∧ some (pB (t1.role == (1 : Int))) = some (pB true))) ∧ UU ∧ ((0 ≤ (0 : Int) ∧ (0 : Int) < (t1.cells.length : Int))) ∧ (rowHas (t1.cells.flatMap Cell.cs) ((0 : Int).toNat * 2) [pI c.x, pI c.y]) ∧ UU ∧ UU ∧ UU ∧ ((UU ∧ some (pB ((c.x == (0 : Int)) && ((c.y == (0 : Int)) && true))) = some (pB true))) ∧ UU ∧ ((0 ≤ (1 : Int) ∧ (1 : Int) < (t1.cells.length : Int))) ∧ (rowHas (t1.cells.flatMap Cell.cs) ((1 : Int).toNat * 2) [pI c1.x, pI c1.y]) ∧ UU ∧ UU ∧ UU ∧ ((UU ∧ some (pB ((c1.x == (1 : Int)) && ((c1.y == (0 : Int)) && true))) = some (pB true))) ∧ UU ∧ ((0 ≤ (2 : Int) ∧ (2 : Int) < (t1.cells.length : Int))) ∧ (rowHas (t1.cells.flatMap Cell.cs) ((2 : Int).toNat * 2) [pI c2.x, pI c2.y]) ∧ UU ∧ UU ∧ UU ∧ ((UU ∧ some (pB ((c2.x == (1 : Int)) && ((c2.y == (1 : Int)) && true))) = some (pB false))) ∧ UU ∧ UU ∧ UU) ∧ (UU ∧ UU)) (by kernel_rfl) ⟨⟨TT, k6.2, TT, row_at Track.cs_len k6.1 (j := 1) (by omega) (by decide), ⟨TT, by rw [k7]⟩, TT, k6.2, TT, row_at Track.cs_len k6.1 (j := 0) (by omega) (by decide), TT, TT, ⟨TT, by rw [k8]⟩, TT, k9.2, row_has Cell.cs_len k9.1 (o := 0) (m := 2) (by omega) (by decide), TT, TT, TT, ⟨TT, by rw [k10]⟩, TT, k11.2, row_has Cell.cs_len k11.1 (o := 0) (m := 2) (by omega) (by decide), TT, TT, TT, ⟨TT, by rw [k12]⟩, TT, k13.2, row_has Cell.cs_len k13.1 (o := 0) (m := 2) (by omega) (by decide), TT, TT, TT, ⟨TT, by rw [k14]⟩, TT, TT, TT⟩, ⟨TT, TT⟩⟩) ?_
                  refine Done.mk ?_
                  obtain rfl := Option.some.inj h
                  exact ⟨rfl, by kernel_rfl⟩
              · refine awp_regionD Try_mixed (orcs := [(3, tV (pB t1.closed)), (4, tB true), (8, tV (pI t1.role)), (11, tB true), (14, tV (.agg [pI c.x, pI c.y])), (18, tB true), (21, tV (.agg [pI c1.x, pI c1.y])), (25, tB false)]) (gs := [.keep [0] []]) (s' := ⟨[(0, pB false)], []⟩) (by kernel_rfl) (holds_of ((UU ∧ ((0 ≤ (0 : Int) ∧ (0 : Int) < (v1.length : Int))) ∧ UU ∧ ((v1.flatMap Track.cs)[(0 : Int).toNat * 3 + 1]? = some (.bool t1.closed)) ∧ ((UU ∧ some (pB t1.closed) = some (pB true))) ∧ UU ∧ ((0 ≤ (0 : Int) ∧ (0 : Int) < (v1.length : Int))) ∧ UU ∧ ((v1.flatMap Track.cs)[(0 : Int).toNat * 3]? = some (vI t1.role)) ∧ UU ∧ UU ∧ ((UU ∧ some (pB (t1.role == (1 : Int))) = some (pB true))) ∧ UU ∧ ((0 ≤ (0 : Int) ∧ (0 : Int) < (t1.cells.length : Int))) ∧ (rowHas (t1.cells.flatMap Cell.cs) ((0 : Int).toNat * 2) [pI c.x, pI c.y]) ∧ UU ∧ UU ∧ UU ∧ ((UU ∧ some (pB ((c.x == (0 : Int)) && ((c.y == (0 : Int)) && true))) = some (pB true))) ∧ UU ∧ ((0 ≤ (1 : Int) ∧ (1 : Int) < (t1.cells.length : Int))) ∧ (rowHas (t1.cells.flatMap Cell.cs) ((1 : Int).toNat * 2) [pI c1.x, pI c1.y]) ∧ UU ∧ UU ∧ UU ∧ ((UU ∧ some (pB ((c1.x == (1 : Int)) && ((c1.y == (0 : Int)) && true))) = some (pB false))) ∧ UU ∧ UU ∧ UU ∧ UU ∧ UU) ∧ (UU ∧ UU)) (by kernel_rfl) ⟨⟨TT, k6.2, TT, row_at Track.cs_len k6.1 (j := 1) (by omega) (by decide), ⟨TT, by rw [k7]⟩, TT, k6.2, TT, row_at Track.cs_len k6.1 (j := 0) (by omega) (by decide), TT, TT, ⟨TT, by rw [k8]⟩, TT, k9.2, row_has Cell.cs_len k9.1 (o := 0) (m := 2) (by omega) (by decide), TT, TT, TT, ⟨TT, by rw [k10]⟩, TT, k11.2, row_has Cell.cs_len k11.1 (o := 0) (m := 2) (by omega) (by decide), TT, TT, TT, ⟨TT, by rw [k12]⟩, TT, TT, TT, TT, TT⟩, ⟨TT, TT⟩⟩) ?_
                refine Done.mk ?_
                obtain rfl := Option.some.inj h
                exact ⟨rfl, by kernel_rfl⟩
            · refine awp_regionD Try_mixed (orcs := [(3, tV (pB t1.closed)), (4, tB true), (8, tV (pI t1.role)), (11, tB true), (14, tV (.agg [pI c.x, pI c.y])), (18, tB false)]) (gs := [.keep [0] []]) (s' := ⟨[(0, pB false)], []⟩) (by kernel_rfl) (holds_of ((UU ∧ ((0 ≤ (0 : Int) ∧ (0 : Int) < (v1.length : Int))) ∧ UU ∧ ((v1.flatMap Track.cs)[(0 : Int).toNat * 3 + 1]? = some (.bool t1.closed)) ∧ ((UU ∧ some (pB t1.closed) = some (pB true))) ∧ UU ∧ ((0 ≤ (0 : Int) ∧ (0 : Int) < (v1.length : Int))) ∧ UU ∧ ((v1.flatMap Track.cs)[(0 : Int).toNat * 3]? = some (vI t1.role)) ∧ UU ∧ UU ∧ ((UU ∧ some (pB (t1.role == (1 : Int))) = some (pB true))) ∧ UU ∧ ((0 ≤ (0 : Int) ∧ (0 : Int) < (t1.cells.length : Int))) ∧ (rowHas (t1.cells.flatMap Cell.cs) ((0 : Int).toNat * 2) [pI c.x, pI c.y]) ∧ UU ∧ UU ∧ UU ∧ ((UU ∧ some (pB ((c.x == (0 : Int)) && ((c.y == (0 : Int)) && true))) = some (pB false))) ∧ UU ∧ UU ∧ UU ∧ UU ∧ UU ∧ UU ∧ UU) ∧ (UU ∧ UU)) (by kernel_rfl) ⟨⟨TT, k6.2, TT, row_at Track.cs_len k6.1 (j := 1) (by omega) (by decide), ⟨TT, by rw [k7]⟩, TT, k6.2, TT, row_at Track.cs_len k6.1 (j := 0) (by omega) (by decide), TT, TT, ⟨TT, by rw [k8]⟩, TT, k9.2, row_has Cell.cs_len k9.1 (o := 0) (m := 2) (by omega) (by decide), TT, TT, TT, ⟨TT, by rw [k10]⟩, TT, TT, TT, TT, TT, TT, TT⟩, ⟨TT, TT⟩⟩) ?_
              refine Done.mk ?_
              obtain rfl := Option.some.inj h
              exact ⟨rfl, by kernel_rfl⟩
          · refine awp_regionD Try_mixed (orcs := [(3, tV (pB t1.closed)), (4, tB true), (8, tV (pI t1.role)), (11, tB false)]) (gs := [.keep [0] []]) (s' := ⟨[(0, pB false)], []⟩) (by kernel_rfl) (holds_of ((UU ∧ ((0 ≤ (0 : Int) ∧ (0 : Int) < (v1.length : Int))) ∧ UU ∧ ((v1.flatMap Track.cs)[(0 : Int).toNat * 3 + 1]? = some (.bool t1.closed)) ∧ ((UU ∧ some (pB t1.closed) = some (pB true))) ∧ UU ∧ ((0 ≤ (0 : Int) ∧ (0 : Int) < (v1.length : Int))) ∧ UU ∧ ((v1.flatMap Track.cs)[(0 : Int).toNat * 3]? = some (vI t1.role)) ∧ UU ∧ UU ∧ ((UU ∧ some (pB (t1.role == (1 : Int))) = some (pB false))) ∧ UU ∧ UU ∧ UU ∧ UU ∧ UU ∧ UU ∧ UU ∧ UU ∧ UU) ∧ (UU ∧ UU)) (by kernel_rfl) ⟨⟨TT, k6.2, TT, row_at Track.cs_len k6.1 (j := 1) (by omega) (by decide), ⟨TT, by rw [k7]⟩, TT, k6.2, TT, row_at Track.cs_len k6.1 (j := 0) (by omega) (by decide), TT, TT, ⟨TT, by rw [k8]⟩, TT, TT, TT, TT, TT, TT, TT, TT, TT⟩, ⟨TT, TT⟩⟩) ?_
            refine Done.mk ?_
            obtain rfl := Option.some.inj h
            exact ⟨rfl, by kernel_rfl⟩
        · refine awp_regionD Try_mixed (orcs := [(3, tV (pB t1.closed)), (4, tB false)]) (gs := [.keep [0] []]) (s' := ⟨[(0, pB false)], []⟩) (by kernel_rfl) (holds_of ((UU ∧ ((0 ≤ (0 : Int) ∧ (0 : Int) < (v1.length : Int))) ∧ UU ∧ ((v1.flatMap Track.cs)[(0 : Int).toNat * 3 + 1]? = some (.bool t1.closed)) ∧ ((UU ∧ some (pB t1.closed) = some (pB false))) ∧ UU ∧ UU ∧ UU ∧ UU ∧ UU ∧ UU ∧ UU ∧ UU ∧ UU ∧ UU ∧ UU) ∧ (UU ∧ UU)) (by kernel_rfl) ⟨⟨TT, k6.2, TT, row_at Track.cs_len k6.1 (j := 1) (by omega) (by decide), ⟨TT, by rw [k7]⟩, TT, TT, TT, TT, TT, TT, TT, TT, TT, TT, TT⟩, ⟨TT, TT⟩⟩) ?_
          refine Done.mk ?_
          obtain rfl := Option.some.inj h
          exact ⟨rfl, by kernel_rfl⟩
      · have _ := hm
        refine Done.as (e := Exit.normal) (s := ⟨[(0, pB t0)], []⟩) rfl (by kernel_rfl) ?_
        refine Done.mk (thenQ_n ?_)
        refine doneRet ?_
        refine Done.mk ?_
        obtain rfl := Option.some.inj h
        exact ⟨Or.inr rfl, by kernel_rfl, by kernel_rfl⟩
end
end Go.AM
end
section
namespace Go.AM
open Go Go.RowKit Go.Proofs Go.Proofs.Ytijdlphadhpabaa
theorem rdRun : Rds Try.prog 57 Run.cs := (rds_struct2 Try.underlying57 (rds_int Try.underlying3) (rds_int Try.underlying3) (k0 := 1) (k1 := 1) (fun _ => rfl) (fun _ => rfl) rfl rfl (by kernel_rfl) (by kernel_rfl) (by kernel_rfl)).map (fun x => Run.mk x.1 x.2) (fun _ => rfl)
theorem rdRuns : Rds Try.prog 46 (fun l : List Run => [encL Run.cs l]) := rds_slice Try.underlying46 rdRun Run.cs_len (by kernel_rfl) (by decide)
theorem rdRow : Rds Try.prog 48 Row.cs := (rds_struct2 Try.underlying48 (rds_int Try.underlying3) rdRuns (k0 := 1) (k1 := 1) (fun _ => rfl) (fun _ => rfl) rfl rfl (by kernel_rfl) (by kernel_rfl) (by kernel_rfl)).map (fun x => Row.mk x.1 x.2) (fun _ => rfl)
theorem rdRows : Rds Try.prog 22 (fun l : List Row => [encL Row.cs l]) := rds_slice Try.underlying22 rdRow Row.cs_len (by kernel_rfl) (by decide)
theorem rdRegion : Rds Try.prog 24 Region.cs := (rds_struct1 Try.underlying24 rdRows (k0 := 1) (fun _ => rfl) rfl (by kernel_rfl) (by kernel_rfl)).map (fun x => Region.mk x) (fun _ => rfl)
theorem rdInt : Rds Try.prog 3 (fun n : Int => [vI n]) := rds_int Try.underlying3
theorem Try_own : ownKnob Try.prog.godebug = none := by kernel_rfl
theorem Try_laid : laidOutB Try.prog = true := by kernel_rfl
end Go.AM
end
section
namespace Go.AM
open Go Go.RowKit Go.Proofs
noncomputable section
def R18_Cells_l1 (t0 : Region) (t4 : Int) (t5 : Int) (s : (List Cell) × Int) : Option (((List Cell) × Int) ⊕ ((List Cell))) :=
  match s with
  | (t3, t6) =>
    (getI t0.rows t4).bind fun r_2 =>
    (getI r_2.runs t5).bind fun r_3 =>
    ifB (decide (t6 < r_3.to))
    (chk (t3.length + ([Cell.mk t6 r_2.y]).length ≤ 1099511627776)
      (chk (InR .i64 (t6 + 1 : Int))
      (some (.inl (t3 ++ ([Cell.mk t6 r_2.y]), t6 + 1)))))
    (some (.inr t3))
def R18_Cells_l2 (t0 : Region) (t4 : Int) (s : (List Cell) × Int) : Option (((List Cell) × Int) ⊕ ((List Cell))) :=
  match s with
  | (t32, t5) =>
    (getI t0.rows t4).bind fun r_ =>
    ifB (decide (t5 < (r_.runs.length : Int)))
    ((getI r_.runs t5).bind fun r_1 =>
      (loopP (R18_Cells_l1 t0 t4 t5) (t32, r_1.frm)).bind fun t31 =>
      chk (InR .i64 (t5 + 1 : Int))
      (some (.inl (t31, t5 + 1))))
    (some (.inr t32))
def R18_Cells_l3 (t0 : Region) (s : (List Cell) × Int) : Option (((List Cell) × Int) ⊕ ((List Cell))) :=
  match s with
  | (t34, t4) =>
    ifB (decide (t4 < (t0.rows.length : Int)))
    ((loopP (R18_Cells_l2 t0 t4) (t34, 0)).bind fun t33 =>
      chk (InR .i64 (t4 + 1 : Int))
      (some (.inl (t33, t4 + 1))))
    (some (.inr t34))
noncomputable def R18_Cells (t0 : Region) : Option (List Cell) :=
  (R18_Valid t0).bind fun b =>
  ifB (!b)
  (some ([] : (List Cell)))
  ((loopP (R18_Cells_l3 t0) (([] : List Cell), 0)).bind fun t35 =>
    some t35)
end
end Go.AM
end
section
namespace Go.AM
open Go Go.RowKit Go.Proofs
noncomputable section
def R18_inside_j1 (l : (List Run)) (i : Int) (x : Int) : Option (Bool) :=
    (getI l i).bind fun r_ =>
    ifB (decide (r_.frm ≤ x))
    (some (decide (x < r_.to)))
    (some false)
def R18_inside_l2 (l : (List Run)) (x : Int) (s : Int) : Option ((Int) ⊕ ((Unit) ⊕ (Unit))) :=
  match s with
  | i =>
    ifB (decide (i < (l.length : Int)))
    ((R18_inside_j1 l i x).bind fun t27 =>
      ifB (t27)
      (some (.inr (.inr ())))
      (chk (InR .i64 (i + 1 : Int))
        (some (.inl (i + 1)))))
    (some (.inr (.inl ())))
noncomputable def R18_inside (l : (List Run)) (x : Int) : Option Bool :=
  (loopP (R18_inside_l2 l x) 0).bind fun o => match o with
  | .inl _ => some false
  | .inr _ => some true
end
end Go.AM
end
section
namespace Go.AM
open Go Go.RowKit Go.Proofs
noncomputable section
def R18_Row_l1 (r_ : Region) (y : Int) (s : Int) : Option ((Int) ⊕ ((Unit) ⊕ ((List Run)))) :=
  match s with
  | i =>
    ifB (decide (i < (r_.rows.length : Int)))
    ((getI r_.rows i).bind fun r_1 =>
      ifB (r_1.y == y)
      (some (.inr (.inr r_1.runs)))
      (chk (InR .i64 (i + 1 : Int))
        (some (.inl (i + 1)))))
    (some (.inr (.inl ())))
noncomputable def R18_Row (r_ : Region) (y : Int) : Option (List Run) :=
  (loopP (R18_Row_l1 r_ y) 0).bind fun o => match o with
  | .inl _ => some ([] : (List Run))
  | .inr t41 => some t41
end
end Go.AM
end
section
namespace Go.AM
open Go Go.RowKit Go.Proofs
noncomputable section
def R18_Contains_j1 (r_ : Region) (c : Cell) : Option (Bool) :=
    (R18_Valid r_).bind fun b =>
    ifB (b)
    ((R18_Row r_ c.y).bind fun v =>
      (R18_inside v c.x).bind fun b1 =>
      some b1)
    (some false)
noncomputable def R18_Contains (r_ : Region) (c : Cell) : Option Bool :=
  (R18_Contains_j1 r_ c).bind fun t4 =>
  some t4
end
end Go.AM
end
section
namespace Go.AM
open Go Go.RowKit Go.Proofs
noncomputable section
def R22_cracks_j1 (c : Cell) (t0 : Region) (t34 : (List Crack)) : Option ((List Crack)) :=
    chk (InR .i64 (c.y - 1 : Int))
    ((R18_Contains t0 (Cell.mk c.x (c.y - 1))).bind fun b =>
    ifB (!b)
    (chk (t34.length + ([Crack.mk (Pt.mk c.x c.y) (Pt.mk (c.x + 1) c.y)]).length ≤ 1099511627776)
      (some (t34 ++ ([Crack.mk (Pt.mk c.x c.y) (Pt.mk (c.x + 1) c.y)]))))
    (some t34))
def R22_cracks_j2 (c : Cell) (t0 : Region) (t3 : (List Crack)) : Option ((List Crack)) :=
    chk (InR .i64 (c.x + 1 : Int))
    ((R18_Contains t0 (Cell.mk (c.x + 1) c.y)).bind fun b1 =>
    ifB (!b1)
    (chk (t3.length + ([Crack.mk (Pt.mk (c.x + 1) c.y) (Pt.mk (c.x + 1) (c.y + 1))]).length ≤ 1099511627776)
      (some (t3 ++ ([Crack.mk (Pt.mk (c.x + 1) c.y) (Pt.mk (c.x + 1) (c.y + 1))]))))
    (some t3))
def R22_cracks_j3 (c : Cell) (t0 : Region) (t31 : (List Crack)) : Option ((List Crack)) :=
    chk (InR .i64 (c.y + 1 : Int))
    ((R18_Contains t0 (Cell.mk c.x (c.y + 1))).bind fun b2 =>
    ifB (!b2)
    (chk (t31.length + ([Crack.mk (Pt.mk (c.x + 1) (c.y + 1)) (Pt.mk c.x (c.y + 1))]).length ≤ 1099511627776)
      (some (t31 ++ ([Crack.mk (Pt.mk (c.x + 1) (c.y + 1)) (Pt.mk c.x (c.y + 1))]))))
    (some t31))
def R22_cracks_j4 (v : (List Cell)) (t5 : Int) (t0 : Region) (t34 : (List Crack)) : Option ((List Crack)) :=
    (getI v t5).bind fun c =>
    chk (InR .i64 (c.x + 1 : Int))
    (chk (InR .i64 (c.y + 1 : Int))
    ((R22_cracks_j1 c t0 t34).bind fun t3 =>
    (R22_cracks_j2 c t0 t3).bind fun t31 =>
    (R22_cracks_j3 c t0 t31).bind fun t32 =>
    chk (InR .i64 (c.x - 1 : Int))
    ((R18_Contains t0 (Cell.mk (c.x - 1) c.y)).bind fun b3 =>
    ifB (!b3)
    (chk (t32.length + ([Crack.mk (Pt.mk c.x (c.y + 1)) (Pt.mk c.x c.y)]).length ≤ 1099511627776)
      (some (t32 ++ ([Crack.mk (Pt.mk c.x (c.y + 1)) (Pt.mk c.x c.y)]))))
    (some t32))))
def R22_cracks_l5 (v : (List Cell)) (t0 : Region) (s : (List Crack) × Int) : Option (((List Crack) × Int) ⊕ ((List Crack))) :=
  match s with
  | (t34, t5) =>
    ifB (decide (t5 < (v.length : Int)))
    ((R22_cracks_j4 v t5 t0 t34).bind fun t33 =>
      chk (InR .i64 (t5 + 1 : Int))
      (some (.inl (t33, t5 + 1))))
    (some (.inr t34))
noncomputable def R22_cracks (t0 : Region) : Option (List Crack) :=
  (R18_Cells t0).bind fun v =>
  (loopP (R22_cracks_l5 v t0) (([] : List Crack), 0)).bind fun t35 =>
  some t35
end
end Go.AM
end
section
namespace Go.AM
open Go Go.RowKit Go.Proofs
noncomputable section
noncomputable def R22_left (a : Crack) (b : Crack) : Option Bool :=
  chk (InR .i64 (a.to.x - a.frm.x : Int))
  (chk (InR .i64 (b.to.y - b.frm.y : Int))
  (chk (InR .i64 ((a.to.x - a.frm.x) * (b.to.y - b.frm.y) : Int))
  (chk (InR .i64 (a.to.y - a.frm.y : Int))
  (chk (InR .i64 (b.to.x - b.frm.x : Int))
  (chk (InR .i64 ((a.to.y - a.frm.y) * (b.to.x - b.frm.x) : Int))
  (chk (InR .i64 (((a.to.x - a.frm.x) * (b.to.y - b.frm.y)) - ((a.to.y - a.frm.y) * (b.to.x - b.frm.x)) : Int))
  (some (decide ((((a.to.x - a.frm.x) * (b.to.y - b.frm.y)) - ((a.to.y - a.frm.y) * (b.to.x - b.frm.x)) : Int) > (0 : Int))))))))))
end
end Go.AM
end
section
namespace Go.AM
open Go Go.RowKit Go.Proofs
noncomputable section
def R22_after_j1 (l : (List Crack)) (i : Int) (at_ : Int) (next_1 : Int) : Option (Bool) :=
    (getI l i).bind fun c =>
    (getI l at_).bind fun c1 =>
    ifB ((c.frm.x == c1.to.x) && ((c.frm.y == c1.to.y) && true))
    (ifB (decide (next_1 < (0 : Int)))
      (some true)
      ((R22_left (Crack.mk (Pt.mk c1.frm.x c1.frm.y) (Pt.mk c1.to.x c1.to.y)) (Crack.mk (Pt.mk c.frm.x c.frm.y) (Pt.mk c.to.x c.to.y))).bind fun b =>
        some b))
    (some false)
def R22_after_j2 (l : (List Crack)) (i : Int) (at_ : Int) (next_1 : Int) : Option (Int) :=
    (R22_after_j1 l i at_ next_1).bind fun t38 =>
    ifB (t38)
    (some i)
    (some next_1)
def R22_after_l3 (l : (List Crack)) (at_ : Int) (s : Int × Int) : Option ((Int × Int) ⊕ (Int)) :=
  match s with
  | (next_1, i) =>
    ifB (decide (i < (l.length : Int)))
    ((R22_after_j2 l i at_ next_1).bind fun next_ =>
      chk (InR .i64 (i + 1 : Int))
      (some (.inl (next_, i + 1))))
    (some (.inr next_1))
noncomputable def R22_after (l : (List Crack)) (at_ : Int) : Option Int :=
  (loopP (R22_after_l3 l at_) (-1, 0)).bind fun next_2 =>
  some next_2
end
end Go.AM
end
section
namespace Go.AM
open Go Go.RowKit Go.Proofs
noncomputable section
noncomputable def R22_lower (a : Pt) (b : Pt) : Option Bool :=
  ifB (a.y != b.y)
  (some (decide (a.y < b.y)))
  (some (decide (a.x < b.x)))
end
end Go.AM
end
