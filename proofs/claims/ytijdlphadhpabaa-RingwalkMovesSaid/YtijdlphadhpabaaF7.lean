/- Models of functions, and that their calls do what the models say. Printed by gen.py. -/
import Derived.Test.YtijdlphadhpabaaProg
import Derived.Test.YtijdlphadhpabaaA3
import Derived.Test.YtijdlphadhpabaaA6
import Derived.Test.YtijdlphadhpabaaA1
import Derived.Test.YtijdlphadhpabaaA8
import Derived.Test.YtijdlphadhpabaaA5
import Derived.Test.YtijdlphadhpabaaA7
import Derived.Test.YtijdlphadhpabaaA2
import Derived.Test.YtijdlphadhpabaaA4
import Derived.Test.YtijdlphadhpabaaF1
import Derived.Test.YtijdlphadhpabaaF2
import Derived.Test.YtijdlphadhpabaaF6
section
namespace Go.AM
open Go Go.RowKit Go.Proofs
noncomputable section
set_option maxRecDepth 100000 in
set_option maxHeartbeats 4000000 in
theorem runs_Shift_ok {t0 : (List Run)} {t1 : Int} {r : ((List Run) × Int)} (h : runs_Shift t0 t1 = some r) : ASpec Try.prog 32 [.p (encL Run.cs t0), pI t1] [] (.tup [.p (encL Run.cs r.1), pI r.2]) [] := by
  refine aspec_of Try.func32 (c := _) rfl (by kernel_rfl) (by rw [Try.ntmps32]; exact Nat.le_of_ble_eq_true rfl) ?_
  refine awp_seq ?_
  refine awp_regionD Try_mixed (orcs := []) (gs := [.keep [0, 1] []]) (s' := ⟨[(0, .p (encL Run.cs t0)), (1, pI t1)], []⟩) (by kernel_rfl) (holds_of ((UU ∧ UU ∧ UU) ∧ (UU ∧ UU)) (by kernel_rfl) ⟨⟨TT, TT, TT⟩, ⟨TT, TT⟩⟩) ?_
  refine Done.mk (thenQ_n ?_)
  refine awp_seq ?_
  refine awp_block ?_
  refine awp_seq ?_
  refine bind_el h (fun b k1 h => ?_)
  refine awp_regionD Try_mixed (orcs := [(1, tV (pB b))]) (gs := [.keep [0, 1, 9] []]) (s' := ⟨[(0, .p (encL Run.cs t0)), (1, pI t1), (9, pB (!b))], []⟩) (by kernel_rfl) (holds_of ((UU ∧ (ASpec Try.prog 43 [.p (encL Run.cs t0)] [] (pB b) []) ∧ UU ∧ UU ∧ UU) ∧ (UU ∧ UU)) (by kernel_rfl) ⟨⟨TT, runs_Valid_ok k1, TT, TT, TT⟩, ⟨TT, TT⟩⟩) ?_
  refine Done.mk (thenQ_n ?_)
  refine ifB_el h (fun k2 h => ?_) (fun k2 h => ?_)
  · refine awp_cond_t (b := !b) (by kernel_rfl) k2 ?_
    refine awp_seq ?_
    refine awp_regionD Try_mixed (orcs := []) (gs := [.keep [4, 5] []]) (s' := ⟨[(4, .nils), (5, pI 1)], []⟩) (by kernel_rfl) (holds_of ((UU ∧ UU ∧ UU) ∧ (UU ∧ UU)) (by kernel_rfl) ⟨⟨TT, TT, TT⟩, ⟨TT, TT⟩⟩) ?_
    refine Done.mk (thenQ_n ?_)
    refine doneRet ?_
    refine Done.gh [.pureT 4, .keep [4, 5] []] (s' := ⟨[(4, .p (.sl [] 0)), (5, pI 1)], []⟩) (by kernel_rfl) (holds_of (UU ∧ UU ∧ UU) (by kernel_rfl) ⟨TT, TT, TT⟩) ?_
    refine Done.mk (inB_r (thenQ_r ?_))
    obtain rfl := Option.some.inj h
    exact ⟨Or.inr rfl, by kernel_rfl, by kernel_rfl⟩
  · refine awp_cond_f (b := !b) (by kernel_rfl) k2 ?_
    refine awp_seq ?_
    refine awp_regionD Try_mixed (orcs := []) (gs := [.keep [0, 1, 13] []]) (s' := ⟨[(0, .p (encL Run.cs t0)), (1, pI t1), (13, pB ((t0.length : Int) == (0 : Int)))], []⟩) (by kernel_rfl) (holds_of ((UU ∧ UU ∧ UU ∧ UU ∧ UU) ∧ (UU ∧ UU)) (by kernel_rfl) ⟨⟨TT, TT, TT, TT, TT⟩, ⟨TT, TT⟩⟩) ?_
    refine Done.mk (thenQ_n ?_)
    refine ifB_el h (fun k3 h => ?_) (fun k3 h => ?_)
    · refine awp_cond_t (b := (t0.length : Int) == (0 : Int)) (by kernel_rfl) k3 ?_
      refine awp_seq ?_
      refine awp_regionD Try_mixed (orcs := []) (gs := [.keep [4, 5] []]) (s' := ⟨[(4, .nils), (5, pI 0)], []⟩) (by kernel_rfl) (holds_of ((UU ∧ UU ∧ UU) ∧ (UU ∧ UU)) (by kernel_rfl) ⟨⟨TT, TT, TT⟩, ⟨TT, TT⟩⟩) ?_
      refine Done.mk (thenQ_n ?_)
      refine doneRet ?_
      refine Done.gh [.pureT 4, .keep [4, 5] []] (s' := ⟨[(4, .p (.sl [] 0)), (5, pI 0)], []⟩) (by kernel_rfl) (holds_of (UU ∧ UU ∧ UU) (by kernel_rfl) ⟨TT, TT, TT⟩) ?_
      refine Done.mk (inB_r (thenQ_r ?_))
      obtain rfl := Option.some.inj h
      exact ⟨Or.inr rfl, by kernel_rfl, by kernel_rfl⟩
    · refine awp_cond_f (b := (t0.length : Int) == (0 : Int)) (by kernel_rfl) k3 ?_
      refine awp_seq ?_
      refine bind_el h (fun t17 hm h => ?_)
      refine awp_tail (fun _ => Exit.normal) (fun o => match o with | t17 => ⟨[(0, .p (encL Run.cs t0)), (1, pI t1), (17, pB t17)], []⟩) hm (fun o h => ?_) ?_
      · refine ifB_el h (fun k4 h => ?_) (fun k4 h => ?_)
        · refine awp_regionD Try_mixed (orcs := [(2, tB true)]) (gs := [.keep [0, 1, 17] []]) (s' := ⟨[(0, .p (encL Run.cs t0)), (1, pI t1), (17, pB true)], []⟩) (by kernel_rfl) (holds_of ((UU ∧ UU ∧ ((UU ∧ some (pB (decide (t1 < (-2097152 : Int)))) = some (pB true))) ∧ UU ∧ UU ∧ UU ∧ UU ∧ UU ∧ UU ∧ UU) ∧ (UU ∧ UU)) (by kernel_rfl) ⟨⟨TT, TT, ⟨TT, by rw [k4]⟩, TT, TT, TT, TT, TT, TT, TT⟩, ⟨TT, TT⟩⟩) ?_
          refine Done.mk ?_
          obtain rfl := Option.some.inj h
          exact ⟨rfl, by kernel_rfl⟩
        · refine ifB_el h (fun k5 h => ?_) (fun k5 h => ?_)
          · refine awp_regionD Try_mixed (orcs := [(2, tB false), (6, tB true)]) (gs := [.keep [0, 1, 17] []]) (s' := ⟨[(0, .p (encL Run.cs t0)), (1, pI t1), (17, pB true)], []⟩) (by kernel_rfl) (holds_of ((UU ∧ UU ∧ ((UU ∧ some (pB (decide (t1 < (-2097152 : Int)))) = some (pB false))) ∧ UU ∧ UU ∧ UU ∧ ((UU ∧ some (pB (decide (t1 > (2097152 : Int)))) = some (pB true))) ∧ UU ∧ UU ∧ UU ∧ UU ∧ UU) ∧ (UU ∧ UU)) (by kernel_rfl) ⟨⟨TT, TT, ⟨TT, by rw [k4]⟩, TT, TT, TT, ⟨TT, by rw [k5]⟩, TT, TT, TT, TT, TT⟩, ⟨TT, TT⟩⟩) ?_
            refine Done.mk ?_
            obtain rfl := Option.some.inj h
            exact ⟨rfl, by kernel_rfl⟩
          · refine bind_el h (fun r_ k6 h => ?_)
            replace k6 := getI_el k6
            refine chk_el h (fun k7 h => ?_)
            refine ifB_el h (fun k8 h => ?_) (fun k8 h => ?_)
            · refine awp_regionD Try_mixed (orcs := [(2, tB false), (6, tB false), (10, tV (pI r_.frm)), (15, tB true)]) (gs := [.keep [0, 1, 17] []]) (s' := ⟨[(0, .p (encL Run.cs t0)), (1, pI t1), (17, pB true)], []⟩) (by kernel_rfl) (holds_of ((UU ∧ UU ∧ ((UU ∧ some (pB (decide (t1 < (-2097152 : Int)))) = some (pB false))) ∧ UU ∧ UU ∧ UU ∧ ((UU ∧ some (pB (decide (t1 > (2097152 : Int)))) = some (pB false))) ∧ UU ∧ ((0 ≤ (0 : Int) ∧ (0 : Int) < (t0.length : Int))) ∧ UU ∧ ((t0.flatMap Run.cs)[(0 : Int).toNat * 2]? = some (vI r_.frm)) ∧ UU ∧ (InR .i64 (r_.frm + t1 : Int)) ∧ UU ∧ UU ∧ ((UU ∧ some (pB (decide ((r_.frm + t1 : Int) < (-1048576 : Int)))) = some (pB true))) ∧ UU ∧ UU ∧ UU) ∧ (UU ∧ UU)) (by kernel_rfl) ⟨⟨TT, TT, ⟨TT, by rw [k4]⟩, TT, TT, TT, ⟨TT, by rw [k5]⟩, TT, k6.2, TT, row_at Run.cs_len k6.1 (j := 0) (by omega) (by decide), TT, k7, TT, TT, ⟨TT, by rw [k8]⟩, TT, TT, TT⟩, ⟨TT, TT⟩⟩) ?_
              refine Done.mk ?_
              obtain rfl := Option.some.inj h
              exact ⟨rfl, by kernel_rfl⟩
            · refine chk_el h (fun k9 h => ?_)
              refine bind_el h (fun r_1 k10 h => ?_)
              replace k10 := getI_el k10
              refine chk_el h (fun k11 h => ?_)
              refine awp_regionD Try_mixed (orcs := [(2, tB false), (6, tB false), (10, tV (pI r_.frm)), (15, tB false), (22, tV (pI r_1.to))]) (gs := [.keep [0, 1, 17] []]) (s' := ⟨[(0, .p (encL Run.cs t0)), (1, pI t1), (17, pB (decide ((r_1.to + t1 : Int) > (1048576 : Int))))], []⟩) (by kernel_rfl) (holds_of ((UU ∧ UU ∧ ((UU ∧ some (pB (decide (t1 < (-2097152 : Int)))) = some (pB false))) ∧ UU ∧ UU ∧ UU ∧ ((UU ∧ some (pB (decide (t1 > (2097152 : Int)))) = some (pB false))) ∧ UU ∧ ((0 ≤ (0 : Int) ∧ (0 : Int) < (t0.length : Int))) ∧ UU ∧ ((t0.flatMap Run.cs)[(0 : Int).toNat * 2]? = some (vI r_.frm)) ∧ UU ∧ (InR .i64 (r_.frm + t1 : Int)) ∧ UU ∧ UU ∧ ((UU ∧ some (pB (decide ((r_.frm + t1 : Int) < (-1048576 : Int)))) = some (pB false))) ∧ UU ∧ UU ∧ UU ∧ (InR .i64 (((t0.length : Int)) - 1 : Int)) ∧ ((0 ≤ (((t0.length : Int)) - 1 : Int) ∧ (((t0.length : Int)) - 1 : Int) < (t0.length : Int))) ∧ UU ∧ ((t0.flatMap Run.cs)[(((t0.length : Int)) - 1 : Int).toNat * 2 + 1]? = some (vI r_1.to)) ∧ UU ∧ (InR .i64 (r_1.to + t1 : Int)) ∧ UU ∧ UU ∧ UU ∧ UU) ∧ (UU ∧ UU)) (by kernel_rfl) ⟨⟨TT, TT, ⟨TT, by rw [k4]⟩, TT, TT, TT, ⟨TT, by rw [k5]⟩, TT, k6.2, TT, row_at Run.cs_len k6.1 (j := 0) (by omega) (by decide), TT, k7, TT, TT, ⟨TT, by rw [k8]⟩, TT, TT, TT, k9, k10.2, TT, row_at Run.cs_len k10.1 (j := 1) (by omega) (by decide), TT, k11, TT, TT, TT, TT⟩, ⟨TT, TT⟩⟩) ?_
              refine Done.mk ?_
              obtain rfl := Option.some.inj h
              exact ⟨rfl, by kernel_rfl⟩
      · have _ := hm
        refine Done.as (e := Exit.normal) (s := ⟨[(0, .p (encL Run.cs t0)), (1, pI t1), (17, pB t17)], []⟩) rfl (by kernel_rfl) ?_
        refine Done.mk (thenQ_n ?_)
        refine ifB_el h (fun k12 h => ?_) (fun k12 h => ?_)
        · refine awp_cond_t (b := t17) (by kernel_rfl) k12 ?_
          refine awp_seq ?_
          refine awp_regionD Try_mixed (orcs := []) (gs := [.keep [4, 5] []]) (s' := ⟨[(4, .nils), (5, pI 8)], []⟩) (by kernel_rfl) (holds_of ((UU ∧ UU ∧ UU) ∧ (UU ∧ UU)) (by kernel_rfl) ⟨⟨TT, TT, TT⟩, ⟨TT, TT⟩⟩) ?_
          refine Done.mk (thenQ_n ?_)
          refine doneRet ?_
          refine Done.gh [.pureT 4, .keep [4, 5] []] (s' := ⟨[(4, .p (.sl [] 0)), (5, pI 8)], []⟩) (by kernel_rfl) (holds_of (UU ∧ UU ∧ UU) (by kernel_rfl) ⟨TT, TT, TT⟩) ?_
          refine Done.mk (inB_r (thenQ_r ?_))
          obtain rfl := Option.some.inj h
          exact ⟨Or.inr rfl, by kernel_rfl, by kernel_rfl⟩
        · refine awp_cond_f (b := t17) (by kernel_rfl) k12 ?_
          refine doneSkip ?_
          refine Done.mk (inB_n (thenQ_n ?_))
          refine awp_seq ?_
          refine chk_el h (fun k13 h => ?_)
          refine awp_regionD Try_mixed (orcs := [(2, tV (.own 47 0 (List.replicate (t0.length : Int).toNat (Run.mk 0 0)).length 2))]) (gs := [.castB 47 (.row 57 ((List.replicate (t0.length : Int).toNat (Run.mk 0 0)).flatMap Run.cs)), .keep [0, 1, 6] [47]]) (s' := ⟨[(0, .p (encL Run.cs t0)), (1, pI t1), (6, .own 47 0 (List.replicate (t0.length : Int).toNat (Run.mk 0 0)).length 2)], [(47, .row 57 ((List.replicate (t0.length : Int).toNat (Run.mk 0 0)).flatMap Run.cs))]⟩) (by kernel_rfl) (holds_of ((UU ∧ UU ∧ (((0 ≤ (t0.length : Int) ∧ (t0.length : Int) ≤ (t0.length : Int) ∧ (16 : Int) * (t0.length : Int) ≤ 281474976710656 ∧ (t0.length : Int) ≤ 9223372036854775807) ∧ some (AV.own 47 0 (t0.length : Int).toNat 2) = some (AV.own 47 0 (List.replicate (t0.length : Int).toNat (Run.mk 0 0)).length 2))) ∧ UU ∧ UU) ∧ ((some (ABlk.row 57 (List.replicate (t0.length : Int).toNat [vI 0, vI 0]).flatten) = some (ABlk.row 57 ((List.replicate (t0.length : Int).toNat (Run.mk 0 0)).flatMap Run.cs))) ∧ UU ∧ UU)) (by kernel_rfl) ⟨⟨TT, TT, ⟨k13, rep_len _ _ _ _⟩, TT, TT⟩, ⟨(rep_row Run.cs _ (Run.mk 0 0) _), TT, TT⟩⟩) ?_
          refine Done.mk (thenQ_n ?_)
          refine awp_seq ?_
          refine awp_seq ?_
          refine awp_regionD Try_mixed (orcs := []) (gs := [.keep [1, 6, 48, 49, 50] [47]]) (s' := ⟨[(1, pI t1), (6, .own 47 0 (List.replicate (t0.length : Int).toNat (Run.mk 0 0)).length 2), (48, .p (encL Run.cs t0)), (49, pI ((t0.length : Int))), (50, pI 0)], [(47, .row 57 ((List.replicate (t0.length : Int).toNat (Run.mk 0 0)).flatMap Run.cs))]⟩) (by kernel_rfl) (holds_of ((UU ∧ UU ∧ UU ∧ UU) ∧ (UU ∧ UU)) (by kernel_rfl) ⟨⟨TT, TT, TT, TT⟩, ⟨TT, TT⟩⟩) ?_
          refine Done.mk (thenQ_n ?_)
          refine awp_block ?_
          refine bind_el h (fun t61 hm h => ?_)
          refine awp_gh [.keep [1, 6, 48, 49, 50] [47], .keep [1, 6, 48, 49, 50] [47]] (s' := ⟨[(1, pI t1), (6, .own 47 0 (List.replicate (t0.length : Int).toNat (Run.mk 0 0)).length 2), (48, .p (encL Run.cs t0)), (49, pI ((t0.length : Int))), (50, pI 0)], [(47, .row 57 ((List.replicate (t0.length : Int).toNat (Run.mk 0 0)).flatMap Run.cs))]⟩) (by kernel_rfl) (holds_of (UU ∧ UU ∧ UU) (by kernel_rfl) ⟨TT, TT, TT⟩) ?_
          refine awp_tail (fun _ => (Exit.exit 1)) (fun o => match o with | t61 => ⟨[(6, .own 47 0 t61.length 2)], [(47, .row 57 (t61.flatMap Run.cs))]⟩) hm (fun o h => ?_) ?_
          · refine awp_loop' (fun s => match s with | (t6, t50) => ⟨[(1, pI t1), (6, .own 47 0 t6.length 2), (48, .p (encL Run.cs t0)), (49, pI ((t0.length : Int))), (50, pI t50)], [(47, .row 57 (t6.flatMap Run.cs))]⟩) h (by kernel_rfl) (fun s out h => ?_)
            obtain ⟨t6, t50⟩ := s
            refine awp_seq ?_
            refine awp_regionD Try_mixed (orcs := []) (gs := [.keep [1, 6, 48, 49, 50, 51] [47]]) (s' := ⟨[(1, pI t1), (6, .own 47 0 t6.length 2), (48, .p (encL Run.cs t0)), (49, pI ((t0.length : Int))), (50, pI t50), (51, pB (decide (t50 < (t0.length : Int))))], [(47, .row 57 (t6.flatMap Run.cs))]⟩) (by kernel_rfl) (holds_of ((UU ∧ UU) ∧ (UU ∧ UU)) (by kernel_rfl) ⟨⟨TT, TT⟩, ⟨TT, TT⟩⟩) ?_
            refine Done.mk (thenQ_n ?_)
            refine awp_seq ?_
            refine ifB_el h (fun k14 h => ?_) (fun k14 h => ?_)
            · refine awp_cond_t (b := decide (t50 < (t0.length : Int))) (by kernel_rfl) k14 ?_
              refine doneSkip ?_
              refine Done.mk (thenQ_n ?_)
              refine awp_seq ?_
              refine awp_block ?_
              refine awp_seq ?_
              refine bind_el h (fun r_2 k15 h => ?_)
              replace k15 := getI_el k15
              refine awp_regionD Try_mixed (orcs := [(2, tV (.agg [pI r_2.frm, pI r_2.to]))]) (gs := [.keep [1, 6, 7, 8, 48, 49, 50] [8, 47]]) (s' := ⟨[(1, pI t1), (6, .own 47 0 t6.length 2), (7, pI t50), (8, .ptr 8 0), (48, .p (encL Run.cs t0)), (49, pI ((t0.length : Int))), (50, pI t50)], [(8, .lit 57 [pI r_2.frm, pI r_2.to]), (47, .row 57 (t6.flatMap Run.cs))]⟩) (by kernel_rfl) (holds_of ((UU ∧ ((0 ≤ t50 ∧ t50 < (t0.length : Int))) ∧ (rowHas (t0.flatMap Run.cs) (t50.toNat * 2) [pI r_2.frm, pI r_2.to]) ∧ UU ∧ UU ∧ UU ∧ UU) ∧ (UU ∧ UU)) (by kernel_rfl) ⟨⟨TT, k15.2, row_has Run.cs_len k15.1 (o := 0) (m := 2) (by omega) (by decide), TT, TT, TT, TT⟩, ⟨TT, TT⟩⟩) ?_
              refine Done.mk (thenQ_n ?_)
              refine chk_el h (fun k16 h => ?_)
              refine chk_el h (fun k17 h => ?_)
              refine bind_el h (fun r_3 k18 h => ?_)
              replace k18 := getI_el k18
              refine awp_regionD Try_mixed (orcs := []) (gs := [.castB 47 (.row 57 ((t6.set t50.toNat (Run.mk (r_2.frm + t1) (r_2.to + t1))).flatMap Run.cs)), .castT 6 (.own 47 0 (t6.set t50.toNat (Run.mk (r_2.frm + t1) (r_2.to + t1))).length 2), .keep [1, 6, 48, 49, 50] [47]]) (s' := ⟨[(1, pI t1), (6, .own 47 0 (t6.set t50.toNat (Run.mk (r_2.frm + t1) (r_2.to + t1))).length 2), (48, .p (encL Run.cs t0)), (49, pI ((t0.length : Int))), (50, pI t50)], [(47, .row 57 ((t6.set t50.toNat (Run.mk (r_2.frm + t1) (r_2.to + t1))).flatMap Run.cs))]⟩) (by kernel_rfl) (holds_of ((UU ∧ UU ∧ UU ∧ UU ∧ UU ∧ (InR .i64 (r_2.frm + t1 : Int)) ∧ UU ∧ UU ∧ UU ∧ (InR .i64 (r_2.to + t1 : Int)) ∧ UU ∧ ((0 ≤ t50 ∧ t50 < (t6.length : Int))) ∧ (0 + t50.toNat * 2 + 2 ≤ (t6.flatMap Run.cs).length) ∧ UU) ∧ ((some (ABlk.row 57 (setL (t6.flatMap Run.cs) (0 + t50.toNat * 2) [vI (r_2.frm + t1), vI (r_2.to + t1)])) = some (ABlk.row 57 ((t6.set t50.toNat (Run.mk (r_2.frm + t1) (r_2.to + t1))).flatMap Run.cs))) ∧ (some (AV.own 47 0 t6.length 2) = some (AV.own 47 0 (t6.set t50.toNat (Run.mk (r_2.frm + t1) (r_2.to + t1))).length 2)) ∧ UU ∧ UU)) (by kernel_rfl) ⟨⟨TT, TT, TT, TT, TT, k16, TT, TT, TT, k17, TT, k18.2, set_le Run.cs_len k18.1 (o := 0) (m := 2) (by omega) (by decide), TT⟩, ⟨(set_row Run.cs_len k18.1 (x' := Run.mk (r_2.frm + t1) (r_2.to + t1)) (o := 0) (by omega) rfl (Nat.le_of_ble_eq_true rfl) _), set_len, TT, TT⟩⟩) ?_
              refine Done.mk (inB_n (thenQ_n ?_))
              refine chk_el h (fun k19 h => ?_)
              refine awp_regionD Try_mixed (orcs := []) (gs := [.keep [1, 6, 48, 49, 50] [47]]) (s' := ⟨[(1, pI t1), (6, .own 47 0 (t6.set t50.toNat (Run.mk (r_2.frm + t1) (r_2.to + t1))).length 2), (48, .p (encL Run.cs t0)), (49, pI ((t0.length : Int))), (50, pI (t50 + 1))], [(47, .row 57 ((t6.set t50.toNat (Run.mk (r_2.frm + t1) (r_2.to + t1))).flatMap Run.cs))]⟩) (by kernel_rfl) (holds_of (((InR .i64 (t50 + 1 : Int)) ∧ UU ∧ UU) ∧ (UU ∧ UU)) (by kernel_rfl) ⟨⟨k19, TT, TT⟩, ⟨TT, TT⟩⟩) ?_
              refine Done.mk ?_
              obtain rfl := Option.some.inj h
              exact ⟨rfl, by kernel_rfl⟩
            · refine awp_cond_f (b := decide (t50 < (t0.length : Int))) (by kernel_rfl) k14 ?_
              refine doneExit ?_
              refine Done.gh [.keep [6] [47], .keep [6] [47]] (s' := ⟨[(6, .own 47 0 t6.length 2)], [(47, .row 57 (t6.flatMap Run.cs))]⟩) (by kernel_rfl) (holds_of (UU ∧ UU ∧ UU) (by kernel_rfl) ⟨TT, TT, TT⟩) ?_
              refine Done.mk (thenQ_x ?_)
              obtain rfl := Option.some.inj h
              exact ⟨fun q => (by cases q), fun q => (by subst q; exact ⟨rfl, by kernel_rfl⟩)⟩
          · have _ := hm
            refine Done.as (e := (Exit.exit 1)) (s := ⟨[(6, .own 47 0 t61.length 2)], [(47, .row 57 (t61.flatMap Run.cs))]⟩) rfl (by kernel_rfl) ?_
            refine Done.mk (inB_hit (thenQ_n ?_))
            refine awp_seq ?_
            refine awp_regionD Try_mixed (orcs := []) (gs := [.keep [4, 5] [47]]) (s' := ⟨[(4, .own 47 0 t61.length 2), (5, pI 0)], [(47, .row 57 (t61.flatMap Run.cs))]⟩) (by kernel_rfl) (holds_of ((UU ∧ UU ∧ UU ∧ UU) ∧ (UU ∧ UU)) (by kernel_rfl) ⟨⟨TT, TT, TT, TT⟩, ⟨TT, TT⟩⟩) ?_
            refine Done.mk (thenQ_n ?_)
            refine doneRet ?_
            refine Done.gh [.frz 47, .keep [4, 5] []] (s' := ⟨[(4, .p (encL Run.cs t61)), (5, pI 0)], []⟩) (by kernel_rfl) (holds_of (UU ∧ UU ∧ UU) (by kernel_rfl) ⟨TT, TT, TT⟩) ?_
            refine Done.mk ?_
            obtain rfl := Option.some.inj h
            exact ⟨Or.inr rfl, by kernel_rfl, by kernel_rfl⟩
end
end Go.AM
end
section
namespace Go.AM
open Go Go.RowKit Go.Proofs
noncomputable section
set_option maxRecDepth 100000 in
set_option maxHeartbeats 4000000 in
theorem region_Shift_ok {t0 : Region} {t1 : Int} {t2 : Int} {r : (Region × Int)} (h : region_Shift t0 t1 t2 = some r) : ASpec Try.prog 15 [.agg [.p (encL Row.cs t0.rows)], pI t1, pI t2] [] (.tup [.agg [.p (encL Row.cs r.1.rows)], pI r.2]) [] := by
  refine aspec_of Try.func15 (c := _) rfl (by kernel_rfl) (by rw [Try.ntmps15]; exact Nat.le_of_ble_eq_true rfl) ?_
  refine awp_seq ?_
  refine awp_regionD Try_mixed (orcs := []) (gs := [.keep [1, 2, 3, 6] [3, 6]]) (s' := ⟨[(1, pI t1), (2, pI t2), (3, .ptr 3 0), (6, .ptr 6 0)], [(3, .lit 24 [.p (encL Row.cs t0.rows)]), (6, .lit 24 [.nils])]⟩) (by kernel_rfl) (holds_of ((UU ∧ UU ∧ UU ∧ UU) ∧ (UU ∧ UU)) (by kernel_rfl) ⟨⟨TT, TT, TT, TT⟩, ⟨TT, TT⟩⟩) ?_
  refine Done.mk (thenQ_n ?_)
  refine awp_seq ?_
  refine bind_el h (fun v k1 h => ?_)
  refine awp_regionD Try_mixed (orcs := [(1, tV (.tup [.agg [pI v.1.x, pI v.1.y], .agg [pI v.2.1.x, pI v.2.1.y], pB v.2.2]))]) (gs := [.keep [1, 2, 3, 6, 8, 9, 10] [3, 6, 8, 9]]) (s' := ⟨[(1, pI t1), (2, pI t2), (3, .ptr 3 0), (6, .ptr 6 0), (8, .ptr 8 0), (9, .ptr 9 0), (10, pB v.2.2)], [(3, .lit 24 [.p (encL Row.cs t0.rows)]), (6, .lit 24 [.nils]), (8, .lit 37 [pI v.1.x, pI v.1.y]), (9, .lit 37 [pI v.2.1.x, pI v.2.1.y])]⟩) (by kernel_rfl) (holds_of ((UU ∧ (ASpec Try.prog 29 [.agg [.p (encL Row.cs t0.rows)]] [] (.tup [.agg [pI v.1.x, pI v.1.y], .agg [pI v.2.1.x, pI v.2.1.y], pB v.2.2]) []) ∧ UU ∧ UU ∧ UU ∧ UU ∧ UU ∧ UU ∧ UU ∧ UU ∧ UU ∧ UU) ∧ (UU ∧ UU)) (by kernel_rfl) ⟨⟨TT, region_Box_ok k1, TT, TT, TT, TT, TT, TT, TT, TT, TT, TT⟩, ⟨TT, TT⟩⟩) ?_
  refine Done.mk (thenQ_n ?_)
  refine awp_seq ?_
  refine awp_block ?_
  refine awp_seq ?_
  refine bind_el h (fun b k2 h => ?_)
  refine awp_regionD Try_mixed (orcs := [(1, tV (pB b))]) (gs := [.keep [1, 2, 3, 6, 8, 9, 10, 22] [3, 6, 8, 9]]) (s' := ⟨[(1, pI t1), (2, pI t2), (3, .ptr 3 0), (6, .ptr 6 0), (8, .ptr 8 0), (9, .ptr 9 0), (10, pB v.2.2), (22, pB (!b))], [(3, .lit 24 [.p (encL Row.cs t0.rows)]), (6, .lit 24 [.nils]), (8, .lit 37 [pI v.1.x, pI v.1.y]), (9, .lit 37 [pI v.2.1.x, pI v.2.1.y])]⟩) (by kernel_rfl) (holds_of ((UU ∧ (ASpec Try.prog 24 [.agg [.p (encL Row.cs t0.rows)]] [] (pB b) []) ∧ UU ∧ UU ∧ UU) ∧ (UU ∧ UU)) (by kernel_rfl) ⟨⟨TT, region_Valid_ok k2, TT, TT, TT⟩, ⟨TT, TT⟩⟩) ?_
  refine Done.mk (thenQ_n ?_)
  refine ifB_el h (fun k3 h => ?_) (fun k3 h => ?_)
  · refine awp_cond_t (b := !b) (by kernel_rfl) k3 ?_
    refine awp_seq ?_
    refine awp_regionD Try_mixed (orcs := []) (gs := [.keep [6, 7] [6]]) (s' := ⟨[(6, .ptr 6 0), (7, pI 1)], [(6, .lit 24 [.nils])]⟩) (by kernel_rfl) (holds_of ((UU ∧ UU ∧ UU ∧ UU) ∧ (UU ∧ UU)) (by kernel_rfl) ⟨⟨TT, TT, TT, TT⟩, ⟨TT, TT⟩⟩) ?_
    refine Done.mk (thenQ_n ?_)
    refine doneRet ?_
    refine Done.gh [.pureB 6, .keep [6, 7] [6]] (s' := ⟨[(6, .ptr 6 0), (7, pI 1)], [(6, .lit 24 [.p (.sl [] 0)])]⟩) (by kernel_rfl) (holds_of (UU ∧ UU ∧ UU) (by kernel_rfl) ⟨TT, TT, TT⟩) ?_
    refine Done.mk (inB_r (thenQ_r ?_))
    obtain rfl := Option.some.inj h
    exact ⟨Or.inr rfl, by kernel_rfl, by kernel_rfl⟩
  · refine awp_cond_f (b := !b) (by kernel_rfl) k3 ?_
    refine awp_seq ?_
    refine awp_regionD Try_mixed (orcs := []) (gs := [.keep [1, 2, 3, 6, 8, 9, 27] [3, 6, 8, 9]]) (s' := ⟨[(1, pI t1), (2, pI t2), (3, .ptr 3 0), (6, .ptr 6 0), (8, .ptr 8 0), (9, .ptr 9 0), (27, pB (!v.2.2))], [(3, .lit 24 [.p (encL Row.cs t0.rows)]), (6, .lit 24 [.nils]), (8, .lit 37 [pI v.1.x, pI v.1.y]), (9, .lit 37 [pI v.2.1.x, pI v.2.1.y])]⟩) (by kernel_rfl) (holds_of ((UU ∧ UU ∧ UU ∧ UU) ∧ (UU ∧ UU)) (by kernel_rfl) ⟨⟨TT, TT, TT, TT⟩, ⟨TT, TT⟩⟩) ?_
    refine Done.mk (thenQ_n ?_)
    refine ifB_el h (fun k4 h => ?_) (fun k4 h => ?_)
    · refine awp_cond_t (b := !v.2.2) (by kernel_rfl) k4 ?_
      refine awp_seq ?_
      refine awp_regionD Try_mixed (orcs := []) (gs := [.keep [6, 7] [6]]) (s' := ⟨[(6, .ptr 6 0), (7, pI 0)], [(6, .lit 24 [.nils])]⟩) (by kernel_rfl) (holds_of ((UU ∧ UU ∧ UU ∧ UU) ∧ (UU ∧ UU)) (by kernel_rfl) ⟨⟨TT, TT, TT, TT⟩, ⟨TT, TT⟩⟩) ?_
      refine Done.mk (thenQ_n ?_)
      refine doneRet ?_
      refine Done.gh [.pureB 6, .keep [6, 7] [6]] (s' := ⟨[(6, .ptr 6 0), (7, pI 0)], [(6, .lit 24 [.p (.sl [] 0)])]⟩) (by kernel_rfl) (holds_of (UU ∧ UU ∧ UU) (by kernel_rfl) ⟨TT, TT, TT⟩) ?_
      refine Done.mk (inB_r (thenQ_r ?_))
      obtain rfl := Option.some.inj h
      exact ⟨Or.inr rfl, by kernel_rfl, by kernel_rfl⟩
    · refine awp_cond_f (b := !v.2.2) (by kernel_rfl) k4 ?_
      refine awp_seq ?_
      refine bind_el h (fun t31 hm h => ?_)
      refine awp_tail (fun _ => Exit.normal) (fun o => match o with | t31 => ⟨[(1, pI t1), (2, pI t2), (3, .ptr 3 0), (6, .ptr 6 0), (31, pB t31)], [(3, .lit 24 [.p (encL Row.cs t0.rows)]), (6, .lit 24 [.nils])]⟩) hm (fun o h => ?_) ?_
      · refine bind_el h (fun b1 k5 h => ?_)
        refine ifB_el h (fun k6 h => ?_) (fun k6 h => ?_)
        · refine awp_regionD Try_mixed (orcs := [(1, tV (pB b1)), (3, tB true)]) (gs := [.keep [1, 2, 3, 6, 31] [3, 6]]) (s' := ⟨[(1, pI t1), (2, pI t2), (3, .ptr 3 0), (6, .ptr 6 0), (31, pB true)], [(3, .lit 24 [.p (encL Row.cs t0.rows)]), (6, .lit 24 [.nils])]⟩) (by kernel_rfl) (holds_of ((UU ∧ (ASpec Try.prog 30 [pI t1] [] (pB b1) []) ∧ UU ∧ ((UU ∧ some (pB (!b1)) = some (pB true))) ∧ UU ∧ UU ∧ UU ∧ UU ∧ UU ∧ UU ∧ UU ∧ UU ∧ UU ∧ UU ∧ UU) ∧ (UU ∧ UU)) (by kernel_rfl) ⟨⟨TT, region_near_ok k5, TT, ⟨TT, by rw [k6]⟩, TT, TT, TT, TT, TT, TT, TT, TT, TT, TT, TT⟩, ⟨TT, TT⟩⟩) ?_
          refine Done.mk ?_
          obtain rfl := Option.some.inj h
          exact ⟨rfl, by kernel_rfl⟩
        · refine bind_el h (fun b2 k7 h => ?_)
          refine ifB_el h (fun k8 h => ?_) (fun k8 h => ?_)
          · refine awp_regionD Try_mixed (orcs := [(1, tV (pB b1)), (3, tB false), (5, tV (pB b2)), (8, tB true)]) (gs := [.keep [1, 2, 3, 6, 31] [3, 6]]) (s' := ⟨[(1, pI t1), (2, pI t2), (3, .ptr 3 0), (6, .ptr 6 0), (31, pB true)], [(3, .lit 24 [.p (encL Row.cs t0.rows)]), (6, .lit 24 [.nils])]⟩) (by kernel_rfl) (holds_of ((UU ∧ (ASpec Try.prog 30 [pI t1] [] (pB b1) []) ∧ UU ∧ ((UU ∧ some (pB (!b1)) = some (pB false))) ∧ UU ∧ (ASpec Try.prog 30 [pI t2] [] (pB b2) []) ∧ UU ∧ UU ∧ ((UU ∧ some (pB (!b2)) = some (pB true))) ∧ UU ∧ UU ∧ UU ∧ UU ∧ UU ∧ UU ∧ UU ∧ UU ∧ UU) ∧ (UU ∧ UU)) (by kernel_rfl) ⟨⟨TT, region_near_ok k5, TT, ⟨TT, by rw [k6]⟩, TT, region_near_ok k7, TT, TT, ⟨TT, by rw [k8]⟩, TT, TT, TT, TT, TT, TT, TT, TT, TT⟩, ⟨TT, TT⟩⟩) ?_
            refine Done.mk ?_
            obtain rfl := Option.some.inj h
            exact ⟨rfl, by kernel_rfl⟩
          · refine chk_el h (fun k9 h => ?_)
            refine bind_el h (fun b3 k10 h => ?_)
            refine ifB_el h (fun k11 h => ?_) (fun k11 h => ?_)
            · refine awp_regionD Try_mixed (orcs := [(1, tV (pB b1)), (3, tB false), (5, tV (pB b2)), (8, tB false), (13, tV (pB b3)), (16, tB true)]) (gs := [.keep [1, 2, 3, 6, 31] [3, 6]]) (s' := ⟨[(1, pI t1), (2, pI t2), (3, .ptr 3 0), (6, .ptr 6 0), (31, pB true)], [(3, .lit 24 [.p (encL Row.cs t0.rows)]), (6, .lit 24 [.nils])]⟩) (by kernel_rfl) (holds_of ((UU ∧ (ASpec Try.prog 30 [pI t1] [] (pB b1) []) ∧ UU ∧ ((UU ∧ some (pB (!b1)) = some (pB false))) ∧ UU ∧ (ASpec Try.prog 30 [pI t2] [] (pB b2) []) ∧ UU ∧ UU ∧ ((UU ∧ some (pB (!b2)) = some (pB false))) ∧ UU ∧ UU ∧ UU ∧ (InR .i64 (v.1.x + t1 : Int)) ∧ (ASpec Try.prog 31 [pI (v.1.x + t1)] [] (pB b3) []) ∧ UU ∧ UU ∧ ((UU ∧ some (pB (!b3)) = some (pB true))) ∧ UU ∧ UU ∧ UU ∧ UU ∧ UU ∧ UU ∧ UU) ∧ (UU ∧ UU)) (by kernel_rfl) ⟨⟨TT, region_near_ok k5, TT, ⟨TT, by rw [k6]⟩, TT, region_near_ok k7, TT, TT, ⟨TT, by rw [k8]⟩, TT, TT, TT, k9, region_ok_ok k10, TT, TT, ⟨TT, by rw [k11]⟩, TT, TT, TT, TT, TT, TT, TT⟩, ⟨TT, TT⟩⟩) ?_
              refine Done.mk ?_
              obtain rfl := Option.some.inj h
              exact ⟨rfl, by kernel_rfl⟩
            · refine chk_el h (fun k12 h => ?_)
              refine bind_el h (fun b4 k13 h => ?_)
              refine ifB_el h (fun k14 h => ?_) (fun k14 h => ?_)
              · refine awp_regionD Try_mixed (orcs := [(1, tV (pB b1)), (3, tB false), (5, tV (pB b2)), (8, tB false), (13, tV (pB b3)), (16, tB false), (21, tV (pB b4)), (24, tB true)]) (gs := [.keep [1, 2, 3, 6, 31] [3, 6]]) (s' := ⟨[(1, pI t1), (2, pI t2), (3, .ptr 3 0), (6, .ptr 6 0), (31, pB true)], [(3, .lit 24 [.p (encL Row.cs t0.rows)]), (6, .lit 24 [.nils])]⟩) (by kernel_rfl) (holds_of ((UU ∧ (ASpec Try.prog 30 [pI t1] [] (pB b1) []) ∧ UU ∧ ((UU ∧ some (pB (!b1)) = some (pB false))) ∧ UU ∧ (ASpec Try.prog 30 [pI t2] [] (pB b2) []) ∧ UU ∧ UU ∧ ((UU ∧ some (pB (!b2)) = some (pB false))) ∧ UU ∧ UU ∧ UU ∧ (InR .i64 (v.1.x + t1 : Int)) ∧ (ASpec Try.prog 31 [pI (v.1.x + t1)] [] (pB b3) []) ∧ UU ∧ UU ∧ ((UU ∧ some (pB (!b3)) = some (pB false))) ∧ UU ∧ UU ∧ UU ∧ (InR .i64 (v.2.1.x + t1 : Int)) ∧ (ASpec Try.prog 31 [pI (v.2.1.x + t1)] [] (pB b4) []) ∧ UU ∧ UU ∧ ((UU ∧ some (pB (!b4)) = some (pB true))) ∧ UU ∧ UU ∧ UU ∧ UU ∧ UU) ∧ (UU ∧ UU)) (by kernel_rfl) ⟨⟨TT, region_near_ok k5, TT, ⟨TT, by rw [k6]⟩, TT, region_near_ok k7, TT, TT, ⟨TT, by rw [k8]⟩, TT, TT, TT, k9, region_ok_ok k10, TT, TT, ⟨TT, by rw [k11]⟩, TT, TT, TT, k12, region_ok_ok k13, TT, TT, ⟨TT, by rw [k14]⟩, TT, TT, TT, TT, TT⟩, ⟨TT, TT⟩⟩) ?_
                refine Done.mk ?_
                obtain rfl := Option.some.inj h
                exact ⟨rfl, by kernel_rfl⟩
              · refine chk_el h (fun k15 h => ?_)
                refine bind_el h (fun b5 k16 h => ?_)
                refine ifB_el h (fun k17 h => ?_) (fun k17 h => ?_)
                · refine awp_regionD Try_mixed (orcs := [(1, tV (pB b1)), (3, tB false), (5, tV (pB b2)), (8, tB false), (13, tV (pB b3)), (16, tB false), (21, tV (pB b4)), (24, tB false), (29, tV (pB b5)), (32, tB true)]) (gs := [.keep [1, 2, 3, 6, 31] [3, 6]]) (s' := ⟨[(1, pI t1), (2, pI t2), (3, .ptr 3 0), (6, .ptr 6 0), (31, pB true)], [(3, .lit 24 [.p (encL Row.cs t0.rows)]), (6, .lit 24 [.nils])]⟩) (by kernel_rfl) (holds_of ((UU ∧ (ASpec Try.prog 30 [pI t1] [] (pB b1) []) ∧ UU ∧ ((UU ∧ some (pB (!b1)) = some (pB false))) ∧ UU ∧ (ASpec Try.prog 30 [pI t2] [] (pB b2) []) ∧ UU ∧ UU ∧ ((UU ∧ some (pB (!b2)) = some (pB false))) ∧ UU ∧ UU ∧ UU ∧ (InR .i64 (v.1.x + t1 : Int)) ∧ (ASpec Try.prog 31 [pI (v.1.x + t1)] [] (pB b3) []) ∧ UU ∧ UU ∧ ((UU ∧ some (pB (!b3)) = some (pB false))) ∧ UU ∧ UU ∧ UU ∧ (InR .i64 (v.2.1.x + t1 : Int)) ∧ (ASpec Try.prog 31 [pI (v.2.1.x + t1)] [] (pB b4) []) ∧ UU ∧ UU ∧ ((UU ∧ some (pB (!b4)) = some (pB false))) ∧ UU ∧ UU ∧ UU ∧ (InR .i64 (v.1.y + t2 : Int)) ∧ (ASpec Try.prog 31 [pI (v.1.y + t2)] [] (pB b5) []) ∧ UU ∧ UU ∧ ((UU ∧ some (pB (!b5)) = some (pB true))) ∧ UU ∧ UU ∧ UU) ∧ (UU ∧ UU)) (by kernel_rfl) ⟨⟨TT, region_near_ok k5, TT, ⟨TT, by rw [k6]⟩, TT, region_near_ok k7, TT, TT, ⟨TT, by rw [k8]⟩, TT, TT, TT, k9, region_ok_ok k10, TT, TT, ⟨TT, by rw [k11]⟩, TT, TT, TT, k12, region_ok_ok k13, TT, TT, ⟨TT, by rw [k14]⟩, TT, TT, TT, k15, region_ok_ok k16, TT, TT, ⟨TT, by rw [k17]⟩, TT, TT, TT⟩, ⟨TT, TT⟩⟩) ?_
                  refine Done.mk ?_
                  obtain rfl := Option.some.inj h
                  exact ⟨rfl, by kernel_rfl⟩
                · refine chk_el h (fun k18 h => ?_)
                  refine bind_el h (fun b6 k19 h => ?_)
                  refine awp_regionD Try_mixed (orcs := [(1, tV (pB b1)), (3, tB false), (5, tV (pB b2)), (8, tB false), (13, tV (pB b3)), (16, tB false), (21, tV (pB b4)), (24, tB false), (29, tV (pB b5)), (32, tB false), (37, tV (pB b6))]) (gs := [.keep [1, 2, 3, 6, 31] [3, 6]]) (s' := ⟨[(1, pI t1), (2, pI t2), (3, .ptr 3 0), (6, .ptr 6 0), (31, pB (!b6))], [(3, .lit 24 [.p (encL Row.cs t0.rows)]), (6, .lit 24 [.nils])]⟩) (by kernel_rfl) (holds_of ((UU ∧ (ASpec Try.prog 30 [pI t1] [] (pB b1) []) ∧ UU ∧ ((UU ∧ some (pB (!b1)) = some (pB false))) ∧ UU ∧ (ASpec Try.prog 30 [pI t2] [] (pB b2) []) ∧ UU ∧ UU ∧ ((UU ∧ some (pB (!b2)) = some (pB false))) ∧ UU ∧ UU ∧ UU ∧ (InR .i64 (v.1.x + t1 : Int)) ∧ (ASpec Try.prog 31 [pI (v.1.x + t1)] [] (pB b3) []) ∧ UU ∧ UU ∧ ((UU ∧ some (pB (!b3)) = some (pB false))) ∧ UU ∧ UU ∧ UU ∧ (InR .i64 (v.2.1.x + t1 : Int)) ∧ (ASpec Try.prog 31 [pI (v.2.1.x + t1)] [] (pB b4) []) ∧ UU ∧ UU ∧ ((UU ∧ some (pB (!b4)) = some (pB false))) ∧ UU ∧ UU ∧ UU ∧ (InR .i64 (v.1.y + t2 : Int)) ∧ (ASpec Try.prog 31 [pI (v.1.y + t2)] [] (pB b5) []) ∧ UU ∧ UU ∧ ((UU ∧ some (pB (!b5)) = some (pB false))) ∧ UU ∧ UU ∧ UU ∧ (InR .i64 (v.2.1.y + t2 : Int)) ∧ (ASpec Try.prog 31 [pI (v.2.1.y + t2)] [] (pB b6) []) ∧ UU ∧ UU ∧ UU ∧ UU) ∧ (UU ∧ UU)) (by kernel_rfl) ⟨⟨TT, region_near_ok k5, TT, ⟨TT, by rw [k6]⟩, TT, region_near_ok k7, TT, TT, ⟨TT, by rw [k8]⟩, TT, TT, TT, k9, region_ok_ok k10, TT, TT, ⟨TT, by rw [k11]⟩, TT, TT, TT, k12, region_ok_ok k13, TT, TT, ⟨TT, by rw [k14]⟩, TT, TT, TT, k15, region_ok_ok k16, TT, TT, ⟨TT, by rw [k17]⟩, TT, TT, TT, k18, region_ok_ok k19, TT, TT, TT, TT⟩, ⟨TT, TT⟩⟩) ?_
                  refine Done.mk ?_
                  obtain rfl := Option.some.inj h
                  exact ⟨rfl, by kernel_rfl⟩
      · have _ := hm
        refine Done.as (e := Exit.normal) (s := ⟨[(1, pI t1), (2, pI t2), (3, .ptr 3 0), (6, .ptr 6 0), (31, pB t31)], [(3, .lit 24 [.p (encL Row.cs t0.rows)]), (6, .lit 24 [.nils])]⟩) rfl (by kernel_rfl) ?_
        refine Done.mk (thenQ_n ?_)
        refine ifB_el h (fun k20 h => ?_) (fun k20 h => ?_)
        · refine awp_cond_t (b := t31) (by kernel_rfl) k20 ?_
          refine awp_seq ?_
          refine awp_regionD Try_mixed (orcs := []) (gs := [.keep [6, 7] [6]]) (s' := ⟨[(6, .ptr 6 0), (7, pI 8)], [(6, .lit 24 [.nils])]⟩) (by kernel_rfl) (holds_of ((UU ∧ UU ∧ UU ∧ UU) ∧ (UU ∧ UU)) (by kernel_rfl) ⟨⟨TT, TT, TT, TT⟩, ⟨TT, TT⟩⟩) ?_
          refine Done.mk (thenQ_n ?_)
          refine doneRet ?_
          refine Done.gh [.pureB 6, .keep [6, 7] [6]] (s' := ⟨[(6, .ptr 6 0), (7, pI 8)], [(6, .lit 24 [.p (.sl [] 0)])]⟩) (by kernel_rfl) (holds_of (UU ∧ UU ∧ UU) (by kernel_rfl) ⟨TT, TT, TT⟩) ?_
          refine Done.mk (inB_r (thenQ_r ?_))
          obtain rfl := Option.some.inj h
          exact ⟨Or.inr rfl, by kernel_rfl, by kernel_rfl⟩
        · refine awp_cond_f (b := t31) (by kernel_rfl) k20 ?_
          refine doneSkip ?_
          refine Done.mk (inB_n (thenQ_n ?_))
          refine awp_seq ?_
          refine awp_regionD Try_mixed (orcs := []) (gs := [.keep [1, 2, 3, 6, 11] [3, 6, 11]]) (s' := ⟨[(1, pI t1), (2, pI t2), (3, .ptr 3 0), (6, .ptr 6 0), (11, .ptr 11 0)], [(3, .lit 24 [.p (encL Row.cs t0.rows)]), (6, .lit 24 [.nils]), (11, .lit 24 [.nils])]⟩) (by kernel_rfl) (holds_of ((UU ∧ UU) ∧ (UU ∧ UU)) (by kernel_rfl) ⟨⟨TT, TT⟩, ⟨TT, TT⟩⟩) ?_
          refine Done.mk (thenQ_n ?_)
          refine awp_seq ?_
          refine awp_seq ?_
          refine awp_regionD Try_mixed (orcs := []) (gs := [.keep [1, 2, 6, 11, 74, 75, 76] [6, 11]]) (s' := ⟨[(1, pI t1), (2, pI t2), (6, .ptr 6 0), (11, .ptr 11 0), (74, .p (encL Row.cs t0.rows)), (75, pI ((t0.rows.length : Int))), (76, pI 0)], [(6, .lit 24 [.nils]), (11, .lit 24 [.nils])]⟩) (by kernel_rfl) (holds_of ((UU ∧ UU ∧ UU ∧ UU ∧ UU) ∧ (UU ∧ UU)) (by kernel_rfl) ⟨⟨TT, TT, TT, TT, TT⟩, ⟨TT, TT⟩⟩) ?_
          refine Done.mk (thenQ_n ?_)
          refine awp_block ?_
          refine bind_el h (fun t111 hm h => ?_)
          refine awp_gh [.keep [1, 2, 6, 11, 74, 75, 76] [6, 11], .opnB 11 0 5001 48 2, .keep [1, 2, 6, 11, 74, 75, 76] [6, 11, 5001]] (s' := ⟨[(1, pI t1), (2, pI t2), (6, .ptr 6 0), (11, .ptr 11 0), (74, .p (encL Row.cs t0.rows)), (75, pI ((t0.rows.length : Int))), (76, pI 0)], [(6, .lit 24 [.nils]), (11, .lit 24 [.own 5001 0 (([] : List Row)).length 2]), (5001, .row 48 ((([] : List Row)).flatMap Row.cs))]⟩) (by kernel_rfl) (holds_of (UU ∧ UU ∧ UU ∧ UU) (by kernel_rfl) ⟨TT, TT, TT, TT⟩) ?_
          refine awp_tail (fun _ => (Exit.exit 1)) (fun o => match o with | t111 => ⟨[(6, .ptr 6 0), (11, .ptr 11 0)], [(6, .lit 24 [.nils]), (11, .lit 24 [.own 5001 0 t111.length 2]), (5001, .row 48 (t111.flatMap Row.cs))]⟩) hm (fun o h => ?_) ?_
          · refine awp_loop' (fun s => match s with | (t76, t11) => ⟨[(1, pI t1), (2, pI t2), (6, .ptr 6 0), (11, .ptr 11 0), (74, .p (encL Row.cs t0.rows)), (75, pI ((t0.rows.length : Int))), (76, pI t76)], [(6, .lit 24 [.nils]), (11, .lit 24 [.own 5001 0 t11.length 2]), (5001, .row 48 (t11.flatMap Row.cs))]⟩) h (by kernel_rfl) (fun s out h => ?_)
            obtain ⟨t76, t11⟩ := s
            refine awp_seq ?_
            refine awp_regionD Try_mixed (orcs := []) (gs := [.keep [1, 2, 6, 11, 74, 75, 76, 77] [6, 11, 5001]]) (s' := ⟨[(1, pI t1), (2, pI t2), (6, .ptr 6 0), (11, .ptr 11 0), (74, .p (encL Row.cs t0.rows)), (75, pI ((t0.rows.length : Int))), (76, pI t76), (77, pB (decide (t76 < (t0.rows.length : Int))))], [(6, .lit 24 [.nils]), (11, .lit 24 [.own 5001 0 t11.length 2]), (5001, .row 48 (t11.flatMap Row.cs))]⟩) (by kernel_rfl) (holds_of ((UU ∧ UU) ∧ (UU ∧ UU)) (by kernel_rfl) ⟨⟨TT, TT⟩, ⟨TT, TT⟩⟩) ?_
            refine Done.mk (thenQ_n ?_)
            refine awp_seq ?_
            refine ifB_el h (fun k21 h => ?_) (fun k21 h => ?_)
            · refine awp_cond_t (b := decide (t76 < (t0.rows.length : Int))) (by kernel_rfl) k21 ?_
              refine doneSkip ?_
              refine Done.mk (thenQ_n ?_)
              refine awp_seq ?_
              refine awp_block ?_
              refine awp_seq ?_
              refine bind_el h (fun r_ k22 h => ?_)
              replace k22 := getI_el k22
              refine awp_regionD Try_mixed (orcs := [(1, tV (.agg [pI r_.y, .p (encL Run.cs r_.runs)]))]) (gs := [.keep [1, 2, 6, 11, 13, 74, 75, 76] [6, 11, 13, 5001]]) (s' := ⟨[(1, pI t1), (2, pI t2), (6, .ptr 6 0), (11, .ptr 11 0), (13, .ptr 13 0), (74, .p (encL Row.cs t0.rows)), (75, pI ((t0.rows.length : Int))), (76, pI t76)], [(6, .lit 24 [.nils]), (11, .lit 24 [.own 5001 0 t11.length 2]), (13, .lit 48 [pI r_.y, .p (encL Run.cs r_.runs)]), (5001, .row 48 (t11.flatMap Row.cs))]⟩) (by kernel_rfl) (holds_of ((((0 ≤ t76 ∧ t76 < (t0.rows.length : Int))) ∧ (rowHas (t0.rows.flatMap Row.cs) (t76.toNat * 2) [pI r_.y, .p (encL Run.cs r_.runs)]) ∧ UU ∧ UU ∧ UU) ∧ (UU ∧ UU)) (by kernel_rfl) ⟨⟨k22.2, row_has Row.cs_len k22.1 (o := 0) (m := 2) (by omega) (by decide), TT, TT, TT⟩, ⟨TT, TT⟩⟩) ?_
              refine Done.mk (thenQ_n ?_)
              refine awp_seq ?_
              refine bind_el h (fun v1 k23 h => ?_)
              refine awp_regionD Try_mixed (orcs := [(3, tV (.tup [.p (encL Run.cs v1.1), pI v1.2]))]) (gs := [.keep [1, 2, 6, 11, 13, 14, 74, 75, 76] [6, 11, 13, 5001]]) (s' := ⟨[(1, pI t1), (2, pI t2), (6, .ptr 6 0), (11, .ptr 11 0), (13, .ptr 13 0), (14, .p (encL Run.cs v1.1)), (74, .p (encL Row.cs t0.rows)), (75, pI ((t0.rows.length : Int))), (76, pI t76)], [(6, .lit 24 [.nils]), (11, .lit 24 [.own 5001 0 t11.length 2]), (13, .lit 48 [pI r_.y, .p (encL Run.cs r_.runs)]), (5001, .row 48 (t11.flatMap Row.cs))]⟩) (by kernel_rfl) (holds_of ((UU ∧ UU ∧ UU ∧ (ASpec Try.prog 32 [.p (encL Run.cs r_.runs), pI t1] [] (.tup [.p (encL Run.cs v1.1), pI v1.2]) []) ∧ UU ∧ UU ∧ UU ∧ UU ∧ UU ∧ UU) ∧ (UU ∧ UU)) (by kernel_rfl) ⟨⟨TT, TT, TT, runs_Shift_ok k23, TT, TT, TT, TT, TT, TT⟩, ⟨TT, TT⟩⟩) ?_
              refine Done.mk (thenQ_n ?_)
              refine chk_el h (fun k24 h => ?_)
              refine chk_el h (fun k25 h => ?_)
              refine awp_regionD Try_mixed (orcs := [(9, tV (.own 96 0 (t11 ++ ([Row.mk (r_.y + t2) v1.1])).length 2))]) (gs := [.castB 96 (.row 48 ((t11 ++ ([Row.mk (r_.y + t2) v1.1])).flatMap Row.cs)), .keep [1, 2, 6, 11, 74, 75, 76] [6, 11, 96]]) (s' := ⟨[(1, pI t1), (2, pI t2), (6, .ptr 6 0), (11, .ptr 11 0), (74, .p (encL Row.cs t0.rows)), (75, pI ((t0.rows.length : Int))), (76, pI t76)], [(6, .lit 24 [.nils]), (11, .lit 24 [.own 96 0 (t11 ++ ([Row.mk (r_.y + t2) v1.1])).length 2]), (96, .row 48 ((t11 ++ ([Row.mk (r_.y + t2) v1.1])).flatMap Row.cs))]⟩) (by kernel_rfl) (holds_of ((UU ∧ UU ∧ UU ∧ UU ∧ UU ∧ (InR .i64 (r_.y + t2 : Int)) ∧ UU ∧ UU ∧ UU ∧ ((((t11.flatMap Row.cs).length = t11.length * 2 ∧ (([Row.mk (r_.y + t2) v1.1]).flatMap Row.cs).length = ([Row.mk (r_.y + t2) v1.1]).length * 2 ∧ (t11.length + ([Row.mk (r_.y + t2) v1.1]).length) * 32 ≤ 140737488355328 ∧ t11.length + ([Row.mk (r_.y + t2) v1.1]).length ≤ 9223372036854775807) ∧ some (AV.own 96 0 (t11.length + ([Row.mk (r_.y + t2) v1.1]).length) 2) = some (AV.own 96 0 (t11 ++ ([Row.mk (r_.y + t2) v1.1])).length 2))) ∧ UU ∧ UU ∧ UU) ∧ ((some (ABlk.row 48 (t11.flatMap Row.cs ++ ([Row.mk (r_.y + t2) v1.1]).flatMap Row.cs)) = some (ABlk.row 48 ((t11 ++ ([Row.mk (r_.y + t2) v1.1])).flatMap Row.cs))) ∧ UU ∧ UU)) (by kernel_rfl) ⟨⟨TT, TT, TT, TT, TT, k24, TT, TT, TT, ⟨⟨flat_len Row.cs_len _, flat_len Row.cs_len _, by omega, by omega⟩, app_len _ _ _ _⟩, TT, TT, TT⟩, ⟨(app_row Row.cs _ _ _), TT, TT⟩⟩) ?_
              refine Done.mk (inB_n (thenQ_n ?_))
              refine chk_el h (fun k26 h => ?_)
              refine awp_regionD Try_mixed (orcs := []) (gs := [.keep [1, 2, 6, 11, 74, 75, 76] [6, 11, 96]]) (s' := ⟨[(1, pI t1), (2, pI t2), (6, .ptr 6 0), (11, .ptr 11 0), (74, .p (encL Row.cs t0.rows)), (75, pI ((t0.rows.length : Int))), (76, pI (t76 + 1))], [(6, .lit 24 [.nils]), (11, .lit 24 [.own 96 0 (t11 ++ ([Row.mk (r_.y + t2) v1.1])).length 2]), (96, .row 48 ((t11 ++ ([Row.mk (r_.y + t2) v1.1])).flatMap Row.cs))]⟩) (by kernel_rfl) (holds_of (((InR .i64 (t76 + 1 : Int)) ∧ UU ∧ UU) ∧ (UU ∧ UU)) (by kernel_rfl) ⟨⟨k26, TT, TT⟩, ⟨TT, TT⟩⟩) ?_
              refine Done.gh [.keep [1, 2, 6, 11, 74, 75, 76] [6, 11, 96], .ren 96 5001, .keep [1, 2, 6, 11, 74, 75, 76] [6, 11, 5001]] (s' := ⟨[(1, pI t1), (2, pI t2), (6, .ptr 6 0), (11, .ptr 11 0), (74, .p (encL Row.cs t0.rows)), (75, pI ((t0.rows.length : Int))), (76, pI (t76 + 1))], [(6, .lit 24 [.nils]), (11, .lit 24 [.own 5001 0 (t11 ++ ([Row.mk (r_.y + t2) v1.1])).length 2]), (5001, .row 48 ((t11 ++ ([Row.mk (r_.y + t2) v1.1])).flatMap Row.cs))]⟩) (by kernel_rfl) (holds_of (UU ∧ UU ∧ UU ∧ UU) (by kernel_rfl) ⟨TT, TT, TT, TT⟩) ?_
              refine Done.mk ?_
              obtain rfl := Option.some.inj h
              exact ⟨rfl, by kernel_rfl⟩
            · refine awp_cond_f (b := decide (t76 < (t0.rows.length : Int))) (by kernel_rfl) k21 ?_
              refine doneExit ?_
              refine Done.gh [.keep [6, 11] [6, 11, 5001], .keep [6, 11] [6, 11, 5001]] (s' := ⟨[(6, .ptr 6 0), (11, .ptr 11 0)], [(6, .lit 24 [.nils]), (11, .lit 24 [.own 5001 0 t11.length 2]), (5001, .row 48 (t11.flatMap Row.cs))]⟩) (by kernel_rfl) (holds_of (UU ∧ UU ∧ UU) (by kernel_rfl) ⟨TT, TT, TT⟩) ?_
              refine Done.mk (thenQ_x ?_)
              obtain rfl := Option.some.inj h
              exact ⟨fun q => (by cases q), fun q => (by subst q; exact ⟨rfl, by kernel_rfl⟩)⟩
          · have _ := hm
            refine Done.as (e := (Exit.exit 1)) (s := ⟨[(6, .ptr 6 0), (11, .ptr 11 0)], [(6, .lit 24 [.nils]), (11, .lit 24 [.own 5001 0 t111.length 2]), (5001, .row 48 (t111.flatMap Row.cs))]⟩) rfl (by kernel_rfl) ?_
            refine Done.mk (inB_hit (thenQ_n ?_))
            refine awp_seq ?_
            refine awp_regionD Try_mixed (orcs := []) (gs := [.keep [6, 7] [6, 5001]]) (s' := ⟨[(6, .ptr 6 0), (7, pI 0)], [(6, .lit 24 [.own 5001 0 t111.length 2]), (5001, .row 48 (t111.flatMap Row.cs))]⟩) (by kernel_rfl) (holds_of ((UU ∧ UU ∧ UU ∧ UU) ∧ (UU ∧ UU)) (by kernel_rfl) ⟨⟨TT, TT, TT, TT⟩, ⟨TT, TT⟩⟩) ?_
            refine Done.mk (thenQ_n ?_)
            refine doneRet ?_
            refine Done.gh [.frz 5001, .keep [6, 7] [6]] (s' := ⟨[(6, .ptr 6 0), (7, pI 0)], [(6, .lit 24 [.p (encL Row.cs t111)])]⟩) (by kernel_rfl) (holds_of (UU ∧ UU ∧ UU) (by kernel_rfl) ⟨TT, TT, TT⟩) ?_
            refine Done.mk ?_
            obtain rfl := Option.some.inj h
            exact ⟨Or.inr rfl, by kernel_rfl, by kernel_rfl⟩
end
end Go.AM
end
section
namespace Go.AM
open Go Go.RowKit Go.Proofs
noncomputable section
set_option maxRecDepth 100000 in
set_option maxHeartbeats 4000000 in
theorem R18_fine_ok {l : (List Run)} {r : Bool} (h : R18_fine l = some r) : ASpec Try.prog 54 [.p (encL Run.cs l)] [] (pB r) [] := by
  refine aspec_of Try.func54 (c := _) rfl (by kernel_rfl) (by rw [Try.ntmps54]; exact Nat.le_of_ble_eq_true rfl) ?_
  refine awp_seq ?_
  refine awp_regionD Try_mixed (orcs := []) (gs := [.keep [0] []]) (s' := ⟨[(0, .p (encL Run.cs l))], []⟩) (by kernel_rfl) (holds_of ((UU ∧ UU) ∧ (UU ∧ UU)) (by kernel_rfl) ⟨⟨TT, TT⟩, ⟨TT, TT⟩⟩) ?_
  refine Done.mk (thenQ_n ?_)
  refine awp_seq ?_
  refine awp_seq ?_
  refine awp_regionD Try_mixed (orcs := []) (gs := [.keep [0, 3] []]) (s' := ⟨[(0, .p (encL Run.cs l)), (3, pI 0)], []⟩) (by kernel_rfl) (holds_of ((UU ∧ UU) ∧ (UU ∧ UU)) (by kernel_rfl) ⟨⟨TT, TT⟩, ⟨TT, TT⟩⟩) ?_
  refine Done.mk (thenQ_n ?_)
  refine awp_block ?_
  refine bind_el h (fun o hm h => ?_)
  refine awp_gh [.keep [0, 3] [], .keep [0, 3] []] (s' := ⟨[(0, .p (encL Run.cs l)), (3, pI 0)], []⟩) (by kernel_rfl) (holds_of (UU ∧ UU ∧ UU) (by kernel_rfl) ⟨TT, TT, TT⟩) ?_
  refine awp_tail (fun o => match o with | .inl _ => (Exit.exit 0) | .inr _ => Exit.ret) (fun o => match o with | .inl _ => ⟨[(0, .p (encL Run.cs l))], []⟩ | .inr _ => ⟨[(2, pB false)], []⟩) hm (fun o h => ?_) ?_
  · refine awp_loop' (fun s => match s with | i => ⟨[(0, .p (encL Run.cs l)), (3, pI i)], []⟩) h (by kernel_rfl) (fun i out h => ?_)
    refine awp_seq ?_
    refine awp_seq ?_
    refine awp_regionD Try_mixed (orcs := []) (gs := [.keep [0, 3, 7] []]) (s' := ⟨[(0, .p (encL Run.cs l)), (3, pI i), (7, pB (decide (i < (l.length : Int))))], []⟩) (by kernel_rfl) (holds_of ((UU ∧ UU ∧ UU ∧ UU ∧ UU) ∧ (UU ∧ UU)) (by kernel_rfl) ⟨⟨TT, TT, TT, TT, TT⟩, ⟨TT, TT⟩⟩) ?_
    refine Done.mk (thenQ_n ?_)
    refine ifB_el h (fun k1 h => ?_) (fun k1 h => ?_)
    · refine awp_cond_t (b := decide (i < (l.length : Int))) (by kernel_rfl) k1 ?_
      refine doneSkip ?_
      refine Done.mk (thenQ_n ?_)
      refine awp_seq ?_
      refine awp_block ?_
      refine awp_seq ?_
      refine bind_el h (fun t54 hm h => ?_)
      refine awp_tail (fun _ => Exit.normal) (fun o => match o with | t54 => ⟨[(0, .p (encL Run.cs l)), (3, pI i), (54, pB t54)], []⟩) hm (fun o h => ?_) ?_
      · refine bind_el h (fun r_ k2 h => ?_)
        replace k2 := getI_el k2
        refine ifB_el h (fun k3 h => ?_) (fun k3 h => ?_)
        · refine awp_regionD Try_mixed (orcs := [(4, tV (pI r_.frm)), (6, tB true)]) (gs := [.keep [0, 3, 54] []]) (s' := ⟨[(0, .p (encL Run.cs l)), (3, pI i), (54, pB true)], []⟩) (by kernel_rfl) (holds_of ((UU ∧ UU ∧ ((0 ≤ i ∧ i < (l.length : Int))) ∧ UU ∧ ((l.flatMap Run.cs)[i.toNat * 2]? = some (vI r_.frm)) ∧ UU ∧ ((UU ∧ some (pB (decide (r_.frm < (-4096 : Int)))) = some (pB true))) ∧ UU ∧ UU ∧ UU ∧ UU ∧ UU ∧ UU) ∧ (UU ∧ UU)) (by kernel_rfl) ⟨⟨TT, TT, k2.2, TT, row_at Run.cs_len k2.1 (j := 0) (by omega) (by decide), TT, ⟨TT, by rw [k3]⟩, TT, TT, TT, TT, TT, TT⟩, ⟨TT, TT⟩⟩) ?_
          refine Done.mk ?_
          obtain rfl := Option.some.inj h
          exact ⟨rfl, by kernel_rfl⟩
        · refine ifB_el h (fun k4 h => ?_) (fun k4 h => ?_)
          · refine awp_regionD Try_mixed (orcs := [(4, tV (pI r_.frm)), (6, tB false), (11, tV (pI r_.frm)), (16, tV (pI r_.to)), (19, tB true)]) (gs := [.keep [0, 3, 54] []]) (s' := ⟨[(0, .p (encL Run.cs l)), (3, pI i), (54, pB true)], []⟩) (by kernel_rfl) (holds_of ((UU ∧ UU ∧ ((0 ≤ i ∧ i < (l.length : Int))) ∧ UU ∧ ((l.flatMap Run.cs)[i.toNat * 2]? = some (vI r_.frm)) ∧ UU ∧ ((UU ∧ some (pB (decide (r_.frm < (-4096 : Int)))) = some (pB false))) ∧ UU ∧ UU ∧ ((0 ≤ i ∧ i < (l.length : Int))) ∧ UU ∧ ((l.flatMap Run.cs)[i.toNat * 2]? = some (vI r_.frm)) ∧ UU ∧ UU ∧ ((0 ≤ i ∧ i < (l.length : Int))) ∧ UU ∧ ((l.flatMap Run.cs)[i.toNat * 2 + 1]? = some (vI r_.to)) ∧ UU ∧ UU ∧ ((UU ∧ some (pB (decide (r_.frm ≥ r_.to))) = some (pB true))) ∧ UU ∧ UU ∧ UU ∧ UU) ∧ (UU ∧ UU)) (by kernel_rfl) ⟨⟨TT, TT, k2.2, TT, row_at Run.cs_len k2.1 (j := 0) (by omega) (by decide), TT, ⟨TT, by rw [k3]⟩, TT, TT, k2.2, TT, row_at Run.cs_len k2.1 (j := 0) (by omega) (by decide), TT, TT, k2.2, TT, row_at Run.cs_len k2.1 (j := 1) (by omega) (by decide), TT, TT, ⟨TT, by rw [k4]⟩, TT, TT, TT, TT⟩, ⟨TT, TT⟩⟩) ?_
            refine Done.mk ?_
            obtain rfl := Option.some.inj h
            exact ⟨rfl, by kernel_rfl⟩
          · refine ifB_el h (fun k5 h => ?_) (fun k5 h => ?_)
            · refine awp_regionD Try_mixed (orcs := [(4, tV (pI r_.frm)), (6, tB false), (11, tV (pI r_.frm)), (16, tV (pI r_.to)), (19, tB false), (24, tV (pI r_.to)), (27, tB true)]) (gs := [.keep [0, 3, 54] []]) (s' := ⟨[(0, .p (encL Run.cs l)), (3, pI i), (54, pB true)], []⟩) (by kernel_rfl) (holds_of ((UU ∧ UU ∧ ((0 ≤ i ∧ i < (l.length : Int))) ∧ UU ∧ ((l.flatMap Run.cs)[i.toNat * 2]? = some (vI r_.frm)) ∧ UU ∧ ((UU ∧ some (pB (decide (r_.frm < (-4096 : Int)))) = some (pB false))) ∧ UU ∧ UU ∧ ((0 ≤ i ∧ i < (l.length : Int))) ∧ UU ∧ ((l.flatMap Run.cs)[i.toNat * 2]? = some (vI r_.frm)) ∧ UU ∧ UU ∧ ((0 ≤ i ∧ i < (l.length : Int))) ∧ UU ∧ ((l.flatMap Run.cs)[i.toNat * 2 + 1]? = some (vI r_.to)) ∧ UU ∧ UU ∧ ((UU ∧ some (pB (decide (r_.frm ≥ r_.to))) = some (pB false))) ∧ UU ∧ UU ∧ ((0 ≤ i ∧ i < (l.length : Int))) ∧ UU ∧ ((l.flatMap Run.cs)[i.toNat * 2 + 1]? = some (vI r_.to)) ∧ UU ∧ UU ∧ ((UU ∧ some (pB (decide (r_.to > (4096 : Int)))) = some (pB true))) ∧ UU ∧ UU) ∧ (UU ∧ UU)) (by kernel_rfl) ⟨⟨TT, TT, k2.2, TT, row_at Run.cs_len k2.1 (j := 0) (by omega) (by decide), TT, ⟨TT, by rw [k3]⟩, TT, TT, k2.2, TT, row_at Run.cs_len k2.1 (j := 0) (by omega) (by decide), TT, TT, k2.2, TT, row_at Run.cs_len k2.1 (j := 1) (by omega) (by decide), TT, TT, ⟨TT, by rw [k4]⟩, TT, TT, k2.2, TT, row_at Run.cs_len k2.1 (j := 1) (by omega) (by decide), TT, TT, ⟨TT, by rw [k5]⟩, TT, TT⟩, ⟨TT, TT⟩⟩) ?_
              refine Done.mk ?_
              obtain rfl := Option.some.inj h
              exact ⟨rfl, by kernel_rfl⟩
            · refine ifB_el h (fun k6 h => ?_) (fun k6 h => ?_)
              · refine chk_el h (fun k7 h => ?_)
                refine bind_el h (fun r_1 k8 h => ?_)
                replace k8 := getI_el k8
                refine awp_regionD Try_mixed (orcs := [(4, tV (pI r_.frm)), (6, tB false), (11, tV (pI r_.frm)), (16, tV (pI r_.to)), (19, tB false), (24, tV (pI r_.to)), (27, tB false), (30, tB true), (35, tV (pI r_.frm)), (41, tV (pI r_1.to))]) (gs := [.keep [0, 3, 54] []]) (s' := ⟨[(0, .p (encL Run.cs l)), (3, pI i), (54, pB (decide (r_.frm ≤ r_1.to)))], []⟩) (by kernel_rfl) (holds_of ((UU ∧ UU ∧ ((0 ≤ i ∧ i < (l.length : Int))) ∧ UU ∧ ((l.flatMap Run.cs)[i.toNat * 2]? = some (vI r_.frm)) ∧ UU ∧ ((UU ∧ some (pB (decide (r_.frm < (-4096 : Int)))) = some (pB false))) ∧ UU ∧ UU ∧ ((0 ≤ i ∧ i < (l.length : Int))) ∧ UU ∧ ((l.flatMap Run.cs)[i.toNat * 2]? = some (vI r_.frm)) ∧ UU ∧ UU ∧ ((0 ≤ i ∧ i < (l.length : Int))) ∧ UU ∧ ((l.flatMap Run.cs)[i.toNat * 2 + 1]? = some (vI r_.to)) ∧ UU ∧ UU ∧ ((UU ∧ some (pB (decide (r_.frm ≥ r_.to))) = some (pB false))) ∧ UU ∧ UU ∧ ((0 ≤ i ∧ i < (l.length : Int))) ∧ UU ∧ ((l.flatMap Run.cs)[i.toNat * 2 + 1]? = some (vI r_.to)) ∧ UU ∧ UU ∧ ((UU ∧ some (pB (decide (r_.to > (4096 : Int)))) = some (pB false))) ∧ UU ∧ UU ∧ ((UU ∧ some (pB (decide (i > (0 : Int)))) = some (pB true))) ∧ UU ∧ UU ∧ ((0 ≤ i ∧ i < (l.length : Int))) ∧ UU ∧ ((l.flatMap Run.cs)[i.toNat * 2]? = some (vI r_.frm)) ∧ UU ∧ UU ∧ (InR .i64 (i - 1 : Int)) ∧ ((0 ≤ (i - 1 : Int) ∧ (i - 1 : Int) < (l.length : Int))) ∧ UU ∧ ((l.flatMap Run.cs)[(i - 1 : Int).toNat * 2 + 1]? = some (vI r_1.to)) ∧ UU ∧ UU ∧ UU ∧ UU) ∧ (UU ∧ UU)) (by kernel_rfl) ⟨⟨TT, TT, k2.2, TT, row_at Run.cs_len k2.1 (j := 0) (by omega) (by decide), TT, ⟨TT, by rw [k3]⟩, TT, TT, k2.2, TT, row_at Run.cs_len k2.1 (j := 0) (by omega) (by decide), TT, TT, k2.2, TT, row_at Run.cs_len k2.1 (j := 1) (by omega) (by decide), TT, TT, ⟨TT, by rw [k4]⟩, TT, TT, k2.2, TT, row_at Run.cs_len k2.1 (j := 1) (by omega) (by decide), TT, TT, ⟨TT, by rw [k5]⟩, TT, TT, ⟨TT, by rw [k6]⟩, TT, TT, k2.2, TT, row_at Run.cs_len k2.1 (j := 0) (by omega) (by decide), TT, TT, k7, k8.2, TT, row_at Run.cs_len k8.1 (j := 1) (by omega) (by decide), TT, TT, TT, TT⟩, ⟨TT, TT⟩⟩) ?_
                refine Done.mk ?_
                obtain rfl := Option.some.inj h
                exact ⟨rfl, by kernel_rfl⟩
              · refine awp_regionD Try_mixed (orcs := [(4, tV (pI r_.frm)), (6, tB false), (11, tV (pI r_.frm)), (16, tV (pI r_.to)), (19, tB false), (24, tV (pI r_.to)), (27, tB false), (30, tB false)]) (gs := [.keep [0, 3, 54] []]) (s' := ⟨[(0, .p (encL Run.cs l)), (3, pI i), (54, pB false)], []⟩) (by kernel_rfl) (holds_of ((UU ∧ UU ∧ ((0 ≤ i ∧ i < (l.length : Int))) ∧ UU ∧ ((l.flatMap Run.cs)[i.toNat * 2]? = some (vI r_.frm)) ∧ UU ∧ ((UU ∧ some (pB (decide (r_.frm < (-4096 : Int)))) = some (pB false))) ∧ UU ∧ UU ∧ ((0 ≤ i ∧ i < (l.length : Int))) ∧ UU ∧ ((l.flatMap Run.cs)[i.toNat * 2]? = some (vI r_.frm)) ∧ UU ∧ UU ∧ ((0 ≤ i ∧ i < (l.length : Int))) ∧ UU ∧ ((l.flatMap Run.cs)[i.toNat * 2 + 1]? = some (vI r_.to)) ∧ UU ∧ UU ∧ ((UU ∧ some (pB (decide (r_.frm ≥ r_.to))) = some (pB false))) ∧ UU ∧ UU ∧ ((0 ≤ i ∧ i < (l.length : Int))) ∧ UU ∧ ((l.flatMap Run.cs)[i.toNat * 2 + 1]? = some (vI r_.to)) ∧ UU ∧ UU ∧ ((UU ∧ some (pB (decide (r_.to > (4096 : Int)))) = some (pB false))) ∧ UU ∧ UU ∧ ((UU ∧ some (pB (decide (i > (0 : Int)))) = some (pB false))) ∧ UU ∧ UU ∧ UU) ∧ (UU ∧ UU)) (by kernel_rfl) ⟨⟨TT, TT, k2.2, TT, row_at Run.cs_len k2.1 (j := 0) (by omega) (by decide), TT, ⟨TT, by rw [k3]⟩, TT, TT, k2.2, TT, row_at Run.cs_len k2.1 (j := 0) (by omega) (by decide), TT, TT, k2.2, TT, row_at Run.cs_len k2.1 (j := 1) (by omega) (by decide), TT, TT, ⟨TT, by rw [k4]⟩, TT, TT, k2.2, TT, row_at Run.cs_len k2.1 (j := 1) (by omega) (by decide), TT, TT, ⟨TT, by rw [k5]⟩, TT, TT, ⟨TT, by rw [k6]⟩, TT, TT, TT⟩, ⟨TT, TT⟩⟩) ?_
                refine Done.mk ?_
                obtain rfl := Option.some.inj h
                exact ⟨rfl, by kernel_rfl⟩
      · have _ := hm
        refine Done.as (e := Exit.normal) (s := ⟨[(0, .p (encL Run.cs l)), (3, pI i), (54, pB t54)], []⟩) rfl (by kernel_rfl) ?_
        refine Done.mk (thenQ_n ?_)
        refine ifB_el h (fun k9 h => ?_) (fun k9 h => ?_)
        · refine awp_cond_t (b := t54) (by kernel_rfl) k9 ?_
          refine awp_seq ?_
          refine awp_regionD Try_mixed (orcs := []) (gs := [.keep [2] []]) (s' := ⟨[(2, pB false)], []⟩) (by kernel_rfl) (holds_of ((UU ∧ UU) ∧ (UU ∧ UU)) (by kernel_rfl) ⟨⟨TT, TT⟩, ⟨TT, TT⟩⟩) ?_
          refine Done.mk (thenQ_n ?_)
          refine doneRet ?_
          refine Done.mk (inB_r (thenQ_r ?_))
          obtain rfl := Option.some.inj h
          exact ⟨fun q => (by cases q), fun q => (by subst q; exact ⟨rfl, by kernel_rfl⟩)⟩
        · refine awp_cond_f (b := t54) (by kernel_rfl) k9 ?_
          refine doneSkip ?_
          refine Done.mk (inB_n (thenQ_n ?_))
          refine chk_el h (fun k10 h => ?_)
          refine awp_regionD Try_mixed (orcs := []) (gs := [.keep [0, 3] []]) (s' := ⟨[(0, .p (encL Run.cs l)), (3, pI (i + 1))], []⟩) (by kernel_rfl) (holds_of ((UU ∧ (InR .i64 (i + 1 : Int)) ∧ UU ∧ UU) ∧ (UU ∧ UU)) (by kernel_rfl) ⟨⟨TT, k10, TT, TT⟩, ⟨TT, TT⟩⟩) ?_
          refine Done.mk ?_
          obtain rfl := Option.some.inj h
          exact ⟨rfl, by kernel_rfl⟩
    · refine awp_cond_f (b := decide (i < (l.length : Int))) (by kernel_rfl) k1 ?_
      refine doneExit ?_
      refine Done.gh [.keep [0] [], .keep [0] []] (s' := ⟨[(0, .p (encL Run.cs l))], []⟩) (by kernel_rfl) (holds_of (UU ∧ UU ∧ UU) (by kernel_rfl) ⟨TT, TT, TT⟩) ?_
      refine Done.mk (thenQ_x ?_)
      obtain rfl := Option.some.inj h
      exact ⟨fun q => (by cases q), fun q => (by subst q; exact ⟨rfl, by kernel_rfl⟩)⟩
  · rcases o with _u | _u
    · refine Done.as (e := (Exit.exit 0)) (s := ⟨[(0, .p (encL Run.cs l))], []⟩) rfl (by kernel_rfl) ?_
      refine Done.mk (inB_hit (thenQ_n ?_))
      refine awp_seq ?_
      refine awp_regionD Try_mixed (orcs := []) (gs := [.keep [2] []]) (s' := ⟨[(2, pB (decide ((l.length : Int) > (0 : Int))))], []⟩) (by kernel_rfl) (holds_of ((UU ∧ UU ∧ UU ∧ UU ∧ UU) ∧ (UU ∧ UU)) (by kernel_rfl) ⟨⟨TT, TT, TT, TT, TT⟩, ⟨TT, TT⟩⟩) ?_
      refine Done.mk (thenQ_n ?_)
      refine doneRet ?_
      refine Done.mk ?_
      obtain rfl := Option.some.inj h
      exact ⟨Or.inr rfl, by kernel_rfl, by kernel_rfl⟩
    · refine Done.as (e := Exit.ret) (s := ⟨[(2, pB false)], []⟩) rfl (by kernel_rfl) ?_
      refine Done.mk (inB_r (thenQ_r ?_))
      obtain rfl := Option.some.inj h
      exact ⟨Or.inr rfl, by kernel_rfl, by kernel_rfl⟩
end
end Go.AM
end
