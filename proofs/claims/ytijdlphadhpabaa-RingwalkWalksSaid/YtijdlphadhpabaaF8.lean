/- Models of functions, and that their calls do what the models say. Printed by gen.py. -/
import Derived.Test.YtijdlphadhpabaaProg
import Derived.Test.YtijdlphadhpabaaF7
section
namespace Go.AM
open Go Go.RowKit Go.Proofs
noncomputable section
noncomputable def R22_left (a : Crack) (b : Crack) : Option Bool :=
  chk (InR .i64 (a.to.x - a.frm.x : Int))
  (chk (InR .i64 (b.to.y - b.frm.y : Int))
  (chk (InR .i64 ((a.to.x - a.frm.x) * (b.to.y - b.frm.y) : Int))
  (chk (InR .i64 (a.to.y - a.frm.y : Int))
  (chk (InR .i64 (b.to.x - b.frm.x : Int))
  (chk (InR .i64 ((a.to.y - a.frm.y) * (b.to.x - b.frm.x) : Int))
  (chk (InR .i64 (((a.to.x - a.frm.x) * (b.to.y - b.frm.y)) - ((a.to.y - a.frm.y) * (b.to.x - b.frm.x)) : Int))
  (some (decide ((((a.to.x - a.frm.x) * (b.to.y - b.frm.y)) - ((a.to.y - a.frm.y) * (b.to.x - b.frm.x)) : Int) > (0 : Int))))))))))
set_option maxRecDepth 100000 in
set_option maxHeartbeats 4000000 in
theorem R22_left_ok {a : Crack} {b : Crack} {r : Bool} (h : R22_left a b = some r) : ASpec Try.prog 58 [.agg [pI a.frm.x, pI a.frm.y, pI a.to.x, pI a.to.y], .agg [pI b.frm.x, pI b.frm.y, pI b.to.x, pI b.to.y]] [] (pB r) [] := by
  refine aspec_of Try.func58 (c := _) rfl (by kernel_rfl) (by rw [Try.ntmps58]; exact Nat.le_of_ble_eq_true rfl) ?_
  refine awp_seq ?_
  refine awp_regionD Try_mixed (orcs := []) (gs := [.keep [2, 3] [2, 3]]) (s' := ⟨[(2, .ptr 2 0), (3, .ptr 3 0)], [(2, .lit 81 [pI a.frm.x, pI a.frm.y, pI a.to.x, pI a.to.y]), (3, .lit 81 [pI b.frm.x, pI b.frm.y, pI b.to.x, pI b.to.y])]⟩) (by kernel_rfl) (holds_of ((UU ∧ UU ∧ UU ∧ UU) ∧ (UU ∧ UU)) (by kernel_rfl) ⟨⟨TT, TT, TT, TT⟩, ⟨TT, TT⟩⟩) ?_
  refine Done.mk (thenQ_n ?_)
  refine awp_seq ?_
  refine chk_el h (fun k1 h => ?_)
  refine chk_el h (fun k2 h => ?_)
  refine chk_el h (fun k3 h => ?_)
  refine chk_el h (fun k4 h => ?_)
  refine chk_el h (fun k5 h => ?_)
  refine chk_el h (fun k6 h => ?_)
  refine chk_el h (fun k7 h => ?_)
  refine awp_regionD Try_mixed (orcs := []) (gs := [.keep [4] []]) (s' := ⟨[(4, pB (decide ((((a.to.x - a.frm.x) * (b.to.y - b.frm.y)) - ((a.to.y - a.frm.y) * (b.to.x - b.frm.x)) : Int) > (0 : Int))))], []⟩) (by kernel_rfl) (holds_of ((UU ∧ UU ∧ UU ∧ UU ∧ UU ∧ UU ∧ (InR .i64 (a.to.x - a.frm.x : Int)) ∧ UU ∧ UU ∧ UU ∧ UU ∧ UU ∧ UU ∧ (InR .i64 (b.to.y - b.frm.y : Int)) ∧ (InR .i64 ((a.to.x - a.frm.x) * (b.to.y - b.frm.y) : Int)) ∧ UU ∧ UU ∧ UU ∧ UU ∧ UU ∧ UU ∧ (InR .i64 (a.to.y - a.frm.y : Int)) ∧ UU ∧ UU ∧ UU ∧ UU ∧ UU ∧ UU ∧ (InR .i64 (b.to.x - b.frm.x : Int)) ∧ (InR .i64 ((a.to.y - a.frm.y) * (b.to.x - b.frm.x) : Int)) ∧ (InR .i64 (((a.to.x - a.frm.x) * (b.to.y - b.frm.y)) - ((a.to.y - a.frm.y) * (b.to.x - b.frm.x)) : Int)) ∧ UU ∧ UU ∧ UU) ∧ (UU ∧ UU)) (by kernel_rfl) ⟨⟨TT, TT, TT, TT, TT, TT, k1, TT, TT, TT, TT, TT, TT, k2, k3, TT, TT, TT, TT, TT, TT, k4, TT, TT, TT, TT, TT, TT, k5, k6, k7, TT, TT, TT⟩, ⟨TT, TT⟩⟩) ?_
  refine Done.mk (thenQ_n ?_)
  refine doneRet ?_
  refine Done.mk ?_
  obtain rfl := Option.some.inj h
  exact ⟨Or.inr rfl, by kernel_rfl, by kernel_rfl⟩
end
end Go.AM
end
section
namespace Go.AM
open Go Go.RowKit Go.Proofs
noncomputable section
noncomputable def R22_lower (a : Pt) (b : Pt) : Option Bool :=
  ifB (a.y != b.y)
  (some (decide (a.y < b.y)))
  (some (decide (a.x < b.x)))
set_option maxRecDepth 100000 in
set_option maxHeartbeats 4000000 in
theorem R22_lower_ok {a : Pt} {b : Pt} {r : Bool} (h : R22_lower a b = some r) : ASpec Try.prog 59 [.agg [pI a.x, pI a.y], .agg [pI b.x, pI b.y]] [] (pB r) [] := by
  refine aspec_of Try.func59 (c := _) rfl (by kernel_rfl) (by rw [Try.ntmps59]; exact Nat.le_of_ble_eq_true rfl) ?_
  refine awp_seq ?_
  refine awp_regionD Try_mixed (orcs := []) (gs := [.keep [2, 3] [2, 3]]) (s' := ⟨[(2, .ptr 2 0), (3, .ptr 3 0)], [(2, .lit 63 [pI a.x, pI a.y]), (3, .lit 63 [pI b.x, pI b.y])]⟩) (by kernel_rfl) (holds_of ((UU ∧ UU ∧ UU ∧ UU) ∧ (UU ∧ UU)) (by kernel_rfl) ⟨⟨TT, TT, TT, TT⟩, ⟨TT, TT⟩⟩) ?_
  refine Done.mk (thenQ_n ?_)
  refine awp_seq ?_
  refine awp_seq ?_
  refine awp_regionD Try_mixed (orcs := []) (gs := [.keep [2, 3, 9] [2, 3]]) (s' := ⟨[(2, .ptr 2 0), (3, .ptr 3 0), (9, pB (a.y != b.y))], [(2, .lit 63 [pI a.x, pI a.y]), (3, .lit 63 [pI b.x, pI b.y])]⟩) (by kernel_rfl) (holds_of ((UU ∧ UU ∧ UU ∧ UU ∧ UU ∧ UU) ∧ (UU ∧ UU)) (by kernel_rfl) ⟨⟨TT, TT, TT, TT, TT, TT⟩, ⟨TT, TT⟩⟩) ?_
  refine Done.mk (thenQ_n ?_)
  refine ifB_el h (fun k1 h => ?_) (fun k1 h => ?_)
  · refine awp_cond_t (b := a.y != b.y) (by kernel_rfl) k1 ?_
    refine awp_seq ?_
    refine awp_regionD Try_mixed (orcs := []) (gs := [.keep [4] []]) (s' := ⟨[(4, pB (decide (a.y < b.y)))], []⟩) (by kernel_rfl) (holds_of ((UU ∧ UU ∧ UU ∧ UU ∧ UU ∧ UU ∧ UU) ∧ (UU ∧ UU)) (by kernel_rfl) ⟨⟨TT, TT, TT, TT, TT, TT, TT⟩, ⟨TT, TT⟩⟩) ?_
    refine Done.mk (thenQ_n ?_)
    refine doneRet ?_
    refine Done.mk (thenQ_r ?_)
    obtain rfl := Option.some.inj h
    exact ⟨Or.inr rfl, by kernel_rfl, by kernel_rfl⟩
  · refine awp_cond_f (b := a.y != b.y) (by kernel_rfl) k1 ?_
    refine doneSkip ?_
    refine Done.mk (thenQ_n ?_)
    refine awp_seq ?_
    refine awp_regionD Try_mixed (orcs := []) (gs := [.keep [4] []]) (s' := ⟨[(4, pB (decide (a.x < b.x)))], []⟩) (by kernel_rfl) (holds_of ((UU ∧ UU ∧ UU ∧ UU ∧ UU ∧ UU ∧ UU) ∧ (UU ∧ UU)) (by kernel_rfl) ⟨⟨TT, TT, TT, TT, TT, TT, TT⟩, ⟨TT, TT⟩⟩) ?_
    refine Done.mk (thenQ_n ?_)
    refine doneRet ?_
    refine Done.mk ?_
    obtain rfl := Option.some.inj h
    exact ⟨Or.inr rfl, by kernel_rfl, by kernel_rfl⟩
end
end Go.AM
end
section
namespace Go.AM
open Go Go.RowKit Go.Proofs
noncomputable section
noncomputable def R24_way (a : Pt) (b : Pt) : Option Pt :=
  ifB (decide (b.x > a.x))
  (some (Pt.mk 1 0))
  (ifB (decide (b.x < a.x))
    (some (Pt.mk (-1) 0))
    (ifB (decide (b.y > a.y))
      (some (Pt.mk 0 1))
      (some (Pt.mk 0 (-1)))))
set_option maxRecDepth 100000 in
set_option maxHeartbeats 4000000 in
theorem R24_way_ok {a : Pt} {b : Pt} {r : Pt} (h : R24_way a b = some r) : ASpec Try.prog 41 [.agg [pI a.x, pI a.y], .agg [pI b.x, pI b.y]] [] (.agg [pI r.x, pI r.y]) [] := by
  refine aspec_of Try.func41 (c := _) rfl (by kernel_rfl) (by rw [Try.ntmps41]; exact Nat.le_of_ble_eq_true rfl) ?_
  refine awp_seq ?_
  refine awp_regionD Try_mixed (orcs := []) (gs := [.keep [2, 3, 4] [2, 3, 4]]) (s' := ⟨[(2, .ptr 2 0), (3, .ptr 3 0), (4, .ptr 4 0)], [(2, .lit 63 [pI a.x, pI a.y]), (3, .lit 63 [pI b.x, pI b.y]), (4, .lit 63 [pI 0, pI 0])]⟩) (by kernel_rfl) (holds_of ((UU ∧ UU ∧ UU ∧ UU) ∧ (UU ∧ UU)) (by kernel_rfl) ⟨⟨TT, TT, TT, TT⟩, ⟨TT, TT⟩⟩) ?_
  refine Done.mk (thenQ_n ?_)
  refine awp_seq ?_
  refine awp_block ?_
  refine awp_seq ?_
  refine awp_regionD Try_mixed (orcs := []) (gs := [.keep [2, 3, 4, 5] [2, 3, 4]]) (s' := ⟨[(2, .ptr 2 0), (3, .ptr 3 0), (4, .ptr 4 0), (5, pB (decide (b.x > a.x)))], [(2, .lit 63 [pI a.x, pI a.y]), (3, .lit 63 [pI b.x, pI b.y]), (4, .lit 63 [pI 0, pI 0])]⟩) (by kernel_rfl) (holds_of ((UU ∧ UU ∧ UU ∧ UU ∧ UU ∧ UU ∧ UU) ∧ (UU ∧ UU)) (by kernel_rfl) ⟨⟨TT, TT, TT, TT, TT, TT, TT⟩, ⟨TT, TT⟩⟩) ?_
  refine Done.mk (thenQ_n ?_)
  refine ifB_el h (fun k1 h => ?_) (fun k1 h => ?_)
  · refine awp_cond_t (b := decide (b.x > a.x)) (by kernel_rfl) k1 ?_
    refine awp_seq ?_
    refine awp_regionD Try_mixed (orcs := []) (gs := [.keep [4] [4]]) (s' := ⟨[(4, .ptr 4 0)], [(4, .lit 63 [pI 1, pI 0])]⟩) (by kernel_rfl) (holds_of ((UU ∧ UU ∧ UU) ∧ (UU ∧ UU)) (by kernel_rfl) ⟨⟨TT, TT, TT⟩, ⟨TT, TT⟩⟩) ?_
    refine Done.mk (thenQ_n ?_)
    refine doneRet ?_
    refine Done.mk (inB_r (thenQ_r ?_))
    obtain rfl := Option.some.inj h
    exact ⟨Or.inr rfl, by kernel_rfl, by kernel_rfl⟩
  · refine awp_cond_f (b := decide (b.x > a.x)) (by kernel_rfl) k1 ?_
    refine awp_seq ?_
    refine awp_regionD Try_mixed (orcs := []) (gs := [.keep [2, 3, 4, 12] [2, 3, 4]]) (s' := ⟨[(2, .ptr 2 0), (3, .ptr 3 0), (4, .ptr 4 0), (12, pB (decide (b.x < a.x)))], [(2, .lit 63 [pI a.x, pI a.y]), (3, .lit 63 [pI b.x, pI b.y]), (4, .lit 63 [pI 0, pI 0])]⟩) (by kernel_rfl) (holds_of ((UU ∧ UU ∧ UU ∧ UU ∧ UU ∧ UU ∧ UU) ∧ (UU ∧ UU)) (by kernel_rfl) ⟨⟨TT, TT, TT, TT, TT, TT, TT⟩, ⟨TT, TT⟩⟩) ?_
    refine Done.mk (thenQ_n ?_)
    refine ifB_el h (fun k2 h => ?_) (fun k2 h => ?_)
    · refine awp_cond_t (b := decide (b.x < a.x)) (by kernel_rfl) k2 ?_
      refine awp_seq ?_
      refine awp_regionD Try_mixed (orcs := []) (gs := [.keep [4] [4]]) (s' := ⟨[(4, .ptr 4 0)], [(4, .lit 63 [pI (-1), pI 0])]⟩) (by kernel_rfl) (holds_of ((UU ∧ UU ∧ UU) ∧ (UU ∧ UU)) (by kernel_rfl) ⟨⟨TT, TT, TT⟩, ⟨TT, TT⟩⟩) ?_
      refine Done.mk (thenQ_n ?_)
      refine doneRet ?_
      refine Done.mk (inB_r (thenQ_r ?_))
      obtain rfl := Option.some.inj h
      exact ⟨Or.inr rfl, by kernel_rfl, by kernel_rfl⟩
    · refine awp_cond_f (b := decide (b.x < a.x)) (by kernel_rfl) k2 ?_
      refine awp_seq ?_
      refine awp_regionD Try_mixed (orcs := []) (gs := [.keep [4, 19] [4]]) (s' := ⟨[(4, .ptr 4 0), (19, pB (decide (b.y > a.y)))], [(4, .lit 63 [pI 0, pI 0])]⟩) (by kernel_rfl) (holds_of ((UU ∧ UU ∧ UU ∧ UU ∧ UU ∧ UU ∧ UU) ∧ (UU ∧ UU)) (by kernel_rfl) ⟨⟨TT, TT, TT, TT, TT, TT, TT⟩, ⟨TT, TT⟩⟩) ?_
      refine Done.mk (thenQ_n ?_)
      refine ifB_el h (fun k3 h => ?_) (fun k3 h => ?_)
      · refine awp_cond_t (b := decide (b.y > a.y)) (by kernel_rfl) k3 ?_
        refine awp_seq ?_
        refine awp_regionD Try_mixed (orcs := []) (gs := [.keep [4] [4]]) (s' := ⟨[(4, .ptr 4 0)], [(4, .lit 63 [pI 0, pI 1])]⟩) (by kernel_rfl) (holds_of ((UU ∧ UU ∧ UU) ∧ (UU ∧ UU)) (by kernel_rfl) ⟨⟨TT, TT, TT⟩, ⟨TT, TT⟩⟩) ?_
        refine Done.mk (thenQ_n ?_)
        refine doneRet ?_
        refine Done.mk (inB_r (thenQ_r ?_))
        obtain rfl := Option.some.inj h
        exact ⟨Or.inr rfl, by kernel_rfl, by kernel_rfl⟩
      · refine awp_cond_f (b := decide (b.y > a.y)) (by kernel_rfl) k3 ?_
        refine doneSkip ?_
        refine Done.mk (inB_n (thenQ_n ?_))
        refine awp_seq ?_
        refine awp_regionD Try_mixed (orcs := []) (gs := [.keep [4] [4]]) (s' := ⟨[(4, .ptr 4 0)], [(4, .lit 63 [pI 0, pI (-1)])]⟩) (by kernel_rfl) (holds_of ((UU ∧ UU ∧ UU) ∧ (UU ∧ UU)) (by kernel_rfl) ⟨⟨TT, TT, TT⟩, ⟨TT, TT⟩⟩) ?_
        refine Done.mk (thenQ_n ?_)
        refine doneRet ?_
        refine Done.mk ?_
        obtain rfl := Option.some.inj h
        exact ⟨Or.inr rfl, by kernel_rfl, by kernel_rfl⟩
end
end Go.AM
end
section
namespace Go.AM
open Go Go.RowKit Go.Proofs
noncomputable section
noncomputable def R24_left (p_ : Pt) (d : Pt) : Option Cell :=
  ifB (decide (d.x > (0 : Int)))
  (some (Cell.mk p_.x p_.y))
  (ifB (decide (d.y > (0 : Int)))
    (chk (InR .i64 (p_.x - 1 : Int))
      (some (Cell.mk (p_.x - 1) p_.y)))
    (ifB (decide (d.x < (0 : Int)))
      (chk (InR .i64 (p_.x - 1 : Int))
        (chk (InR .i64 (p_.y - 1 : Int))
        (some (Cell.mk (p_.x - 1) (p_.y - 1)))))
      (chk (InR .i64 (p_.y - 1 : Int))
        (some (Cell.mk p_.x (p_.y - 1))))))
set_option maxRecDepth 100000 in
set_option maxHeartbeats 4000000 in
theorem R24_left_ok {p_ : Pt} {d : Pt} {r : Cell} (h : R24_left p_ d = some r) : ASpec Try.prog 42 [.agg [pI p_.x, pI p_.y], .agg [pI d.x, pI d.y]] [] (.agg [pI r.x, pI r.y]) [] := by
  refine aspec_of Try.func42 (c := _) rfl (by kernel_rfl) (by rw [Try.ntmps42]; exact Nat.le_of_ble_eq_true rfl) ?_
  refine awp_seq ?_
  refine awp_regionD Try_mixed (orcs := []) (gs := [.keep [2, 3, 4] [2, 3, 4]]) (s' := ⟨[(2, .ptr 2 0), (3, .ptr 3 0), (4, .ptr 4 0)], [(2, .lit 63 [pI p_.x, pI p_.y]), (3, .lit 63 [pI d.x, pI d.y]), (4, .lit 37 [pI 0, pI 0])]⟩) (by kernel_rfl) (holds_of ((UU ∧ UU ∧ UU ∧ UU) ∧ (UU ∧ UU)) (by kernel_rfl) ⟨⟨TT, TT, TT, TT⟩, ⟨TT, TT⟩⟩) ?_
  refine Done.mk (thenQ_n ?_)
  refine awp_seq ?_
  refine awp_block ?_
  refine awp_seq ?_
  refine awp_regionD Try_mixed (orcs := []) (gs := [.keep [2, 3, 4, 5] [2, 3, 4]]) (s' := ⟨[(2, .ptr 2 0), (3, .ptr 3 0), (4, .ptr 4 0), (5, pB (decide (d.x > (0 : Int))))], [(2, .lit 63 [pI p_.x, pI p_.y]), (3, .lit 63 [pI d.x, pI d.y]), (4, .lit 37 [pI 0, pI 0])]⟩) (by kernel_rfl) (holds_of ((UU ∧ UU ∧ UU ∧ UU ∧ UU) ∧ (UU ∧ UU)) (by kernel_rfl) ⟨⟨TT, TT, TT, TT, TT⟩, ⟨TT, TT⟩⟩) ?_
  refine Done.mk (thenQ_n ?_)
  refine ifB_el h (fun k1 h => ?_) (fun k1 h => ?_)
  · refine awp_cond_t (b := decide (d.x > (0 : Int))) (by kernel_rfl) k1 ?_
    refine awp_seq ?_
    refine awp_regionD Try_mixed (orcs := []) (gs := [.keep [4] [4]]) (s' := ⟨[(4, .ptr 4 0)], [(4, .lit 37 [pI p_.x, pI p_.y])]⟩) (by kernel_rfl) (holds_of ((UU ∧ UU ∧ UU ∧ UU ∧ UU ∧ UU ∧ UU) ∧ (UU ∧ UU)) (by kernel_rfl) ⟨⟨TT, TT, TT, TT, TT, TT, TT⟩, ⟨TT, TT⟩⟩) ?_
    refine Done.mk (thenQ_n ?_)
    refine doneRet ?_
    refine Done.mk (inB_r (thenQ_r ?_))
    obtain rfl := Option.some.inj h
    exact ⟨Or.inr rfl, by kernel_rfl, by kernel_rfl⟩
  · refine awp_cond_f (b := decide (d.x > (0 : Int))) (by kernel_rfl) k1 ?_
    refine awp_seq ?_
    refine awp_regionD Try_mixed (orcs := []) (gs := [.keep [2, 3, 4, 14] [2, 3, 4]]) (s' := ⟨[(2, .ptr 2 0), (3, .ptr 3 0), (4, .ptr 4 0), (14, pB (decide (d.y > (0 : Int))))], [(2, .lit 63 [pI p_.x, pI p_.y]), (3, .lit 63 [pI d.x, pI d.y]), (4, .lit 37 [pI 0, pI 0])]⟩) (by kernel_rfl) (holds_of ((UU ∧ UU ∧ UU ∧ UU ∧ UU) ∧ (UU ∧ UU)) (by kernel_rfl) ⟨⟨TT, TT, TT, TT, TT⟩, ⟨TT, TT⟩⟩) ?_
    refine Done.mk (thenQ_n ?_)
    refine ifB_el h (fun k2 h => ?_) (fun k2 h => ?_)
    · refine awp_cond_t (b := decide (d.y > (0 : Int))) (by kernel_rfl) k2 ?_
      refine awp_seq ?_
      refine chk_el h (fun k3 h => ?_)
      refine awp_regionD Try_mixed (orcs := []) (gs := [.keep [4] [4]]) (s' := ⟨[(4, .ptr 4 0)], [(4, .lit 37 [pI (p_.x - 1), pI p_.y])]⟩) (by kernel_rfl) (holds_of ((UU ∧ UU ∧ (InR .i64 (p_.x - 1 : Int)) ∧ UU ∧ UU ∧ UU ∧ UU ∧ UU) ∧ (UU ∧ UU)) (by kernel_rfl) ⟨⟨TT, TT, k3, TT, TT, TT, TT, TT⟩, ⟨TT, TT⟩⟩) ?_
      refine Done.mk (thenQ_n ?_)
      refine doneRet ?_
      refine Done.mk (inB_r (thenQ_r ?_))
      obtain rfl := Option.some.inj h
      exact ⟨Or.inr rfl, by kernel_rfl, by kernel_rfl⟩
    · refine awp_cond_f (b := decide (d.y > (0 : Int))) (by kernel_rfl) k2 ?_
      refine awp_seq ?_
      refine awp_regionD Try_mixed (orcs := []) (gs := [.keep [2, 4, 24] [2, 4]]) (s' := ⟨[(2, .ptr 2 0), (4, .ptr 4 0), (24, pB (decide (d.x < (0 : Int))))], [(2, .lit 63 [pI p_.x, pI p_.y]), (4, .lit 37 [pI 0, pI 0])]⟩) (by kernel_rfl) (holds_of ((UU ∧ UU ∧ UU ∧ UU ∧ UU) ∧ (UU ∧ UU)) (by kernel_rfl) ⟨⟨TT, TT, TT, TT, TT⟩, ⟨TT, TT⟩⟩) ?_
      refine Done.mk (thenQ_n ?_)
      refine ifB_el h (fun k4 h => ?_) (fun k4 h => ?_)
      · refine awp_cond_t (b := decide (d.x < (0 : Int))) (by kernel_rfl) k4 ?_
        refine awp_seq ?_
        refine chk_el h (fun k5 h => ?_)
        refine chk_el h (fun k6 h => ?_)
        refine awp_regionD Try_mixed (orcs := []) (gs := [.keep [4] [4]]) (s' := ⟨[(4, .ptr 4 0)], [(4, .lit 37 [pI (p_.x - 1), pI (p_.y - 1)])]⟩) (by kernel_rfl) (holds_of ((UU ∧ UU ∧ (InR .i64 (p_.x - 1 : Int)) ∧ UU ∧ UU ∧ (InR .i64 (p_.y - 1 : Int)) ∧ UU ∧ UU ∧ UU) ∧ (UU ∧ UU)) (by kernel_rfl) ⟨⟨TT, TT, k5, TT, TT, k6, TT, TT, TT⟩, ⟨TT, TT⟩⟩) ?_
        refine Done.mk (thenQ_n ?_)
        refine doneRet ?_
        refine Done.mk (inB_r (thenQ_r ?_))
        obtain rfl := Option.some.inj h
        exact ⟨Or.inr rfl, by kernel_rfl, by kernel_rfl⟩
      · refine awp_cond_f (b := decide (d.x < (0 : Int))) (by kernel_rfl) k4 ?_
        refine doneSkip ?_
        refine Done.mk (inB_n (thenQ_n ?_))
        refine awp_seq ?_
        refine chk_el h (fun k7 h => ?_)
        refine awp_regionD Try_mixed (orcs := []) (gs := [.keep [4] [4]]) (s' := ⟨[(4, .ptr 4 0)], [(4, .lit 37 [pI p_.x, pI (p_.y - 1)])]⟩) (by kernel_rfl) (holds_of ((UU ∧ UU ∧ UU ∧ UU ∧ (InR .i64 (p_.y - 1 : Int)) ∧ UU ∧ UU ∧ UU) ∧ (UU ∧ UU)) (by kernel_rfl) ⟨⟨TT, TT, TT, TT, k7, TT, TT, TT⟩, ⟨TT, TT⟩⟩) ?_
        refine Done.mk (thenQ_n ?_)
        refine doneRet ?_
        refine Done.mk ?_
        obtain rfl := Option.some.inj h
        exact ⟨Or.inr rfl, by kernel_rfl, by kernel_rfl⟩
end
end Go.AM
end
section
namespace Go.AM
open Go Go.RowKit Go.Proofs
noncomputable section
def R24_once_j1 (out_ : (List Cell)) (l : (List Cell)) (i : Int) : Option (Bool) :=
    ifB ((out_.length : Int) == (0 : Int))
    (some true)
    (chk (InR .i64 (((out_.length : Int)) - 1 : Int))
      ((getI out_ (((out_.length : Int)) - 1 : Int)).bind fun c =>
      (getI l i).bind fun c1 =>
      some (!((c.x == c1.x) && ((c.y == c1.y) && true)))))
def R24_once_j2 (out_ : (List Cell)) (l : (List Cell)) (i : Int) : Option ((List Cell)) :=
    (R24_once_j1 out_ l i).bind fun t26 =>
    ifB (t26)
    ((getI l i).bind fun c2 =>
      chk (out_.length + ([c2]).length ≤ 1099511627776)
      (some (out_ ++ ([c2]))))
    (some out_)
def R24_once_l3 (l : (List Cell)) (s : (List Cell) × Int) : Option (((List Cell) × Int) ⊕ ((List Cell))) :=
  match s with
  | (out_, i) =>
    ifB (decide (i < (l.length : Int)))
    ((R24_once_j2 out_ l i).bind fun out_1 =>
      chk (InR .i64 (i + 1 : Int))
      (some (.inl (out_1, i + 1))))
    (some (.inr out_))
def R24_once_j4 (out_2 : (List Cell)) : Option (Bool) :=
    ifB (decide ((out_2.length : Int) > (1 : Int)))
    ((getI out_2 (0 : Int)).bind fun c3 =>
      chk (InR .i64 (((out_2.length : Int)) - 1 : Int))
      ((getI out_2 (((out_2.length : Int)) - 1 : Int)).bind fun c4 =>
      some ((c3.x == c4.x) && ((c3.y == c4.y) && true))))
    (some false)
def R24_once_j5 (out_2 : (List Cell)) : Option ((List Cell)) :=
    (R24_once_j4 out_2).bind fun t48 =>
    ifB (t48)
    (chk (InR .i64 (((out_2.length : Int)) - 1 : Int))
      (chk ((0 ≤ (((out_2.length : Int)) - 1 : Int) ∧ (((out_2.length : Int)) - 1 : Int) ≤ (out_2.length : Int)))
      (some (out_2.take (((out_2.length : Int)) - 1 : Int).toNat))))
    (some out_2)
noncomputable def R24_once (l : (List Cell)) : Option (List Cell) :=
  (loopP (R24_once_l3 l) (([] : List Cell), 0)).bind fun out_2 =>
  (R24_once_j5 out_2).bind fun out_3 =>
  some out_3
set_option maxRecDepth 100000 in
set_option maxHeartbeats 4000000 in
theorem R24_once_ok {l : (List Cell)} {r : (List Cell)} (h : R24_once l = some r) : ASpec Try.prog 20 [.p (encL Cell.cs l)] [] (.p (encL Cell.cs r)) [] := by
  refine aspec_of Try.func20 (c := _) rfl (by kernel_rfl) (by rw [Try.ntmps20]; exact Nat.le_of_ble_eq_true rfl) ?_
  refine awp_seq ?_
  refine awp_regionD Try_mixed (orcs := []) (gs := [.keep [0] []]) (s' := ⟨[(0, .p (encL Cell.cs l))], []⟩) (by kernel_rfl) (holds_of ((UU ∧ UU) ∧ (UU ∧ UU)) (by kernel_rfl) ⟨⟨TT, TT⟩, ⟨TT, TT⟩⟩) ?_
  refine Done.mk (thenQ_n ?_)
  refine awp_seq ?_
  refine awp_regionD Try_mixed (orcs := []) (gs := [.keep [0, 3] []]) (s' := ⟨[(0, .p (encL Cell.cs l)), (3, .nils)], []⟩) (by kernel_rfl) (holds_of ((UU ∧ UU) ∧ (UU ∧ UU)) (by kernel_rfl) ⟨⟨TT, TT⟩, ⟨TT, TT⟩⟩) ?_
  refine Done.mk (thenQ_n ?_)
  refine awp_seq ?_
  refine awp_seq ?_
  refine awp_regionD Try_mixed (orcs := []) (gs := [.keep [0, 3, 4] []]) (s' := ⟨[(0, .p (encL Cell.cs l)), (3, .nils), (4, pI 0)], []⟩) (by kernel_rfl) (holds_of ((UU ∧ UU) ∧ (UU ∧ UU)) (by kernel_rfl) ⟨⟨TT, TT⟩, ⟨TT, TT⟩⟩) ?_
  refine Done.mk (thenQ_n ?_)
  refine awp_block ?_
  refine bind_el h (fun out_2 hm h => ?_)
  refine awp_gh [.keep [0, 3, 4] [], .opn 3 5001 37 2, .keep [0, 3, 4] [5001]] (s' := ⟨[(0, .p (encL Cell.cs l)), (3, .own 5001 0 (([] : List Cell)).length 2), (4, pI 0)], [(5001, .row 37 ((([] : List Cell)).flatMap Cell.cs))]⟩) (by kernel_rfl) (holds_of (UU ∧ UU ∧ UU ∧ UU) (by kernel_rfl) ⟨TT, TT, TT, TT⟩) ?_
  refine awp_tail (fun _ => (Exit.exit 0)) (fun o => match o with | out_2 => ⟨[(3, .own 5001 0 out_2.length 2)], [(5001, .row 37 (out_2.flatMap Cell.cs))]⟩) hm (fun o h => ?_) ?_
  · refine awp_loop' (fun s => match s with | (out_, i) => ⟨[(0, .p (encL Cell.cs l)), (3, .own 5001 0 out_.length 2), (4, pI i)], [(5001, .row 37 (out_.flatMap Cell.cs))]⟩) h (by kernel_rfl) (fun s out h => ?_)
    obtain ⟨out_, i⟩ := s
    refine awp_seq ?_
    refine awp_seq ?_
    refine awp_regionD Try_mixed (orcs := []) (gs := [.keep [0, 3, 4, 8] [5001]]) (s' := ⟨[(0, .p (encL Cell.cs l)), (3, .own 5001 0 out_.length 2), (4, pI i), (8, pB (decide (i < (l.length : Int))))], [(5001, .row 37 (out_.flatMap Cell.cs))]⟩) (by kernel_rfl) (holds_of ((UU ∧ UU ∧ UU ∧ UU ∧ UU) ∧ (UU ∧ UU)) (by kernel_rfl) ⟨⟨TT, TT, TT, TT, TT⟩, ⟨TT, TT⟩⟩) ?_
    refine Done.mk (thenQ_n ?_)
    refine ifB_el h (fun k1 h => ?_) (fun k1 h => ?_)
    · refine awp_cond_t (b := decide (i < (l.length : Int))) (by kernel_rfl) k1 ?_
      refine doneSkip ?_
      refine Done.mk (thenQ_n ?_)
      refine awp_seq ?_
      refine bind_el h (fun out_1 hm h => ?_)
      refine awp_tail (fun _ => Exit.normal) (fun o => match o with | out_1 => ⟨[(0, .p (encL Cell.cs l)), (3, .own 5002 0 out_1.length 2), (4, pI i)], [(5002, .row 37 (out_1.flatMap Cell.cs))]⟩) hm (fun o h => ?_) ?_
      · refine awp_block ?_
        refine awp_seq ?_
        refine bind_el h (fun t26 hm h => ?_)
        refine awp_tail (fun _ => Exit.normal) (fun o => match o with | t26 => ⟨[(0, .p (encL Cell.cs l)), (3, .own 5001 0 out_.length 2), (4, pI i), (26, pB t26)], [(5001, .row 37 (out_.flatMap Cell.cs))]⟩) hm (fun o h => ?_) ?_
        · refine ifB_el h (fun k2 h => ?_) (fun k2 h => ?_)
          · refine awp_regionD Try_mixed (orcs := [(3, tB true)]) (gs := [.keep [0, 3, 4, 26] [5001]]) (s' := ⟨[(0, .p (encL Cell.cs l)), (3, .own 5001 0 out_.length 2), (4, pI i), (26, pB true)], [(5001, .row 37 (out_.flatMap Cell.cs))]⟩) (by kernel_rfl) (holds_of ((UU ∧ UU ∧ UU ∧ ((UU ∧ some (pB ((out_.length : Int) == (0 : Int))) = some (pB true))) ∧ UU ∧ UU) ∧ (UU ∧ UU)) (by kernel_rfl) ⟨⟨TT, TT, TT, ⟨TT, by rw [k2]⟩, TT, TT⟩, ⟨TT, TT⟩⟩) ?_
            refine Done.mk ?_
            obtain rfl := Option.some.inj h
            exact ⟨rfl, by kernel_rfl⟩
          · refine chk_el h (fun k3 h => ?_)
            refine bind_el h (fun c k4 h => ?_)
            replace k4 := getI_el k4
            refine bind_el h (fun c1 k5 h => ?_)
            replace k5 := getI_el k5
            refine awp_regionD Try_mixed (orcs := [(3, tB false), (9, tV (.agg [pI c.x, pI c.y])), (13, tV (.agg [pI c1.x, pI c1.y]))]) (gs := [.keep [0, 3, 4, 26] [5001]]) (s' := ⟨[(0, .p (encL Cell.cs l)), (3, .own 5001 0 out_.length 2), (4, pI i), (26, pB (!((c.x == c1.x) && ((c.y == c1.y) && true))))], [(5001, .row 37 (out_.flatMap Cell.cs))]⟩) (by kernel_rfl) (holds_of ((UU ∧ UU ∧ UU ∧ ((UU ∧ some (pB ((out_.length : Int) == (0 : Int))) = some (pB false))) ∧ UU ∧ UU ∧ UU ∧ (InR .i64 (((out_.length : Int)) - 1 : Int)) ∧ ((0 ≤ (((out_.length : Int)) - 1 : Int) ∧ (((out_.length : Int)) - 1 : Int) < (out_.length : Int))) ∧ (rowHas (out_.flatMap Cell.cs) (0 + (((out_.length : Int)) - 1 : Int).toNat * 2) [pI c.x, pI c.y]) ∧ UU ∧ UU ∧ ((0 ≤ i ∧ i < (l.length : Int))) ∧ (rowHas (l.flatMap Cell.cs) (i.toNat * 2) [pI c1.x, pI c1.y]) ∧ UU ∧ UU ∧ UU) ∧ (UU ∧ UU)) (by kernel_rfl) ⟨⟨TT, TT, TT, ⟨TT, by rw [k2]⟩, TT, TT, TT, k3, k4.2, row_has Cell.cs_len k4.1 (o := 0) (m := 2) (by omega) (by decide), TT, TT, k5.2, row_has Cell.cs_len k5.1 (o := 0) (m := 2) (by omega) (by decide), TT, TT, TT⟩, ⟨TT, TT⟩⟩) ?_
            refine Done.mk ?_
            obtain rfl := Option.some.inj h
            exact ⟨rfl, by kernel_rfl⟩
        · have _ := hm
          refine Done.as (e := Exit.normal) (s := ⟨[(0, .p (encL Cell.cs l)), (3, .own 5001 0 out_.length 2), (4, pI i), (26, pB t26)], [(5001, .row 37 (out_.flatMap Cell.cs))]⟩) rfl (by kernel_rfl) ?_
          refine Done.mk (thenQ_n ?_)
          refine ifB_el h (fun k6 h => ?_) (fun k6 h => ?_)
          · refine awp_cond_t (b := t26) (by kernel_rfl) k6 ?_
            refine bind_el h (fun c2 k7 h => ?_)
            replace k7 := getI_el k7
            refine chk_el h (fun k8 h => ?_)
            refine awp_regionD Try_mixed (orcs := [(4, tV (.agg [pI c2.x, pI c2.y])), (6, tV (.own 33 0 (out_ ++ ([c2])).length 2))]) (gs := [.castB 33 (.row 37 ((out_ ++ ([c2])).flatMap Cell.cs)), .keep [0, 3, 4] [33]]) (s' := ⟨[(0, .p (encL Cell.cs l)), (3, .own 33 0 (out_ ++ ([c2])).length 2), (4, pI i)], [(33, .row 37 ((out_ ++ ([c2])).flatMap Cell.cs))]⟩) (by kernel_rfl) (holds_of ((UU ∧ UU ∧ UU ∧ ((0 ≤ i ∧ i < (l.length : Int))) ∧ (rowHas (l.flatMap Cell.cs) (i.toNat * 2) [pI c2.x, pI c2.y]) ∧ UU ∧ ((((out_.flatMap Cell.cs).length = out_.length * 2 ∧ (([c2]).flatMap Cell.cs).length = ([c2]).length * 2 ∧ (out_.length + ([c2]).length) * 16 ≤ 140737488355328 ∧ out_.length + ([c2]).length ≤ 9223372036854775807) ∧ some (AV.own 33 0 (out_.length + ([c2]).length) 2) = some (AV.own 33 0 (out_ ++ ([c2])).length 2))) ∧ UU ∧ UU) ∧ ((some (ABlk.row 37 (out_.flatMap Cell.cs ++ ([c2]).flatMap Cell.cs)) = some (ABlk.row 37 ((out_ ++ ([c2])).flatMap Cell.cs))) ∧ UU ∧ UU)) (by kernel_rfl) ⟨⟨TT, TT, TT, k7.2, row_has Cell.cs_len k7.1 (o := 0) (m := 2) (by omega) (by decide), TT, ⟨⟨flat_len Cell.cs_len _, flat_len Cell.cs_len _, by omega, by omega⟩, app_len _ _ _ _⟩, TT, TT⟩, ⟨(app_row Cell.cs _ _ _), TT, TT⟩⟩) ?_
            refine Done.gh [.keep [0, 3, 4] [33], .ren 33 5002, .keep [0, 3, 4] [5002]] (s' := ⟨[(0, .p (encL Cell.cs l)), (3, .own 5002 0 (out_ ++ ([c2])).length 2), (4, pI i)], [(5002, .row 37 ((out_ ++ ([c2])).flatMap Cell.cs))]⟩) (by kernel_rfl) (holds_of (UU ∧ UU ∧ UU ∧ UU) (by kernel_rfl) ⟨TT, TT, TT, TT⟩) ?_
            refine Done.mk (inB_n ?_)
            obtain rfl := Option.some.inj h
            exact ⟨rfl, by kernel_rfl⟩
          · refine awp_cond_f (b := t26) (by kernel_rfl) k6 ?_
            refine doneSkip ?_
            refine Done.gh [.keep [0, 3, 4] [5001], .ren 5001 5002, .keep [0, 3, 4] [5002]] (s' := ⟨[(0, .p (encL Cell.cs l)), (3, .own 5002 0 out_.length 2), (4, pI i)], [(5002, .row 37 (out_.flatMap Cell.cs))]⟩) (by kernel_rfl) (holds_of (UU ∧ UU ∧ UU ∧ UU) (by kernel_rfl) ⟨TT, TT, TT, TT⟩) ?_
            refine Done.mk (inB_n ?_)
            obtain rfl := Option.some.inj h
            exact ⟨rfl, by kernel_rfl⟩
      · have _ := hm
        refine Done.as (e := Exit.normal) (s := ⟨[(0, .p (encL Cell.cs l)), (3, .own 5002 0 out_1.length 2), (4, pI i)], [(5002, .row 37 (out_1.flatMap Cell.cs))]⟩) rfl (by kernel_rfl) ?_
        refine Done.mk (thenQ_n ?_)
        refine chk_el h (fun k9 h => ?_)
        refine awp_regionD Try_mixed (orcs := []) (gs := [.keep [0, 3, 4] [5002]]) (s' := ⟨[(0, .p (encL Cell.cs l)), (3, .own 5002 0 out_1.length 2), (4, pI (i + 1))], [(5002, .row 37 (out_1.flatMap Cell.cs))]⟩) (by kernel_rfl) (holds_of ((UU ∧ (InR .i64 (i + 1 : Int)) ∧ UU ∧ UU) ∧ (UU ∧ UU)) (by kernel_rfl) ⟨⟨TT, k9, TT, TT⟩, ⟨TT, TT⟩⟩) ?_
        refine Done.gh [.keep [0, 3, 4] [5002], .ren 5002 5001, .keep [0, 3, 4] [5001]] (s' := ⟨[(0, .p (encL Cell.cs l)), (3, .own 5001 0 out_1.length 2), (4, pI (i + 1))], [(5001, .row 37 (out_1.flatMap Cell.cs))]⟩) (by kernel_rfl) (holds_of (UU ∧ UU ∧ UU ∧ UU) (by kernel_rfl) ⟨TT, TT, TT, TT⟩) ?_
        refine Done.mk ?_
        obtain rfl := Option.some.inj h
        exact ⟨rfl, by kernel_rfl⟩
    · refine awp_cond_f (b := decide (i < (l.length : Int))) (by kernel_rfl) k1 ?_
      refine doneExit ?_
      refine Done.gh [.keep [3] [5001], .keep [3] [5001]] (s' := ⟨[(3, .own 5001 0 out_.length 2)], [(5001, .row 37 (out_.flatMap Cell.cs))]⟩) (by kernel_rfl) (holds_of (UU ∧ UU ∧ UU) (by kernel_rfl) ⟨TT, TT, TT⟩) ?_
      refine Done.mk (thenQ_x ?_)
      obtain rfl := Option.some.inj h
      exact ⟨fun q => (by cases q), fun q => (by subst q; exact ⟨rfl, by kernel_rfl⟩)⟩
  · have _ := hm
    refine Done.as (e := (Exit.exit 0)) (s := ⟨[(3, .own 5001 0 out_2.length 2)], [(5001, .row 37 (out_2.flatMap Cell.cs))]⟩) rfl (by kernel_rfl) ?_
    refine Done.mk (inB_hit (thenQ_n ?_))
    refine awp_seq ?_
    refine bind_el h (fun out_3 hm h => ?_)
    refine awp_tail (fun _ => Exit.normal) (fun o => match o with | out_3 => ⟨[(3, .own 5001 0 out_3.length 2)], [(5001, .row 37 (out_3.flatMap Cell.cs))]⟩) hm (fun o h => ?_) ?_
    · refine awp_seq ?_
      refine bind_el h (fun t48 hm h => ?_)
      refine awp_tail (fun _ => Exit.normal) (fun o => match o with | t48 => ⟨[(3, .own 5001 0 out_2.length 2), (48, pB t48)], [(5001, .row 37 (out_2.flatMap Cell.cs))]⟩) hm (fun o h => ?_) ?_
      · refine ifB_el h (fun k10 h => ?_) (fun k10 h => ?_)
        · refine bind_el h (fun c3 k11 h => ?_)
          replace k11 := getI_el k11
          refine chk_el h (fun k12 h => ?_)
          refine bind_el h (fun c4 k13 h => ?_)
          replace k13 := getI_el k13
          refine awp_regionD Try_mixed (orcs := [(3, tB true), (6, tV (.agg [pI c3.x, pI c3.y])), (12, tV (.agg [pI c4.x, pI c4.y]))]) (gs := [.keep [3, 48] [5001]]) (s' := ⟨[(3, .own 5001 0 out_2.length 2), (48, pB ((c3.x == c4.x) && ((c3.y == c4.y) && true)))], [(5001, .row 37 (out_2.flatMap Cell.cs))]⟩) (by kernel_rfl) (holds_of ((UU ∧ UU ∧ UU ∧ ((UU ∧ some (pB (decide ((out_2.length : Int) > (1 : Int)))) = some (pB true))) ∧ UU ∧ ((0 ≤ (0 : Int) ∧ (0 : Int) < (out_2.length : Int))) ∧ (rowHas (out_2.flatMap Cell.cs) (0 + (0 : Int).toNat * 2) [pI c3.x, pI c3.y]) ∧ UU ∧ UU ∧ UU ∧ (InR .i64 (((out_2.length : Int)) - 1 : Int)) ∧ ((0 ≤ (((out_2.length : Int)) - 1 : Int) ∧ (((out_2.length : Int)) - 1 : Int) < (out_2.length : Int))) ∧ (rowHas (out_2.flatMap Cell.cs) (0 + (((out_2.length : Int)) - 1 : Int).toNat * 2) [pI c4.x, pI c4.y]) ∧ UU ∧ UU ∧ UU) ∧ (UU ∧ UU)) (by kernel_rfl) ⟨⟨TT, TT, TT, ⟨TT, by rw [k10]⟩, TT, k11.2, row_has Cell.cs_len k11.1 (o := 0) (m := 2) (by omega) (by decide), TT, TT, TT, k12, k13.2, row_has Cell.cs_len k13.1 (o := 0) (m := 2) (by omega) (by decide), TT, TT, TT⟩, ⟨TT, TT⟩⟩) ?_
          refine Done.mk ?_
          obtain rfl := Option.some.inj h
          exact ⟨rfl, by kernel_rfl⟩
        · refine awp_regionD Try_mixed (orcs := [(3, tB false)]) (gs := [.keep [3, 48] [5001]]) (s' := ⟨[(3, .own 5001 0 out_2.length 2), (48, pB false)], [(5001, .row 37 (out_2.flatMap Cell.cs))]⟩) (by kernel_rfl) (holds_of ((UU ∧ UU ∧ UU ∧ ((UU ∧ some (pB (decide ((out_2.length : Int) > (1 : Int)))) = some (pB false))) ∧ UU ∧ UU) ∧ (UU ∧ UU)) (by kernel_rfl) ⟨⟨TT, TT, TT, ⟨TT, by rw [k10]⟩, TT, TT⟩, ⟨TT, TT⟩⟩) ?_
          refine Done.mk ?_
          obtain rfl := Option.some.inj h
          exact ⟨rfl, by kernel_rfl⟩
      · have _ := hm
        refine Done.as (e := Exit.normal) (s := ⟨[(3, .own 5001 0 out_2.length 2), (48, pB t48)], [(5001, .row 37 (out_2.flatMap Cell.cs))]⟩) rfl (by kernel_rfl) ?_
        refine Done.mk (thenQ_n ?_)
        refine ifB_el h (fun k14 h => ?_) (fun k14 h => ?_)
        · refine awp_cond_t (b := t48) (by kernel_rfl) k14 ?_
          refine chk_el h (fun k15 h => ?_)
          refine chk_el h (fun k16 h => ?_)
          refine awp_regionD Try_mixed (orcs := [(4, tV (.own 5001 0 (out_2.take (((out_2.length : Int)) - 1 : Int).toNat).length 2))]) (gs := [.cut 5001 ((((out_2.length : Int)) - 1 : Int).toNat * 2), .castB 5001 (.row 37 ((out_2.take (((out_2.length : Int)) - 1 : Int).toNat).flatMap Cell.cs)), .keep [3] [5001]]) (s' := ⟨[(3, .own 5001 0 (out_2.take (((out_2.length : Int)) - 1 : Int).toNat).length 2)], [(5001, .row 37 ((out_2.take (((out_2.length : Int)) - 1 : Int).toNat).flatMap Cell.cs))]⟩) (by kernel_rfl) (holds_of ((UU ∧ UU ∧ UU ∧ (InR .i64 (((out_2.length : Int)) - 1 : Int)) ∧ (((0 ≤ (((out_2.length : Int)) - 1 : Int) ∧ (((out_2.length : Int)) - 1 : Int) ≤ (out_2.length : Int)) ∧ some (AV.own 5001 0 (((out_2.length : Int)) - 1 : Int).toNat 2) = some (AV.own 5001 0 (out_2.take (((out_2.length : Int)) - 1 : Int).toNat).length 2))) ∧ UU ∧ UU) ∧ (UU ∧ (some (ABlk.row 37 ((out_2.flatMap Cell.cs).take ((((out_2.length : Int)) - 1 : Int).toNat * 2))) = some (ABlk.row 37 ((out_2.take (((out_2.length : Int)) - 1 : Int).toNat).flatMap Cell.cs))) ∧ UU ∧ UU)) (by kernel_rfl) ⟨⟨TT, TT, TT, k15, ⟨k16, take_len k16⟩, TT, TT⟩, ⟨TT, (take_rowB Cell.cs_len _ _ _), TT, TT⟩⟩) ?_
          refine Done.mk ?_
          obtain rfl := Option.some.inj h
          exact ⟨rfl, by kernel_rfl⟩
        · refine awp_cond_f (b := t48) (by kernel_rfl) k14 ?_
          refine doneSkip ?_
          refine Done.gh [.keep [3] [5001], .keep [3] [5001]] (s' := ⟨[(3, .own 5001 0 out_2.length 2)], [(5001, .row 37 (out_2.flatMap Cell.cs))]⟩) (by kernel_rfl) (holds_of (UU ∧ UU ∧ UU) (by kernel_rfl) ⟨TT, TT, TT⟩) ?_
          refine Done.mk ?_
          obtain rfl := Option.some.inj h
          exact ⟨rfl, by kernel_rfl⟩
    · have _ := hm
      refine Done.as (e := Exit.normal) (s := ⟨[(3, .own 5001 0 out_3.length 2)], [(5001, .row 37 (out_3.flatMap Cell.cs))]⟩) rfl (by kernel_rfl) ?_
      refine Done.mk (thenQ_n ?_)
      refine awp_seq ?_
      refine awp_regionD Try_mixed (orcs := []) (gs := [.keep [2] [5001]]) (s' := ⟨[(2, .own 5001 0 out_3.length 2)], [(5001, .row 37 (out_3.flatMap Cell.cs))]⟩) (by kernel_rfl) (holds_of ((UU ∧ UU ∧ UU) ∧ (UU ∧ UU)) (by kernel_rfl) ⟨⟨TT, TT, TT⟩, ⟨TT, TT⟩⟩) ?_
      refine Done.mk (thenQ_n ?_)
      refine doneRet ?_
      refine Done.gh [.frz 5001, .keep [2] []] (s' := ⟨[(2, .p (encL Cell.cs out_3))], []⟩) (by kernel_rfl) (holds_of (UU ∧ UU ∧ UU) (by kernel_rfl) ⟨TT, TT, TT⟩) ?_
      refine Done.mk ?_
      obtain rfl := Option.some.inj h
      exact ⟨Or.inr rfl, by kernel_rfl, by kernel_rfl⟩
end
end Go.AM
end
section
namespace Go.AM
open Go Go.RowKit Go.Proofs
noncomputable section
def R24_loop_l1 (p_1 : Pt) (v : Pt) (s : (List Cell) × Int × Int × Int × Int) : Option (((List Cell) × Int × Int × Int × Int) ⊕ ((List Cell) × Int × Int)) :=
  match s with
  | (t3, t5X, t5Y, t10X, t10Y) =>
    ifB (!((t5X == p_1.x) && ((t5Y == p_1.y) && true)))
    ((R24_left (Pt.mk t5X t5Y) v).bind fun v2 =>
      chk (t3.length + ([v2]).length ≤ 1099511627776)
      (chk (InR .i64 (t5X + v.x : Int))
      (chk (InR .i64 (t5Y + v.y : Int))
      (some (.inl (t3 ++ ([v2]), t5X + v.x, t5Y + v.y, v2.x, v2.y))))))
    (some (.inr (t3, t10X, t10Y)))
def R24_loop_j2 (t0 : (List Pt)) (t4 : Int) (t33 : (List Cell)) : Option ((List Cell)) :=
    (getI t0 t4).bind fun p_ =>
    chk (InR .i64 (t4 + 1 : Int))
    (chk ((t0.length : Int) ≠ 0)
    ((getI t0 ((t4 + 1 : Int).tmod (t0.length : Int) : Int)).bind fun p_1 =>
    chk (InR .i64 (t4 + 2 : Int))
    ((getI t0 ((t4 + 2 : Int).tmod (t0.length : Int) : Int)).bind fun p_2 =>
    (R24_way p_ p_1).bind fun v =>
    (R24_way p_1 p_2).bind fun v1 =>
    (loopP (R24_loop_l1 p_1 v) (t33, p_.x, p_.y, 0, 0)).bind fun (t31, t10X1, t10Y1) =>
    chk (InR .i64 (v.x * v1.y : Int))
    (chk (InR .i64 (v.y * v1.x : Int))
    (chk (InR .i64 ((v.x * v1.y) - (v.y * v1.x) : Int))
    (ifB (decide (((v.x * v1.y) - (v.y * v1.x) : Int) < (0 : Int)))
    (chk (InR .i64 (t10X1 + v.x : Int))
      (chk (InR .i64 (t10Y1 + v.y : Int))
      (chk (t31.length + ([Cell.mk (t10X1 + v.x) (t10Y1 + v.y)]).length ≤ 1099511627776)
      (some (t31 ++ ([Cell.mk (t10X1 + v.x) (t10Y1 + v.y)]))))))
    (some t31)))))))
def R24_loop_l3 (t0 : (List Pt)) (s : (List Cell) × Int) : Option (((List Cell) × Int) ⊕ ((List Cell))) :=
  match s with
  | (t33, t4) =>
    ifB (decide (t4 < (t0.length : Int)))
    ((R24_loop_j2 t0 t4 t33).bind fun t32 =>
      chk (InR .i64 (t4 + 1 : Int))
      (some (.inl (t32, t4 + 1))))
    (some (.inr t33))
noncomputable def R24_loop (t0 : (List Pt)) : Option (List Cell) :=
  (loopP (R24_loop_l3 t0) (([] : List Cell), 0)).bind fun t34 =>
  some t34
set_option maxRecDepth 100000 in
set_option maxHeartbeats 4000000 in
theorem R24_loop_ok {t0 : (List Pt)} {r : (List Cell)} (h : R24_loop t0 = some r) : ASpec Try.prog 21 [.p (encL Pt.cs t0)] [] (.p (encL Cell.cs r)) [] := by
  refine aspec_of Try.func21 (c := _) rfl (by kernel_rfl) (by rw [Try.ntmps21]; exact Nat.le_of_ble_eq_true rfl) ?_
  refine awp_seq ?_
  refine awp_regionD Try_mixed (orcs := []) (gs := [.keep [0] []]) (s' := ⟨[(0, .p (encL Pt.cs t0))], []⟩) (by kernel_rfl) (holds_of ((UU ∧ UU) ∧ (UU ∧ UU)) (by kernel_rfl) ⟨⟨TT, TT⟩, ⟨TT, TT⟩⟩) ?_
  refine Done.mk (thenQ_n ?_)
  refine awp_seq ?_
  refine awp_regionD Try_mixed (orcs := []) (gs := [.keep [0, 3] []]) (s' := ⟨[(0, .p (encL Pt.cs t0)), (3, .nils)], []⟩) (by kernel_rfl) (holds_of ((UU ∧ UU) ∧ (UU ∧ UU)) (by kernel_rfl) ⟨⟨TT, TT⟩, ⟨TT, TT⟩⟩) ?_
  refine Done.mk (thenQ_n ?_)
  refine awp_seq ?_
  refine awp_seq ?_
  refine awp_regionD Try_mixed (orcs := []) (gs := [.keep [0, 3, 4] []]) (s' := ⟨[(0, .p (encL Pt.cs t0)), (3, .nils), (4, pI 0)], []⟩) (by kernel_rfl) (holds_of ((UU ∧ UU) ∧ (UU ∧ UU)) (by kernel_rfl) ⟨⟨TT, TT⟩, ⟨TT, TT⟩⟩) ?_
  refine Done.mk (thenQ_n ?_)
  refine awp_block ?_
  refine bind_el h (fun t34 hm h => ?_)
  refine awp_gh [.keep [0, 3, 4] [], .opn 3 5003 37 2, .keep [0, 3, 4] [5003]] (s' := ⟨[(0, .p (encL Pt.cs t0)), (3, .own 5003 0 (([] : List Cell)).length 2), (4, pI 0)], [(5003, .row 37 ((([] : List Cell)).flatMap Cell.cs))]⟩) (by kernel_rfl) (holds_of (UU ∧ UU ∧ UU ∧ UU) (by kernel_rfl) ⟨TT, TT, TT, TT⟩) ?_
  refine awp_tail (fun _ => (Exit.exit 0)) (fun o => match o with | t34 => ⟨[(3, .own 5003 0 t34.length 2)], [(5003, .row 37 (t34.flatMap Cell.cs))]⟩) hm (fun o h => ?_) ?_
  · refine awp_loop' (fun s => match s with | (t33, t4) => ⟨[(0, .p (encL Pt.cs t0)), (3, .own 5003 0 t33.length 2), (4, pI t4)], [(5003, .row 37 (t33.flatMap Cell.cs))]⟩) h (by kernel_rfl) (fun s out h => ?_)
    obtain ⟨t33, t4⟩ := s
    refine awp_seq ?_
    refine awp_seq ?_
    refine awp_regionD Try_mixed (orcs := []) (gs := [.keep [0, 3, 4, 14] [5003]]) (s' := ⟨[(0, .p (encL Pt.cs t0)), (3, .own 5003 0 t33.length 2), (4, pI t4), (14, pB (decide (t4 < (t0.length : Int))))], [(5003, .row 37 (t33.flatMap Cell.cs))]⟩) (by kernel_rfl) (holds_of ((UU ∧ UU ∧ UU ∧ UU ∧ UU) ∧ (UU ∧ UU)) (by kernel_rfl) ⟨⟨TT, TT, TT, TT, TT⟩, ⟨TT, TT⟩⟩) ?_
    refine Done.mk (thenQ_n ?_)
    refine ifB_el h (fun k1 h => ?_) (fun k1 h => ?_)
    · refine awp_cond_t (b := decide (t4 < (t0.length : Int))) (by kernel_rfl) k1 ?_
      refine doneSkip ?_
      refine Done.mk (thenQ_n ?_)
      refine awp_seq ?_
      refine bind_el h (fun t32 hm h => ?_)
      refine awp_tail (fun _ => Exit.normal) (fun o => match o with | t32 => ⟨[(0, .p (encL Pt.cs t0)), (3, .own 5005 0 t32.length 2), (4, pI t4)], [(5005, .row 37 (t32.flatMap Cell.cs))]⟩) hm (fun o h => ?_) ?_
      · refine awp_block ?_
        refine awp_seq ?_
        refine bind_el h (fun p_ k2 h => ?_)
        replace k2 := getI_el k2
        refine chk_el h (fun k3 h => ?_)
        refine chk_el h (fun k4 h => ?_)
        refine bind_el h (fun p_1 k5 h => ?_)
        replace k5 := getI_el k5
        refine chk_el h (fun k6 h => ?_)
        refine bind_el h (fun p_2 k7 h => ?_)
        replace k7 := getI_el k7
        refine awp_regionD Try_mixed (orcs := [(3, tV (.agg [pI p_.x, pI p_.y])), (11, tV (.agg [pI p_1.x, pI p_1.y])), (19, tV (.agg [pI p_2.x, pI p_2.y]))]) (gs := [.keep [0, 3, 4, 5, 6, 7] [5, 6, 7, 5003]]) (s' := ⟨[(0, .p (encL Pt.cs t0)), (3, .own 5003 0 t33.length 2), (4, pI t4), (5, .ptr 5 0), (6, .ptr 6 0), (7, .ptr 7 0)], [(5, .lit 63 [pI p_.x, pI p_.y]), (6, .lit 63 [pI p_1.x, pI p_1.y]), (7, .lit 63 [pI p_2.x, pI p_2.y]), (5003, .row 37 (t33.flatMap Cell.cs))]⟩) (by kernel_rfl) (holds_of ((UU ∧ UU ∧ ((0 ≤ t4 ∧ t4 < (t0.length : Int))) ∧ (rowHas (t0.flatMap Pt.cs) (t4.toNat * 2) [pI p_.x, pI p_.y]) ∧ UU ∧ UU ∧ (InR .i64 (t4 + 1 : Int)) ∧ UU ∧ UU ∧ ((t0.length : Int) ≠ 0) ∧ ((0 ≤ ((t4 + 1 : Int).tmod (t0.length : Int) : Int) ∧ ((t4 + 1 : Int).tmod (t0.length : Int) : Int) < (t0.length : Int))) ∧ (rowHas (t0.flatMap Pt.cs) (((t4 + 1 : Int).tmod (t0.length : Int) : Int).toNat * 2) [pI p_1.x, pI p_1.y]) ∧ UU ∧ UU ∧ (InR .i64 (t4 + 2 : Int)) ∧ UU ∧ UU ∧ ((t0.length : Int) ≠ 0) ∧ ((0 ≤ ((t4 + 2 : Int).tmod (t0.length : Int) : Int) ∧ ((t4 + 2 : Int).tmod (t0.length : Int) : Int) < (t0.length : Int))) ∧ (rowHas (t0.flatMap Pt.cs) (((t4 + 2 : Int).tmod (t0.length : Int) : Int).toNat * 2) [pI p_2.x, pI p_2.y]) ∧ UU ∧ UU ∧ UU ∧ UU ∧ UU ∧ UU ∧ UU) ∧ (UU ∧ UU)) (by kernel_rfl) ⟨⟨TT, TT, k2.2, row_has Pt.cs_len k2.1 (o := 0) (m := 2) (by omega) (by decide), TT, TT, k3, TT, TT, k4, k5.2, row_has Pt.cs_len k5.1 (o := 0) (m := 2) (by omega) (by decide), TT, TT, k6, TT, TT, k4, k7.2, row_has Pt.cs_len k7.1 (o := 0) (m := 2) (by omega) (by decide), TT, TT, TT, TT, TT, TT, TT⟩, ⟨TT, TT⟩⟩) ?_
        refine Done.mk (thenQ_n ?_)
        refine awp_seq ?_
        refine bind_el h (fun v k8 h => ?_)
        refine bind_el h (fun v1 k9 h => ?_)
        refine awp_regionD Try_mixed (orcs := [(2, tV (.agg [pI v.x, pI v.y])), (5, tV (.agg [pI v1.x, pI v1.y]))]) (gs := [.keep [0, 3, 4, 5, 6, 8, 9] [5, 6, 8, 9, 5003]]) (s' := ⟨[(0, .p (encL Pt.cs t0)), (3, .own 5003 0 t33.length 2), (4, pI t4), (5, .ptr 5 0), (6, .ptr 6 0), (8, .ptr 8 0), (9, .ptr 9 0)], [(5, .lit 63 [pI p_.x, pI p_.y]), (6, .lit 63 [pI p_1.x, pI p_1.y]), (8, .lit 63 [pI v.x, pI v.y]), (9, .lit 63 [pI v1.x, pI v1.y]), (5003, .row 37 (t33.flatMap Cell.cs))]⟩) (by kernel_rfl) (holds_of ((UU ∧ UU ∧ (ASpec Try.prog 41 [.agg [pI p_.x, pI p_.y], .agg [pI p_1.x, pI p_1.y]] [] (.agg [pI v.x, pI v.y]) []) ∧ UU ∧ UU ∧ (ASpec Try.prog 41 [.agg [pI p_1.x, pI p_1.y], .agg [pI p_2.x, pI p_2.y]] [] (.agg [pI v1.x, pI v1.y]) []) ∧ UU ∧ UU ∧ UU ∧ UU ∧ UU) ∧ (UU ∧ UU)) (by kernel_rfl) ⟨⟨TT, TT, R24_way_ok k8, TT, TT, R24_way_ok k9, TT, TT, TT, TT, TT⟩, ⟨TT, TT⟩⟩) ?_
        refine Done.mk (thenQ_n ?_)
        refine awp_seq ?_
        refine awp_regionD Try_mixed (orcs := []) (gs := [.keep [0, 3, 4, 5, 6, 8, 9, 10] [5, 6, 8, 9, 10, 5003]]) (s' := ⟨[(0, .p (encL Pt.cs t0)), (3, .own 5003 0 t33.length 2), (4, pI t4), (5, .ptr 5 0), (6, .ptr 6 0), (8, .ptr 8 0), (9, .ptr 9 0), (10, .ptr 10 0)], [(5, .lit 63 [pI p_.x, pI p_.y]), (6, .lit 63 [pI p_1.x, pI p_1.y]), (8, .lit 63 [pI v.x, pI v.y]), (9, .lit 63 [pI v1.x, pI v1.y]), (10, .lit 37 [pI 0, pI 0]), (5003, .row 37 (t33.flatMap Cell.cs))]⟩) (by kernel_rfl) (holds_of ((UU ∧ UU) ∧ (UU ∧ UU)) (by kernel_rfl) ⟨⟨TT, TT⟩, ⟨TT, TT⟩⟩) ?_
        refine Done.mk (thenQ_n ?_)
        refine awp_seq ?_
        refine awp_block ?_
        refine bind_el h (fun o hm h => ?_)
        refine awp_gh [.keep [0, 3, 4, 5, 6, 8, 9, 10] [5, 6, 8, 9, 10, 5003], .ren 5003 5004, .keep [0, 3, 4, 5, 6, 8, 9, 10] [5, 6, 8, 9, 10, 5004]] (s' := ⟨[(0, .p (encL Pt.cs t0)), (3, .own 5004 0 t33.length 2), (4, pI t4), (5, .ptr 5 0), (6, .ptr 6 0), (8, .ptr 8 0), (9, .ptr 9 0), (10, .ptr 10 0)], [(5, .lit 63 [pI p_.x, pI p_.y]), (6, .lit 63 [pI p_1.x, pI p_1.y]), (8, .lit 63 [pI v.x, pI v.y]), (9, .lit 63 [pI v1.x, pI v1.y]), (10, .lit 37 [pI 0, pI 0]), (5004, .row 37 (t33.flatMap Cell.cs))]⟩) (by kernel_rfl) (holds_of (UU ∧ UU ∧ UU ∧ UU) (by kernel_rfl) ⟨TT, TT, TT, TT⟩) ?_
        refine awp_tail (fun _ => (Exit.exit 2)) (fun o => match o with | (t31, t10X1, t10Y1) => ⟨[(0, .p (encL Pt.cs t0)), (3, .own 5004 0 t31.length 2), (4, pI t4), (8, .ptr 8 0), (9, .ptr 9 0), (10, .ptr 10 0)], [(8, .lit 63 [pI v.x, pI v.y]), (9, .lit 63 [pI v1.x, pI v1.y]), (10, .lit 37 [pI t10X1, pI t10Y1]), (5004, .row 37 (t31.flatMap Cell.cs))]⟩) hm (fun o h => ?_) ?_
        · refine awp_loop' (fun s => match s with | (t3, t5X, t5Y, t10X, t10Y) => ⟨[(0, .p (encL Pt.cs t0)), (3, .own 5004 0 t3.length 2), (4, pI t4), (5, .ptr 5 0), (6, .ptr 6 0), (8, .ptr 8 0), (9, .ptr 9 0), (10, .ptr 10 0)], [(5, .lit 63 [pI t5X, pI t5Y]), (6, .lit 63 [pI p_1.x, pI p_1.y]), (8, .lit 63 [pI v.x, pI v.y]), (9, .lit 63 [pI v1.x, pI v1.y]), (10, .lit 37 [pI t10X, pI t10Y]), (5004, .row 37 (t3.flatMap Cell.cs))]⟩) h (by kernel_rfl) (fun s out h => ?_)
          obtain ⟨t3, t5X, t5Y, t10X, t10Y⟩ := s
          refine awp_seq ?_
          refine awp_seq ?_
          refine awp_regionD Try_mixed (orcs := []) (gs := [.keep [0, 3, 4, 5, 6, 8, 9, 10, 45] [5, 6, 8, 9, 10, 5004]]) (s' := ⟨[(0, .p (encL Pt.cs t0)), (3, .own 5004 0 t3.length 2), (4, pI t4), (5, .ptr 5 0), (6, .ptr 6 0), (8, .ptr 8 0), (9, .ptr 9 0), (10, .ptr 10 0), (45, pB (!((t5X == p_1.x) && ((t5Y == p_1.y) && true))))], [(5, .lit 63 [pI t5X, pI t5Y]), (6, .lit 63 [pI p_1.x, pI p_1.y]), (8, .lit 63 [pI v.x, pI v.y]), (9, .lit 63 [pI v1.x, pI v1.y]), (10, .lit 37 [pI t10X, pI t10Y]), (5004, .row 37 (t3.flatMap Cell.cs))]⟩) (by kernel_rfl) (holds_of ((UU ∧ UU ∧ UU ∧ UU) ∧ (UU ∧ UU)) (by kernel_rfl) ⟨⟨TT, TT, TT, TT⟩, ⟨TT, TT⟩⟩) ?_
          refine Done.mk (thenQ_n ?_)
          refine ifB_el h (fun k10 h => ?_) (fun k10 h => ?_)
          · refine awp_cond_t (b := !((t5X == p_1.x) && ((t5Y == p_1.y) && true))) (by kernel_rfl) k10 ?_
            refine doneSkip ?_
            refine Done.mk (thenQ_n ?_)
            refine awp_block ?_
            refine awp_seq ?_
            refine bind_el h (fun v2 k11 h => ?_)
            refine awp_regionD Try_mixed (orcs := [(2, tV (.agg [pI v2.x, pI v2.y]))]) (gs := [.keep [0, 3, 4, 5, 6, 8, 9, 10] [5, 6, 8, 9, 10, 5004]]) (s' := ⟨[(0, .p (encL Pt.cs t0)), (3, .own 5004 0 t3.length 2), (4, pI t4), (5, .ptr 5 0), (6, .ptr 6 0), (8, .ptr 8 0), (9, .ptr 9 0), (10, .ptr 10 0)], [(5, .lit 63 [pI t5X, pI t5Y]), (6, .lit 63 [pI p_1.x, pI p_1.y]), (8, .lit 63 [pI v.x, pI v.y]), (9, .lit 63 [pI v1.x, pI v1.y]), (10, .lit 37 [pI v2.x, pI v2.y]), (5004, .row 37 (t3.flatMap Cell.cs))]⟩) (by kernel_rfl) (holds_of ((UU ∧ UU ∧ (ASpec Try.prog 42 [.agg [pI t5X, pI t5Y], .agg [pI v.x, pI v.y]] [] (.agg [pI v2.x, pI v2.y]) []) ∧ UU ∧ UU) ∧ (UU ∧ UU)) (by kernel_rfl) ⟨⟨TT, TT, R24_left_ok k11, TT, TT⟩, ⟨TT, TT⟩⟩) ?_
            refine Done.mk (thenQ_n ?_)
            refine awp_seq ?_
            refine chk_el h (fun k12 h => ?_)
            refine awp_regionD Try_mixed (orcs := [(3, tV (.own 52 0 (t3 ++ ([v2])).length 2))]) (gs := [.castB 52 (.row 37 ((t3 ++ ([v2])).flatMap Cell.cs)), .keep [0, 3, 4, 5, 6, 8, 9, 10] [5, 6, 8, 9, 10, 52]]) (s' := ⟨[(0, .p (encL Pt.cs t0)), (3, .own 52 0 (t3 ++ ([v2])).length 2), (4, pI t4), (5, .ptr 5 0), (6, .ptr 6 0), (8, .ptr 8 0), (9, .ptr 9 0), (10, .ptr 10 0)], [(5, .lit 63 [pI t5X, pI t5Y]), (6, .lit 63 [pI p_1.x, pI p_1.y]), (8, .lit 63 [pI v.x, pI v.y]), (9, .lit 63 [pI v1.x, pI v1.y]), (10, .lit 37 [pI v2.x, pI v2.y]), (52, .row 37 ((t3 ++ ([v2])).flatMap Cell.cs))]⟩) (by kernel_rfl) (holds_of ((UU ∧ UU ∧ UU ∧ ((((t3.flatMap Cell.cs).length = t3.length * 2 ∧ (([v2]).flatMap Cell.cs).length = ([v2]).length * 2 ∧ (t3.length + ([v2]).length) * 16 ≤ 140737488355328 ∧ t3.length + ([v2]).length ≤ 9223372036854775807) ∧ some (AV.own 52 0 (t3.length + ([v2]).length) 2) = some (AV.own 52 0 (t3 ++ ([v2])).length 2))) ∧ UU ∧ UU) ∧ ((some (ABlk.row 37 (t3.flatMap Cell.cs ++ ([v2]).flatMap Cell.cs)) = some (ABlk.row 37 ((t3 ++ ([v2])).flatMap Cell.cs))) ∧ UU ∧ UU)) (by kernel_rfl) ⟨⟨TT, TT, TT, ⟨⟨flat_len Cell.cs_len _, flat_len Cell.cs_len _, by omega, by omega⟩, app_len _ _ _ _⟩, TT, TT⟩, ⟨(app_row Cell.cs _ _ _), TT, TT⟩⟩) ?_
            refine Done.mk (thenQ_n ?_)
            refine chk_el h (fun k13 h => ?_)
            refine chk_el h (fun k14 h => ?_)
            refine awp_regionD Try_mixed (orcs := []) (gs := [.keep [0, 3, 4, 5, 6, 8, 9, 10] [5, 6, 8, 9, 10, 52]]) (s' := ⟨[(0, .p (encL Pt.cs t0)), (3, .own 52 0 (t3 ++ ([v2])).length 2), (4, pI t4), (5, .ptr 5 0), (6, .ptr 6 0), (8, .ptr 8 0), (9, .ptr 9 0), (10, .ptr 10 0)], [(5, .lit 63 [pI (t5X + v.x), pI (t5Y + v.y)]), (6, .lit 63 [pI p_1.x, pI p_1.y]), (8, .lit 63 [pI v.x, pI v.y]), (9, .lit 63 [pI v1.x, pI v1.y]), (10, .lit 37 [pI v2.x, pI v2.y]), (52, .row 37 ((t3 ++ ([v2])).flatMap Cell.cs))]⟩) (by kernel_rfl) (holds_of ((UU ∧ UU ∧ UU ∧ UU ∧ (InR .i64 (t5X + v.x : Int)) ∧ UU ∧ UU ∧ UU ∧ UU ∧ (InR .i64 (t5Y + v.y : Int)) ∧ UU ∧ UU ∧ UU) ∧ (UU ∧ UU)) (by kernel_rfl) ⟨⟨TT, TT, TT, TT, k13, TT, TT, TT, TT, k14, TT, TT, TT⟩, ⟨TT, TT⟩⟩) ?_
            refine Done.gh [.keep [0, 3, 4, 5, 6, 8, 9, 10] [5, 6, 8, 9, 10, 52], .ren 52 5004, .keep [0, 3, 4, 5, 6, 8, 9, 10] [5, 6, 8, 9, 10, 5004]] (s' := ⟨[(0, .p (encL Pt.cs t0)), (3, .own 5004 0 (t3 ++ ([v2])).length 2), (4, pI t4), (5, .ptr 5 0), (6, .ptr 6 0), (8, .ptr 8 0), (9, .ptr 9 0), (10, .ptr 10 0)], [(5, .lit 63 [pI (t5X + v.x), pI (t5Y + v.y)]), (6, .lit 63 [pI p_1.x, pI p_1.y]), (8, .lit 63 [pI v.x, pI v.y]), (9, .lit 63 [pI v1.x, pI v1.y]), (10, .lit 37 [pI v2.x, pI v2.y]), (5004, .row 37 ((t3 ++ ([v2])).flatMap Cell.cs))]⟩) (by kernel_rfl) (holds_of (UU ∧ UU ∧ UU ∧ UU) (by kernel_rfl) ⟨TT, TT, TT, TT⟩) ?_
            refine Done.mk (inB_n ?_)
            obtain rfl := Option.some.inj h
            exact ⟨rfl, by kernel_rfl⟩
          · refine awp_cond_f (b := !((t5X == p_1.x) && ((t5Y == p_1.y) && true))) (by kernel_rfl) k10 ?_
            refine doneExit ?_
            refine Done.gh [.keep [0, 3, 4, 8, 9, 10] [8, 9, 10, 5004], .keep [0, 3, 4, 8, 9, 10] [8, 9, 10, 5004]] (s' := ⟨[(0, .p (encL Pt.cs t0)), (3, .own 5004 0 t3.length 2), (4, pI t4), (8, .ptr 8 0), (9, .ptr 9 0), (10, .ptr 10 0)], [(8, .lit 63 [pI v.x, pI v.y]), (9, .lit 63 [pI v1.x, pI v1.y]), (10, .lit 37 [pI t10X, pI t10Y]), (5004, .row 37 (t3.flatMap Cell.cs))]⟩) (by kernel_rfl) (holds_of (UU ∧ UU ∧ UU) (by kernel_rfl) ⟨TT, TT, TT⟩) ?_
            refine Done.mk (thenQ_x ?_)
            obtain rfl := Option.some.inj h
            exact ⟨fun q => (by cases q), fun q => (by subst q; exact ⟨rfl, by kernel_rfl⟩)⟩
        · obtain ⟨t31, t10X1, t10Y1⟩ := o
          refine Done.as (e := (Exit.exit 2)) (s := ⟨[(0, .p (encL Pt.cs t0)), (3, .own 5004 0 t31.length 2), (4, pI t4), (8, .ptr 8 0), (9, .ptr 9 0), (10, .ptr 10 0)], [(8, .lit 63 [pI v.x, pI v.y]), (9, .lit 63 [pI v1.x, pI v1.y]), (10, .lit 37 [pI t10X1, pI t10Y1]), (5004, .row 37 (t31.flatMap Cell.cs))]⟩) rfl (by kernel_rfl) ?_
          refine Done.mk (inB_hit (thenQ_n ?_))
          refine awp_seq ?_
          refine chk_el h (fun k15 h => ?_)
          refine chk_el h (fun k16 h => ?_)
          refine chk_el h (fun k17 h => ?_)
          refine awp_regionD Try_mixed (orcs := []) (gs := [.keep [0, 3, 4, 8, 10, 75] [8, 10, 5004]]) (s' := ⟨[(0, .p (encL Pt.cs t0)), (3, .own 5004 0 t31.length 2), (4, pI t4), (8, .ptr 8 0), (10, .ptr 10 0), (75, pB (decide (((v.x * v1.y) - (v.y * v1.x) : Int) < (0 : Int))))], [(8, .lit 63 [pI v.x, pI v.y]), (10, .lit 37 [pI t10X1, pI t10Y1]), (5004, .row 37 (t31.flatMap Cell.cs))]⟩) (by kernel_rfl) (holds_of ((UU ∧ UU ∧ UU ∧ UU ∧ (InR .i64 (v.x * v1.y : Int)) ∧ UU ∧ UU ∧ UU ∧ UU ∧ (InR .i64 (v.y * v1.x : Int)) ∧ (InR .i64 ((v.x * v1.y) - (v.y * v1.x) : Int)) ∧ UU ∧ UU) ∧ (UU ∧ UU)) (by kernel_rfl) ⟨⟨TT, TT, TT, TT, k15, TT, TT, TT, TT, k16, k17, TT, TT⟩, ⟨TT, TT⟩⟩) ?_
          refine Done.mk (thenQ_n ?_)
          refine ifB_el h (fun k18 h => ?_) (fun k18 h => ?_)
          · refine awp_cond_t (b := decide (((v.x * v1.y) - (v.y * v1.x) : Int) < (0 : Int))) (by kernel_rfl) k18 ?_
            refine chk_el h (fun k19 h => ?_)
            refine chk_el h (fun k20 h => ?_)
            refine chk_el h (fun k21 h => ?_)
            refine awp_regionD Try_mixed (orcs := [(13, tV (.own 89 0 (t31 ++ ([Cell.mk (t10X1 + v.x) (t10Y1 + v.y)])).length 2))]) (gs := [.castB 89 (.row 37 ((t31 ++ ([Cell.mk (t10X1 + v.x) (t10Y1 + v.y)])).flatMap Cell.cs)), .keep [0, 3, 4] [89]]) (s' := ⟨[(0, .p (encL Pt.cs t0)), (3, .own 89 0 (t31 ++ ([Cell.mk (t10X1 + v.x) (t10Y1 + v.y)])).length 2), (4, pI t4)], [(89, .row 37 ((t31 ++ ([Cell.mk (t10X1 + v.x) (t10Y1 + v.y)])).flatMap Cell.cs))]⟩) (by kernel_rfl) (holds_of ((UU ∧ UU ∧ UU ∧ UU ∧ UU ∧ (InR .i64 (t10X1 + v.x : Int)) ∧ UU ∧ UU ∧ UU ∧ UU ∧ (InR .i64 (t10Y1 + v.y : Int)) ∧ UU ∧ UU ∧ ((((t31.flatMap Cell.cs).length = t31.length * 2 ∧ (([Cell.mk (t10X1 + v.x) (t10Y1 + v.y)]).flatMap Cell.cs).length = ([Cell.mk (t10X1 + v.x) (t10Y1 + v.y)]).length * 2 ∧ (t31.length + ([Cell.mk (t10X1 + v.x) (t10Y1 + v.y)]).length) * 16 ≤ 140737488355328 ∧ t31.length + ([Cell.mk (t10X1 + v.x) (t10Y1 + v.y)]).length ≤ 9223372036854775807) ∧ some (AV.own 89 0 (t31.length + ([Cell.mk (t10X1 + v.x) (t10Y1 + v.y)]).length) 2) = some (AV.own 89 0 (t31 ++ ([Cell.mk (t10X1 + v.x) (t10Y1 + v.y)])).length 2))) ∧ UU ∧ UU) ∧ ((some (ABlk.row 37 (t31.flatMap Cell.cs ++ ([Cell.mk (t10X1 + v.x) (t10Y1 + v.y)]).flatMap Cell.cs)) = some (ABlk.row 37 ((t31 ++ ([Cell.mk (t10X1 + v.x) (t10Y1 + v.y)])).flatMap Cell.cs))) ∧ UU ∧ UU)) (by kernel_rfl) ⟨⟨TT, TT, TT, TT, TT, k19, TT, TT, TT, TT, k20, TT, TT, ⟨⟨flat_len Cell.cs_len _, flat_len Cell.cs_len _, by omega, by omega⟩, app_len _ _ _ _⟩, TT, TT⟩, ⟨(app_row Cell.cs _ _ _), TT, TT⟩⟩) ?_
            refine Done.gh [.keep [0, 3, 4] [89], .ren 89 5005, .keep [0, 3, 4] [5005]] (s' := ⟨[(0, .p (encL Pt.cs t0)), (3, .own 5005 0 (t31 ++ ([Cell.mk (t10X1 + v.x) (t10Y1 + v.y)])).length 2), (4, pI t4)], [(5005, .row 37 ((t31 ++ ([Cell.mk (t10X1 + v.x) (t10Y1 + v.y)])).flatMap Cell.cs))]⟩) (by kernel_rfl) (holds_of (UU ∧ UU ∧ UU ∧ UU) (by kernel_rfl) ⟨TT, TT, TT, TT⟩) ?_
            refine Done.mk (inB_n ?_)
            obtain rfl := Option.some.inj h
            exact ⟨rfl, by kernel_rfl⟩
          · refine awp_cond_f (b := decide (((v.x * v1.y) - (v.y * v1.x) : Int) < (0 : Int))) (by kernel_rfl) k18 ?_
            refine doneSkip ?_
            refine Done.gh [.keep [0, 3, 4] [5004], .ren 5004 5005, .keep [0, 3, 4] [5005]] (s' := ⟨[(0, .p (encL Pt.cs t0)), (3, .own 5005 0 t31.length 2), (4, pI t4)], [(5005, .row 37 (t31.flatMap Cell.cs))]⟩) (by kernel_rfl) (holds_of (UU ∧ UU ∧ UU ∧ UU) (by kernel_rfl) ⟨TT, TT, TT, TT⟩) ?_
            refine Done.mk (inB_n ?_)
            obtain rfl := Option.some.inj h
            exact ⟨rfl, by kernel_rfl⟩
      · have _ := hm
        refine Done.as (e := Exit.normal) (s := ⟨[(0, .p (encL Pt.cs t0)), (3, .own 5005 0 t32.length 2), (4, pI t4)], [(5005, .row 37 (t32.flatMap Cell.cs))]⟩) rfl (by kernel_rfl) ?_
        refine Done.mk (thenQ_n ?_)
        refine chk_el h (fun k22 h => ?_)
        refine awp_regionD Try_mixed (orcs := []) (gs := [.keep [0, 3, 4] [5005]]) (s' := ⟨[(0, .p (encL Pt.cs t0)), (3, .own 5005 0 t32.length 2), (4, pI (t4 + 1))], [(5005, .row 37 (t32.flatMap Cell.cs))]⟩) (by kernel_rfl) (holds_of ((UU ∧ (InR .i64 (t4 + 1 : Int)) ∧ UU ∧ UU) ∧ (UU ∧ UU)) (by kernel_rfl) ⟨⟨TT, k22, TT, TT⟩, ⟨TT, TT⟩⟩) ?_
        refine Done.gh [.keep [0, 3, 4] [5005], .ren 5005 5003, .keep [0, 3, 4] [5003]] (s' := ⟨[(0, .p (encL Pt.cs t0)), (3, .own 5003 0 t32.length 2), (4, pI (t4 + 1))], [(5003, .row 37 (t32.flatMap Cell.cs))]⟩) (by kernel_rfl) (holds_of (UU ∧ UU ∧ UU ∧ UU) (by kernel_rfl) ⟨TT, TT, TT, TT⟩) ?_
        refine Done.mk ?_
        obtain rfl := Option.some.inj h
        exact ⟨rfl, by kernel_rfl⟩
    · refine awp_cond_f (b := decide (t4 < (t0.length : Int))) (by kernel_rfl) k1 ?_
      refine doneExit ?_
      refine Done.gh [.keep [3] [5003], .keep [3] [5003]] (s' := ⟨[(3, .own 5003 0 t33.length 2)], [(5003, .row 37 (t33.flatMap Cell.cs))]⟩) (by kernel_rfl) (holds_of (UU ∧ UU ∧ UU) (by kernel_rfl) ⟨TT, TT, TT⟩) ?_
      refine Done.mk (thenQ_x ?_)
      obtain rfl := Option.some.inj h
      exact ⟨fun q => (by cases q), fun q => (by subst q; exact ⟨rfl, by kernel_rfl⟩)⟩
  · have _ := hm
    refine Done.as (e := (Exit.exit 0)) (s := ⟨[(3, .own 5003 0 t34.length 2)], [(5003, .row 37 (t34.flatMap Cell.cs))]⟩) rfl (by kernel_rfl) ?_
    refine Done.mk (inB_hit (thenQ_n ?_))
    refine awp_seq ?_
    refine awp_regionD Try_mixed (orcs := []) (gs := [.keep [2] [5003]]) (s' := ⟨[(2, .own 5003 0 t34.length 2)], [(5003, .row 37 (t34.flatMap Cell.cs))]⟩) (by kernel_rfl) (holds_of ((UU ∧ UU ∧ UU) ∧ (UU ∧ UU)) (by kernel_rfl) ⟨⟨TT, TT, TT⟩, ⟨TT, TT⟩⟩) ?_
    refine Done.mk (thenQ_n ?_)
    refine doneRet ?_
    refine Done.gh [.frz 5003, .keep [2] []] (s' := ⟨[(2, .p (encL Cell.cs t34))], []⟩) (by kernel_rfl) (holds_of (UU ∧ UU ∧ UU) (by kernel_rfl) ⟨TT, TT, TT⟩) ?_
    refine Done.mk ?_
    obtain rfl := Option.some.inj h
    exact ⟨Or.inr rfl, by kernel_rfl, by kernel_rfl⟩
end
end Go.AM
end
