/- Proved: at every region the law RingwalkTracks of the package additivelaw24 returns true, without a panic, and leaves its argument as it was. Conditions: those of the given statement alone. -/
import Derived.Test.YtijdlphadhpabaaProg
import Derived.Test.YtijdlphadhpabaaA4
import Derived.Test.YtijdlphadhpabaaA8
import Derived.Test.YtijdlphadhpabaaA1
import Derived.Test.YtijdlphadhpabaaA6
import Derived.Test.YtijdlphadhpabaaA3
import Derived.Test.YtijdlphadhpabaaA7
import Derived.Test.YtijdlphadhpabaaA9
import Derived.Test.YtijdlphadhpabaaA5
import Derived.Test.YtijdlphadhpabaaA2
import Derived.Test.YtijdlphadhpabaaF1
import Derived.Test.YtijdlphadhpabaaF6
import Derived.Test.YtijdlphadhpabaaF7
import Derived.Test.YtijdlphadhpabaaF5
import Derived.Test.YtijdlphadhpabaaF8
import Derived.Test.YtijdlphadhpabaaP5
section
namespace Go.AM
open Go Go.RowKit Go.Proofs
noncomputable section
def L24_RingwalkTracks_j1 (v : (List Track)) (i : Int) : Option (Bool) :=
    (getI v i).bind fun t =>
    (track_Valid t).bind fun b2 =>
    ifB (!b2)
    (some true)
    (ifB (!t.closed)
      (some true)
      (some (t.role != (1 : Int))))
def L24_RingwalkTracks_l2 (v : (List Track)) (s : Int) : Option ((Int) ⊕ ((Unit) ⊕ (Unit))) :=
  match s with
  | i =>
    ifB (decide (i < (v.length : Int)))
    ((L24_RingwalkTracks_j1 v i).bind fun t38 =>
      ifB (t38)
      (some (.inr (.inr ())))
      (chk (InR .i64 (i + 1 : Int))
        (some (.inl (i + 1)))))
    (some (.inr (.inl ())))
def L24_RingwalkTracks_j3 (r_ : Region) (v : (List Track)) : Option (Bool) :=
    (boundary_Trace r_).bind fun v1 =>
    ifB ((v.length : Int) == (v1.length : Int))
    ((L24_awake).bind fun b3 =>
      some b3)
    (some false)
noncomputable def L24_RingwalkTracks (r_ : Region) : Option Bool :=
  (L18_Small r_).bind fun b =>
  ifB (!b)
  ((L24_awake).bind fun b1 =>
    some b1)
  ((ringwalk_Walk r_).bind fun v =>
    (loopP (L24_RingwalkTracks_l2 v) 0).bind fun o => match o with
    | .inl _ => (L24_RingwalkTracks_j3 r_ v).bind fun t2 =>
      some t2
    | .inr _ => some false)
end
end Go.AM
end
section
namespace Go.AM
open Go Go.RowKit Go.Proofs
noncomputable section
set_option maxRecDepth 100000 in
set_option maxHeartbeats 4000000 in
theorem L24_RingwalkTracks_ok {r_ : Region} {r : Bool} (h : L24_RingwalkTracks r_ = some r) : ASpec Try.prog 5 [.agg [.p (encL Row.cs r_.rows)]] [] (pB r) [] := by
  refine aspec_of Try.func5 (c := _) rfl (by kernel_rfl) (by rw [Try.ntmps5]; exact Nat.le_of_ble_eq_true rfl) ?_
  refine awp_seq ?_
  refine awp_regionD Try_mixed (orcs := []) (gs := [.keep [1] [1]]) (s' := ⟨[(1, .ptr 1 0)], [(1, .lit 24 [.p (encL Row.cs r_.rows)])]⟩) (by kernel_rfl) (holds_of ((UU ∧ UU ∧ UU) ∧ (UU ∧ UU)) (by kernel_rfl) ⟨⟨TT, TT, TT⟩, ⟨TT, TT⟩⟩) ?_
  refine Done.mk (thenQ_n ?_)
  refine awp_seq ?_
  refine awp_seq ?_
  refine bind_el h (fun b k1 h => ?_)
  refine awp_regionD Try_mixed (orcs := [(1, tV (pB b))]) (gs := [.keep [1, 7] [1]]) (s' := ⟨[(1, .ptr 1 0), (7, pB (!b))], [(1, .lit 24 [.p (encL Row.cs r_.rows)])]⟩) (by kernel_rfl) (holds_of ((UU ∧ (ASpec Try.prog 7 [.agg [.p (encL Row.cs r_.rows)]] [] (pB b) []) ∧ UU ∧ UU) ∧ (UU ∧ UU)) (by kernel_rfl) ⟨⟨TT, L18_Small_ok k1, TT, TT⟩, ⟨TT, TT⟩⟩) ?_
  refine Done.mk (thenQ_n ?_)
  refine ifB_el h (fun k2 h => ?_) (fun k2 h => ?_)
  · refine awp_cond_t (b := !b) (by kernel_rfl) k2 ?_
    refine awp_seq ?_
    refine bind_el h (fun b1 k3 h => ?_)
    refine awp_regionD Try_mixed (orcs := [(0, tV (pB b1))]) (gs := [.keep [2] []]) (s' := ⟨[(2, pB b1)], []⟩) (by kernel_rfl) (holds_of (((ASpec Try.prog 8 [] [] (pB b1) []) ∧ UU ∧ UU) ∧ (UU ∧ UU)) (by kernel_rfl) ⟨⟨L24_awake_ok k3, TT, TT⟩, ⟨TT, TT⟩⟩) ?_
    refine Done.mk (thenQ_n ?_)
    refine doneRet ?_
    refine Done.mk (thenQ_r ?_)
    obtain rfl := Option.some.inj h
    exact ⟨Or.inr rfl, by kernel_rfl, by kernel_rfl⟩
  · refine awp_cond_f (b := !b) (by kernel_rfl) k2 ?_
    refine doneSkip ?_
    refine Done.mk (thenQ_n ?_)
    refine awp_seq ?_
    refine bind_el h (fun v k4 h => ?_)
    refine awp_regionD Try_mixed (orcs := [(1, tV (.p (encL Track.cs v)))]) (gs := [.keep [1, 3] [1]]) (s' := ⟨[(1, .ptr 1 0), (3, .p (encL Track.cs v))], [(1, .lit 24 [.p (encL Row.cs r_.rows)])]⟩) (by kernel_rfl) (holds_of ((UU ∧ (ASpec Try.prog 10 [.agg [.p (encL Row.cs r_.rows)]] [] (.p (encL Track.cs v)) []) ∧ UU ∧ UU) ∧ (UU ∧ UU)) (by kernel_rfl) ⟨⟨TT, ringwalk_Walk_ok k4, TT, TT⟩, ⟨TT, TT⟩⟩) ?_
    refine Done.mk (thenQ_n ?_)
    refine awp_seq ?_
    refine awp_seq ?_
    refine awp_regionD Try_mixed (orcs := []) (gs := [.keep [1, 3, 4] [1]]) (s' := ⟨[(1, .ptr 1 0), (3, .p (encL Track.cs v)), (4, pI 0)], [(1, .lit 24 [.p (encL Row.cs r_.rows)])]⟩) (by kernel_rfl) (holds_of ((UU ∧ UU) ∧ (UU ∧ UU)) (by kernel_rfl) ⟨⟨TT, TT⟩, ⟨TT, TT⟩⟩) ?_
    refine Done.mk (thenQ_n ?_)
    refine awp_block ?_
    refine bind_el h (fun o hm h => ?_)
    refine awp_gh [.keep [1, 3, 4] [1], .keep [1, 3, 4] [1]] (s' := ⟨[(1, .ptr 1 0), (3, .p (encL Track.cs v)), (4, pI 0)], [(1, .lit 24 [.p (encL Row.cs r_.rows)])]⟩) (by kernel_rfl) (holds_of (UU ∧ UU ∧ UU) (by kernel_rfl) ⟨TT, TT, TT⟩) ?_
    refine awp_tail (fun o => match o with | .inl _ => (Exit.exit 0) | .inr _ => Exit.ret) (fun o => match o with | .inl _ => ⟨[(1, .ptr 1 0), (3, .p (encL Track.cs v))], [(1, .lit 24 [.p (encL Row.cs r_.rows)])]⟩ | .inr _ => ⟨[(2, pB false)], []⟩) hm (fun o h => ?_) ?_
    · refine awp_loop' (fun s => match s with | i => ⟨[(1, .ptr 1 0), (3, .p (encL Track.cs v)), (4, pI i)], [(1, .lit 24 [.p (encL Row.cs r_.rows)])]⟩) h (by kernel_rfl) (fun i out h => ?_)
      refine awp_seq ?_
      refine awp_seq ?_
      refine awp_regionD Try_mixed (orcs := []) (gs := [.keep [1, 3, 4, 14] [1]]) (s' := ⟨[(1, .ptr 1 0), (3, .p (encL Track.cs v)), (4, pI i), (14, pB (decide (i < (v.length : Int))))], [(1, .lit 24 [.p (encL Row.cs r_.rows)])]⟩) (by kernel_rfl) (holds_of ((UU ∧ UU ∧ UU ∧ UU ∧ UU) ∧ (UU ∧ UU)) (by kernel_rfl) ⟨⟨TT, TT, TT, TT, TT⟩, ⟨TT, TT⟩⟩) ?_
      refine Done.mk (thenQ_n ?_)
      refine ifB_el h (fun k5 h => ?_) (fun k5 h => ?_)
      · refine awp_cond_t (b := decide (i < (v.length : Int))) (by kernel_rfl) k5 ?_
        refine doneSkip ?_
        refine Done.mk (thenQ_n ?_)
        refine awp_seq ?_
        refine awp_block ?_
        refine awp_seq ?_
        refine bind_el h (fun t38 hm h => ?_)
        refine awp_tail (fun _ => Exit.normal) (fun o => match o with | t38 => ⟨[(1, .ptr 1 0), (3, .p (encL Track.cs v)), (4, pI i), (38, pB t38)], [(1, .lit 24 [.p (encL Row.cs r_.rows)])]⟩) hm (fun o h => ?_) ?_
        · refine bind_el h (fun t k6 h => ?_)
          replace k6 := getI_el k6
          refine bind_el h (fun b2 k7 h => ?_)
          refine ifB_el h (fun k8 h => ?_) (fun k8 h => ?_)
          · refine awp_regionD Try_mixed (orcs := [(3, tV (.agg [pI t.role, pB t.closed, .p (encL Cell.cs t.cells)])), (4, tV (pB b2)), (6, tB true)]) (gs := [.keep [1, 3, 4, 38] [1]]) (s' := ⟨[(1, .ptr 1 0), (3, .p (encL Track.cs v)), (4, pI i), (38, pB true)], [(1, .lit 24 [.p (encL Row.cs r_.rows)])]⟩) (by kernel_rfl) (holds_of ((UU ∧ UU ∧ ((0 ≤ i ∧ i < (v.length : Int))) ∧ (rowHas (v.flatMap Track.cs) (i.toNat * 3) [pI t.role, pB t.closed, .p (encL Cell.cs t.cells)]) ∧ (ASpec Try.prog 13 [.agg [pI t.role, pB t.closed, .p (encL Cell.cs t.cells)]] [] (pB b2) []) ∧ UU ∧ ((UU ∧ some (pB (!b2)) = some (pB true))) ∧ UU ∧ UU ∧ UU ∧ UU) ∧ (UU ∧ UU)) (by kernel_rfl) ⟨⟨TT, TT, k6.2, row_has Track.cs_len k6.1 (o := 0) (m := 3) (by omega) (by decide), track_Valid_ok k7, TT, ⟨TT, by rw [k8]⟩, TT, TT, TT, TT⟩, ⟨TT, TT⟩⟩) ?_
            refine Done.mk ?_
            obtain rfl := Option.some.inj h
            exact ⟨rfl, by kernel_rfl⟩
          · refine ifB_el h (fun k9 h => ?_) (fun k9 h => ?_)
            · refine awp_regionD Try_mixed (orcs := [(3, tV (.agg [pI t.role, pB t.closed, .p (encL Cell.cs t.cells)])), (4, tV (pB b2)), (6, tB false), (11, tV (pB t.closed)), (14, tB true)]) (gs := [.keep [1, 3, 4, 38] [1]]) (s' := ⟨[(1, .ptr 1 0), (3, .p (encL Track.cs v)), (4, pI i), (38, pB true)], [(1, .lit 24 [.p (encL Row.cs r_.rows)])]⟩) (by kernel_rfl) (holds_of ((UU ∧ UU ∧ ((0 ≤ i ∧ i < (v.length : Int))) ∧ (rowHas (v.flatMap Track.cs) (i.toNat * 3) [pI t.role, pB t.closed, .p (encL Cell.cs t.cells)]) ∧ (ASpec Try.prog 13 [.agg [pI t.role, pB t.closed, .p (encL Cell.cs t.cells)]] [] (pB b2) []) ∧ UU ∧ ((UU ∧ some (pB (!b2)) = some (pB false))) ∧ UU ∧ UU ∧ ((0 ≤ i ∧ i < (v.length : Int))) ∧ UU ∧ ((v.flatMap Track.cs)[i.toNat * 3 + 1]? = some (.bool t.closed)) ∧ UU ∧ UU ∧ ((UU ∧ some (pB (!t.closed)) = some (pB true))) ∧ UU ∧ UU) ∧ (UU ∧ UU)) (by kernel_rfl) ⟨⟨TT, TT, k6.2, row_has Track.cs_len k6.1 (o := 0) (m := 3) (by omega) (by decide), track_Valid_ok k7, TT, ⟨TT, by rw [k8]⟩, TT, TT, k6.2, TT, row_at Track.cs_len k6.1 (j := 1) (by omega) (by decide), TT, TT, ⟨TT, by rw [k9]⟩, TT, TT⟩, ⟨TT, TT⟩⟩) ?_
              refine Done.mk ?_
              obtain rfl := Option.some.inj h
              exact ⟨rfl, by kernel_rfl⟩
            · refine awp_regionD Try_mixed (orcs := [(3, tV (.agg [pI t.role, pB t.closed, .p (encL Cell.cs t.cells)])), (4, tV (pB b2)), (6, tB false), (11, tV (pB t.closed)), (14, tB false), (19, tV (pI t.role))]) (gs := [.keep [1, 3, 4, 38] [1]]) (s' := ⟨[(1, .ptr 1 0), (3, .p (encL Track.cs v)), (4, pI i), (38, pB (t.role != (1 : Int)))], [(1, .lit 24 [.p (encL Row.cs r_.rows)])]⟩) (by kernel_rfl) (holds_of ((UU ∧ UU ∧ ((0 ≤ i ∧ i < (v.length : Int))) ∧ (rowHas (v.flatMap Track.cs) (i.toNat * 3) [pI t.role, pB t.closed, .p (encL Cell.cs t.cells)]) ∧ (ASpec Try.prog 13 [.agg [pI t.role, pB t.closed, .p (encL Cell.cs t.cells)]] [] (pB b2) []) ∧ UU ∧ ((UU ∧ some (pB (!b2)) = some (pB false))) ∧ UU ∧ UU ∧ ((0 ≤ i ∧ i < (v.length : Int))) ∧ UU ∧ ((v.flatMap Track.cs)[i.toNat * 3 + 1]? = some (.bool t.closed)) ∧ UU ∧ UU ∧ ((UU ∧ some (pB (!t.closed)) = some (pB false))) ∧ UU ∧ UU ∧ ((0 ≤ i ∧ i < (v.length : Int))) ∧ UU ∧ ((v.flatMap Track.cs)[i.toNat * 3]? = some (vI t.role)) ∧ UU ∧ UU ∧ UU) ∧ (UU ∧ UU)) (by kernel_rfl) ⟨⟨TT, TT, k6.2, row_has Track.cs_len k6.1 (o := 0) (m := 3) (by omega) (by decide), track_Valid_ok k7, TT, ⟨TT, by rw [k8]⟩, TT, TT, k6.2, TT, row_at Track.cs_len k6.1 (j := 1) (by omega) (by decide), TT, TT, ⟨TT, by rw [k9]⟩, TT, TT, k6.2, TT, row_at Track.cs_len k6.1 (j := 0) (by omega) (by decide), TT, TT, TT⟩, ⟨TT, TT⟩⟩) ?_
              refine Done.mk ?_
              obtain rfl := Option.some.inj h
              exact ⟨rfl, by kernel_rfl⟩
        · have _ := hm
          refine Done.as (e := Exit.normal) (s := ⟨[(1, .ptr 1 0), (3, .p (encL Track.cs v)), (4, pI i), (38, pB t38)], [(1, .lit 24 [.p (encL Row.cs r_.rows)])]⟩) rfl (by kernel_rfl) ?_
          refine Done.mk (thenQ_n ?_)
          refine ifB_el h (fun k10 h => ?_) (fun k10 h => ?_)
          · refine awp_cond_t (b := t38) (by kernel_rfl) k10 ?_
            refine awp_seq ?_
            refine awp_regionD Try_mixed (orcs := []) (gs := [.keep [2] []]) (s' := ⟨[(2, pB false)], []⟩) (by kernel_rfl) (holds_of ((UU ∧ UU) ∧ (UU ∧ UU)) (by kernel_rfl) ⟨⟨TT, TT⟩, ⟨TT, TT⟩⟩) ?_
            refine Done.mk (thenQ_n ?_)
            refine doneRet ?_
            refine Done.mk (inB_r (thenQ_r ?_))
            obtain rfl := Option.some.inj h
            exact ⟨fun q => (by cases q), fun q => (by subst q; exact ⟨rfl, by kernel_rfl⟩)⟩
          · refine awp_cond_f (b := t38) (by kernel_rfl) k10 ?_
            refine doneSkip ?_
            refine Done.mk (inB_n (thenQ_n ?_))
            refine chk_el h (fun k11 h => ?_)
            refine awp_regionD Try_mixed (orcs := []) (gs := [.keep [1, 3, 4] [1]]) (s' := ⟨[(1, .ptr 1 0), (3, .p (encL Track.cs v)), (4, pI (i + 1))], [(1, .lit 24 [.p (encL Row.cs r_.rows)])]⟩) (by kernel_rfl) (holds_of ((UU ∧ (InR .i64 (i + 1 : Int)) ∧ UU ∧ UU) ∧ (UU ∧ UU)) (by kernel_rfl) ⟨⟨TT, k11, TT, TT⟩, ⟨TT, TT⟩⟩) ?_
            refine Done.mk ?_
            obtain rfl := Option.some.inj h
            exact ⟨rfl, by kernel_rfl⟩
      · refine awp_cond_f (b := decide (i < (v.length : Int))) (by kernel_rfl) k5 ?_
        refine doneExit ?_
        refine Done.gh [.keep [1, 3] [1], .keep [1, 3] [1]] (s' := ⟨[(1, .ptr 1 0), (3, .p (encL Track.cs v))], [(1, .lit 24 [.p (encL Row.cs r_.rows)])]⟩) (by kernel_rfl) (holds_of (UU ∧ UU ∧ UU) (by kernel_rfl) ⟨TT, TT, TT⟩) ?_
        refine Done.mk (thenQ_x ?_)
        obtain rfl := Option.some.inj h
        exact ⟨fun q => (by cases q), fun q => (by subst q; exact ⟨rfl, by kernel_rfl⟩)⟩
    · rcases o with _u | _u
      · refine Done.as (e := (Exit.exit 0)) (s := ⟨[(1, .ptr 1 0), (3, .p (encL Track.cs v))], [(1, .lit 24 [.p (encL Row.cs r_.rows)])]⟩) rfl (by kernel_rfl) ?_
        refine Done.mk (inB_hit (thenQ_n ?_))
        refine awp_seq ?_
        refine bind_el h (fun t2 hm h => ?_)
        refine awp_tail (fun _ => Exit.normal) (fun o => match o with | t2 => ⟨[(2, pB t2)], []⟩) hm (fun o h => ?_) ?_
        · refine bind_el h (fun v1 k12 h => ?_)
          refine ifB_el h (fun k13 h => ?_) (fun k13 h => ?_)
          · refine bind_el h (fun b3 k14 h => ?_)
            refine awp_regionD Try_mixed (orcs := [(3, tV (.p (encL Poly.cs v1))), (6, tB true), (7, tV (pB b3))]) (gs := [.keep [2] []]) (s' := ⟨[(2, pB b3)], []⟩) (by kernel_rfl) (holds_of ((UU ∧ UU ∧ UU ∧ (ASpec Try.prog 14 [.agg [.p (encL Row.cs r_.rows)]] [] (.p (encL Poly.cs v1)) []) ∧ UU ∧ UU ∧ ((UU ∧ some (pB ((v.length : Int) == (v1.length : Int))) = some (pB true))) ∧ (ASpec Try.prog 8 [] [] (pB b3) []) ∧ UU ∧ UU ∧ UU) ∧ (UU ∧ UU)) (by kernel_rfl) ⟨⟨TT, TT, TT, boundary_Trace_ok k12, TT, TT, ⟨TT, by rw [k13]⟩, L24_awake_ok k14, TT, TT, TT⟩, ⟨TT, TT⟩⟩) ?_
            refine Done.mk ?_
            obtain rfl := Option.some.inj h
            exact ⟨rfl, by kernel_rfl⟩
          · refine awp_regionD Try_mixed (orcs := [(3, tV (.p (encL Poly.cs v1))), (6, tB false)]) (gs := [.keep [2] []]) (s' := ⟨[(2, pB false)], []⟩) (by kernel_rfl) (holds_of ((UU ∧ UU ∧ UU ∧ (ASpec Try.prog 14 [.agg [.p (encL Row.cs r_.rows)]] [] (.p (encL Poly.cs v1)) []) ∧ UU ∧ UU ∧ ((UU ∧ some (pB ((v.length : Int) == (v1.length : Int))) = some (pB false))) ∧ UU ∧ UU ∧ UU) ∧ (UU ∧ UU)) (by kernel_rfl) ⟨⟨TT, TT, TT, boundary_Trace_ok k12, TT, TT, ⟨TT, by rw [k13]⟩, TT, TT, TT⟩, ⟨TT, TT⟩⟩) ?_
            refine Done.mk ?_
            obtain rfl := Option.some.inj h
            exact ⟨rfl, by kernel_rfl⟩
        · have _ := hm
          refine Done.as (e := Exit.normal) (s := ⟨[(2, pB t2)], []⟩) rfl (by kernel_rfl) ?_
          refine Done.mk (thenQ_n ?_)
          refine doneRet ?_
          refine Done.mk ?_
          obtain rfl := Option.some.inj h
          exact ⟨Or.inr rfl, by kernel_rfl, by kernel_rfl⟩
      · refine Done.as (e := Exit.ret) (s := ⟨[(2, pB false)], []⟩) rfl (by kernel_rfl) ?_
        refine Done.mk (inB_r (thenQ_r ?_))
        obtain rfl := Option.some.inj h
        exact ⟨Or.inr rfl, by kernel_rfl, by kernel_rfl⟩
end
end Go.AM
end
section
namespace Go.AM
open Go Go.RowKit Go.Proofs Go.Proofs.Ytijdlphadhpabaa Go.ChangeShapes Go.WideShapes
set_option maxRecDepth 100000 in
theorem tracks_contract (hT : ∀ r : Region, r.Ok → L24_RingwalkTracks r = some true) (H : Type) (enc : TypeId × Value → H) (W : World) (base : Nat) (args : Array Value) (ds gs : List (DataW H)) (before : List MemPlace)
    (hval : ∀ (j : Nat) t v, Try.f5.params[j]? = some t → args[j]? = some v → Value.okWide Try.prog W .any base t v)
    (hW : DataW.Whole enc Try.prog Try.f5.params.toList Rows.ringwalkTracksSpec.vars false W args.toList ds gs before) :
    Calls Try.prog 5 args W fun e W' => ∃ v, e = .returned v ∧ Rows.ringwalkTracksSpec.post enc Try.prog Try.f5 false true false false W args v W' := by
  have hW' := hW
  obtain ⟨p, q, hA0, hV, rfl, hfz, hnd⟩ := hW
  have hA : DataW.TrodAll enc Try.prog W 0 (fun _ => true) true Try.f5.params.toList args.toList ds p := hA0
  rw [Try.params5] at hA hval
  obtain ⟨v0, vs0, d0, ds0, p0, q0, hargs, rfl, rfl, h0, r0⟩ := trodAll_cons hA
  obtain ⟨rfl, rfl, rfl⟩ := trodAll_nil r0
  obtain rfl : args = #[v0] := by cases args; simp_all
  obtain ⟨r, hr⟩ := vr_agg (φ := fun _ => none) rdRegion Try.underlying24 (hval 0 24 v0 rfl rfl) h0
  refine (law_calls (L24_RingwalkTracks_ok (hT r (Region.ok_vr hr))) W (vs := [v0]) (by rw [VRs]; exact ⟨_, _, rfl, hr, by rw [VRs]⟩)).mono ?_
  rintro e W' ⟨rfl, hb⟩
  exact ⟨_, rfl, law_post Try_laid Try.underlying4 rfl rfl (by decide +kernel) hW' rfl rfl rfl hb⟩
set_option maxRecDepth 100000 in
theorem tracks_lifted (hT : ∀ r : Region, r.Ok → L24_RingwalkTracks r = some true) (os : Os) (started : os.Started) (H : Type) (enc : TypeId × Value → H) :
    ReturnsInHanded {} Try.checked os 5 .any (Rows.ringwalkTracksSpec.pre6 enc Try.prog Try.f5 Rows.ringwalkTracksRow.domain false) (Rows.ringwalkTracksSpec.post enc Try.prog Try.f5 false true false false) := by
  refine returnsInHanded_of_change (C := Try.checked) Try_own started (by kernel_rfl) Try.func5
    (ChangeSpec.witness6 (enc := enc) (C := Try.checked) false ⟨#[], #[.agg #[.slice none 0 0]], []⟩ 8 (by kernel_rfl) (by kernel_rfl) (by kernel_rfl) (by kernel_rfl)) ?_
  intro W base args ds gs before hval hW _ _
  exact tracks_contract hT H enc W base args ds gs before hval hW
theorem tracks_row (hT : ∀ r : Region, r.Ok → L24_RingwalkTracks r = some true) : Rows.RingwalkTracksSaid :=
  OpenClaim.holds_of_wide 5 Try.f5 rfl rfl rfl rfl rfl rfl rfl ⟨rfl, rfl, rfl, rfl, rfl⟩ rfl rfl rfl rfl rfl (by kernel_rfl) Try.func5 (by kernel_rfl)
    (of_decide_eq_true (by kernel_rfl)) (by unfold Func.isWrapper; first | (rw [if_pos (by decide +kernel)]; kernel_rfl) | (rw [if_neg (by decide +kernel)]; exact ⟨rfl, rfl⟩))
    (fun os started H enc _ => tracks_lifted hT os started H enc)
end Go.AM
end
section
namespace Go.AM
open Go
noncomputable section
variable {S : Int → Int → Prop}
/-! ### A small region has short walks -/
theorem runsLen_ints : ∀ {l : List Run}, (∀ x ∈ l, x.frm < x.to) → ((ints l).length : Int) = runsLen l
  | [], _ => rfl
  | x :: l, h => by
    have h1 := h x (by simp)
    have h2 := runsLen_ints (l := l) fun y hy => h y (by simp [hy])
    unfold runsLen
    rw [← h2]
    unfold ints
    rw [List.flatMap_cons, List.length_append, irange_len]
    omega
theorem rowsLen_cells : ∀ {l : List Row}, (∀ w ∈ l, ∀ x ∈ w.runs, x.frm < x.to) → ((l.flatMap rowCells).length : Int) = rowsLen l
  | [], _ => rfl
  | w :: l, h => by
    have h1 := runsLen_ints (h w (by simp))
    have h2 := rowsLen_cells (l := l) fun y hy => h y (by simp [hy])
    unfold rowsLen
    rw [← h1, ← h2, List.flatMap_cons, List.length_append]
    unfold rowCells
    rw [List.length_map]; omega
theorem small_cells {r : Region} (hV : VReg r) (hs : smallB r = true) : (cellsR r).length ≤ 600 := by
  unfold smallB at hs
  rw [Bool.and_eq_true, decide_eq_true_eq] at hs
  have h1 := hs.2
  unfold countR at h1
  rw [if_pos (validB_iff.2 hV)] at h1
  have := rowsLen_cells (l := r.rows) fun w hw x hx => ((hV.1 w hw).2.2.2.1 x hx).2.1
  unfold cellsR
  omega
theorem cand_few : ∀ {l : List Cell}, (l.flatMap (cellCr S)).length ≤ 4 * l.length
  | [] => by simp
  | a :: l => by
    have h1 : (cellCr S a).length ≤ 4 := by unfold cellCr; exact Nat.le_trans (List.length_filter_le _ _) (by simp [cand])
    have h2 := cand_few (l := l)
    rw [List.flatMap_cons, List.length_append, List.length_cons]; omega
theorem per_small {r : Region} (hV : VReg r) (hs : smallB r = true) {c : Cr} (hc : isCr (inG r) c) {n : Nat} (hn : Per (inG r) c n) : n ≤ 2400 := by
  have hnd : ((List.range n).map fun i => it (inG r) i c).Nodup := by
    unfold List.Nodup
    rw [List.pairwise_map]
    refine List.Pairwise.imp_of_mem (fun {i j} hi hj hlt e => ?_) List.pairwise_lt_range
    rw [List.mem_range] at hi hj
    have := hn.inj hc hi hj e; omega
  have := nodup_sub_len hnd (m := crsOf r) fun x hx => by
    rw [List.mem_map] at hx
    obtain ⟨i, _, rfl⟩ := hx
    exact mem_crsOf.2 (it_isCr hc i)
  have h2 := small_cells hV hs
  have h3 := cand_few (S := inG r) (l := cellsR r)
  unfold crsOf at this
  simp only [List.length_map, List.length_range] at this
  omega
theorem wk_poly {r : Region} (hV : VReg r) (hs : smallB r = true) {P : Poly} (h : IsPoly (inG r) P) : Ring (inG r) (wk P) ∧ (wk P).length ≤ 4800 := by
  obtain ⟨c, n, h1, h2, _, rfl⟩ := h
  have hq := sq_inG hV
  rw [wk_corners hq h1 h2]
  refine ⟨trim_ring h1 h2, ?_⟩
  have hl := ddl_len (upTo (inG r) c n)
  have hu := upTo_len (S := inG r) c n
  have hp := per_small hV hs h1 h2
  have : (trim (ddl (upTo (inG r) c n))).length ≤ (ddl (upTo (inG r) c n)).length := by unfold trim; split <;> simp
  omega
theorem walksOf_all {ps : List Poly} (h : ∀ P ∈ ps, (wk P).length ≤ 65536) : walksOf ps = ps.map fun P => ⟨1, true, wk P⟩ := by
  unfold walksOf
  rw [List.filter_eq_self.2 fun P hP => by simpa using h P hP]
theorem RingwalkTracks_true (r : Region) (hr : r.Ok) : L24_RingwalkTracks r = some true := by
  unfold L24_RingwalkTracks
  rw [Small_eq r hr, Option.bind_some]
  by_cases hs : smallB r = true
  · obtain ⟨ps, hl, h1, h2, _, h4, h5⟩ := Walk_both r hr
    rw [hs]
    show (ringwalk_Walk r).bind _ = _
    rw [h2, Option.bind_some]
    have hlen : (walksOf ps).length = ps.length ∧ ∀ t ∈ walksOf ps, track_Valid t = some true ∧ t.closed = true ∧ t.role = 1 := by
      by_cases hV : VReg r
      · have hT := h4 hV
        have hw : ∀ P ∈ ps, Ring (inG r) (wk P) ∧ (wk P).length ≤ 4800 := fun P hP => wk_poly hV hs ((hT.mem P).1 hP)
        rw [walksOf_all fun P hP => by have := (hw P hP).2; omega]
        refine ⟨by simp, fun t ht => ?_⟩
        rw [List.mem_map] at ht
        obtain ⟨P, hP, rfl⟩ := ht
        exact ⟨track_valid (sq_inG hV) (hw P hP).1 (by have := (hw P hP).2; omega), rfl, rfl⟩
      · rw [h5 hV]; exact ⟨rfl, fun t ht => by cases ht⟩
    refine Ret.eq ?_
    refine Ret.bind (Q' := fun o => o = .inl ()) ?_ (fun o ho => ?_)
    · refine Ret.loop (I := fun i : Int => ∃ k : Nat, i = k ∧ k ≤ (walksOf ps).length) (μ := fun i : Int => (walksOf ps).length - i.toNat) (fun i hi => ?_) ⟨0, rfl, Nat.zero_le _⟩
      obtain ⟨k, rfl, hk⟩ := hi
      unfold L24_RingwalkTracks_l2
      refine Ret.ifB (fun hlt => ?_) (fun hge => Ret.mk rfl)
      rw [decide_eq_true_eq] at hlt
      have hk' : k < (walksOf ps).length := by omega
      obtain ⟨v1, v2, v3⟩ := hlen.2 _ (List.getElem_mem hk')
      refine Ret.bindE (x := false) (Ret.eq ?_) (Ret.ifF rfl (Ret.chk (inR (by omega) (by omega)) (Ret.mk ⟨⟨k + 1, by omega, by omega⟩, by omega⟩)))
      unfold L24_RingwalkTracks_j1
      exact Ret.getI rfl hk' (Ret.bindE v1 (Ret.ifF rfl (Ret.ifF (by rw [v2]; rfl) (Ret.mk (by rw [v3]; rfl)))))
    · subst ho
      refine Ret.bindE (x := true) (Ret.eq ?_) (Ret.mk rfl)
      unfold L24_RingwalkTracks_j3
      exact Ret.bindE h1 (Ret.ifT (by rw [hlen.1, beq_self_eq_true]) (Ret.bindE awake_eq (Ret.mk rfl)))
  · rw [Bool.not_eq_true] at hs
    rw [hs, awake_eq]
    rfl
end
end Go.AM
end
section
namespace Go.Proofs.Ytijdlphadhpabaa
theorem tracks_holds : Rows.RingwalkTracksSaid := Go.AM.tracks_row Go.AM.RingwalkTracks_true
end Go.Proofs.Ytijdlphadhpabaa
end
