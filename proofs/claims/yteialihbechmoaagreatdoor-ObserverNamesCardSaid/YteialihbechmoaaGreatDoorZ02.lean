/- ObserverNames: the given row and its tied card, proved: the call without arguments returns true on every tape; the two digest tables read as the program's text lays them. -/
import Derived.Test.YteialihbechmoaaGreatDoorZ01
import Derived.Test.YteialihbechmoaaGreatDoorR01
import Derived.Test.YteialihbechmoaaGreatDoorR02
import Derived.Test.YteialihbechmoaaGreatDoorR05
import Derived.Test.YteialihbechmoaaGreatDoorR06
import Derived.Test.YteialihbechmoaaGreatDoorR03
import Derived.Test.YteialihbechmoaaGreatDoorR04
import Derived.Test.YteialihbechmoaaGreatDoorRows
import Derived.Test.YteialihbechmoaaGreatDoorTie
import Derived.Test.YteialihbechmoaaGreatDoorCards
import Derived.ProofKit
import Derived.LaidMore
import Derived.OpenShut
import Derived.Stop.Joined
import Derived.SevenTiedAt

/- ObserverNames: the given row and its tied card, proved: the call without arguments returns true on every tape. -/
namespace Go.Proofs.YteialihbechmoaaGreatDoor
open Go Go.ChangeShapes Go.WideShapes Go.ChangeAt Go.RowKit

theorem own : ownKnob Tryz.prog.godebug = none := by kernel_rfl
theorem gK : Tryz.prog.globalNamed "suffrage/digest.k" = some 2 := by kernel_rfl
theorem gFirst : Tryz.prog.globalNamed "suffrage/digest.first" = some 0 := by kernel_rfl

def laid2 : List (String × DataW Unit) := [("suffrage/digest.k", Rows.laid_suffrage_digest_k), ("suffrage/digest.first", Rows.laid_suffrage_digest_first)]

/-- A row of numbers, as it lies in memory. -/
theorem arr_cells {H : Type} {enc : TypeId × Value → H} {P : Program} {w : World} {base fuel : Nat} {spare : Nat → Bool} {held : Bool} {t e : TypeId} {n : Nat} {cs : List Value} {l : List Nat} {q : List MemPlace}
    (ht : P.underlying t = some (.array n e)) (he : P.underlying e = some (.int .u32)) (hce : P.cellsOf e = 1)
    (h : DataW.trod enc P w base spare held fuel t cs = some (.agg (l.map fun n => .lit (.int .u32 (.ofNat n))), q)) : ∀ (i : Nat) v, (Sv.u32s l)[i]? = some v → cs[i]? = some v := by
  obtain ⟨xs, m, _, hx, _, hn, hel⟩ := DataW.trod_array ht h
  simp only [Prod.mk.injEq, DataW.agg.injEq] at hx
  intro i v hv
  unfold Sv.u32s at hv
  rw [List.getElem?_map, Option.map_eq_some_iff] at hv
  obtain ⟨a, ha, rfl⟩ := hv
  have hxi : (xs.map (·.1))[i]? = some (.lit (.int .u32 (.ofNat a))) := by
    rw [← hx.1, List.getElem?_map, ha]; rfl
  rw [List.getElem?_map, Option.map_eq_some_iff] at hxi
  obtain ⟨y, hy, hy1⟩ := hxi
  have hi : i < n := by
    have := (List.getElem?_eq_some_iff.1 hy).1
    omega
  have htr := hel i hi
  rw [hy, hce, Nat.mul_one] at htr
  obtain ⟨k, h1, h2, _⟩ := DataW.trod_int he htr
  rw [h2] at hy1
  simp only [DataW.lit.injEq, Lit.int.injEq, true_and] at hy1
  subst hy1
  have h3 : ((cs.drop i).take 1)[0]? = some (.int .u32 (.ofNat a)) := by rw [h1]; rfl
  rw [List.getElem?_take, if_pos (by omega), List.getElem?_drop] at h3
  simpa using h3

theorem var_block {w : World} {P : Program} {n : String} {g : Nat} {cs : Array Value} (hg : P.globalNamed n = some g) (h : w.var? P n = some cs) : ∃ t fr, w.heap[g]? = some (.cells cs t fr) := by
  simp only [World.var?, hg, Option.bind_some] at h
  split at h
  · rename_i c t fr hb
    cases h
    exact ⟨t, fr, hb⟩
  · cases h

theorem kEq : (Rows.laid_suffrage_digest_k : DataW Unit) = .agg (Sv.kL.map fun n => .lit (.int .u32 (.ofNat n))) := by kernel_rfl
theorem firstEq : (Rows.laid_suffrage_digest_first : DataW Unit) = .agg (Sv.firstL.map fun n => .lit (.int .u32 (.ofNat n))) := by kernel_rfl

/-- What the row's condition gives. -/
theorem of_laid {W : World} (h : laidMetH Tryz.prog laid2 W) (h5 : 5 ≤ W.heap.size) : Sv.Laid W := by
  rw [MakeChecks.laidMetH_plain _ _ _ (by kernel_rfl)] at h
  obtain ⟨ps, ⟨g0, t0, cs0, f0, p0, q0, hg0, ht0, hv0, hd0, ⟨g1, t1, cs1, f1, p1, q1, hg1, ht1, hv1, hd1, _, _⟩, _⟩, _, _⟩ := h
  obtain rfl := Option.some.inj (gK.symm.trans hg0)
  obtain rfl := Option.some.inj (gFirst.symm.trans hg1)
  have e0 : t0 = 499 := Option.some.inj (ht0.symm.trans (by kernel_rfl))
  have e1 : t1 = 384 := Option.some.inj (ht1.symm.trans (by kernel_rfl))
  subst e0 e1
  rw [kEq] at hd0
  rw [firstEq] at hd1
  have c0 := arr_cells (n := 64) (by kernel_rfl) Tryz.underlying114 (by kernel_rfl) hd0
  have c1 := arr_cells (n := 8) (by kernel_rfl) Tryz.underlying114 (by kernel_rfl) hd1
  obtain ⟨_, fz0, hb0⟩ := var_block gK hv0
  obtain ⟨_, fz1, hb1⟩ := var_block gFirst hv1
  refine ⟨h5, fun b c hm => ?_⟩
  simp only [Sv.gl, List.mem_cons, Prod.mk.injEq, List.not_mem_nil, or_false] at hm
  rcases hm with ⟨rfl, rfl⟩ | ⟨rfl, rfl⟩
  · exact ⟨cs1, _, fz1, hb1, fun i v hv => by rw [← Array.getElem?_toList]; exact c1 i v hv⟩
  · exact ⟨cs0, _, fz0, hb0, fun i v hv => by rw [← Array.getElem?_toList]; exact c0 i v hv⟩

/-- The door's own heap meets the condition. -/
theorem door_met (os : Os) (args : Array Value) : laidMetH Tryz.prog laid2 ((World.doorLaid Tryz.prog 400 os).forCall (fun _ _ => 0) ⟨#[], args, []⟩).memory :=
  laidMetH_of_parts3 (fuel := 8) (laidMet_of_run' 8 (by kernel_rfl) (by kernel_rfl)) (by kernel_rfl) (by kernel_rfl)

/-- The fifth variable has its block. -/
theorem size_of_shaped {W : World} (h : W.ShapedOpen Tryz.prog) : 5 ≤ W.heap.size := by
  have hb : (((begin Tryz.prog (fun _ _ => 0) default).world.heap[4]?).bind Obj.row?).isSome = true := by kernel_rfl
  have hx : ∃ x, ((begin Tryz.prog (fun _ _ => 0) default).world.heap[4]?).bind Obj.row? = some x := Option.isSome_iff_exists.1 hb
  obtain ⟨⟨zero, t⟩, h0⟩ := hx
  obtain ⟨cs, hh, _⟩ := h.1 4 zero t (by rw [Sv.hG]; decide) h0
  have := (Array.getElem?_eq_some_iff.1 hh).1
  omega

set_option maxRecDepth 100000 in
theorem lifted (os : Os) (started : os.Started) (H : Type) (enc : TypeId × Value → H) :
    ReturnsInHanded {} Tryz.checked os 3 .any (fun w args => (Rows.observerNamesSpec.pre enc Tryz.prog Tryz.f3 [] false w args ∧ laidMetH Tryz.prog laid2 w) ∧ sizedMet enc Tryz.prog Tryz.f3 (OpenSpec.ofChange Rows.observerNamesSpec) false w args)
      (Rows.observerNamesSpec.post enc Tryz.prog Tryz.f3 false true false false) := by
  refine returnsInHanded_of_calls (C := Tryz.checked) own started (by kernel_rfl)
    (ChangeSpec.witness_shaped (enc := enc) (C := Tryz.checked) (os := os) (X := fun w _ => laidMetH Tryz.prog laid2 w) false (World.doorLaid Tryz.prog 400 os) #[] 8 rfl (World.shaped_of_RefB (by kernel_rfl) (by kernel_rfl)) (by kernel_rfl) (by kernel_rfl) (by kernel_rfl) (door_met os _)) ?_
  intro w tape i _ hsh _ hok hpre _
  obtain ⟨⟨⟨ds, gs, before, hw, _⟩, hL⟩, _⟩ := hpre
  have hw' := DataW.Whole.of_heap (w' := w.forCall tape i) (by rfl) hw
  have hW := hw'
  obtain ⟨p, q, hA0, hV, rfl, _, _⟩ := hW
  have hA : DataW.TrodAll enc Tryz.prog (w.forCall tape i) 0 (fun _ => true) true Tryz.f3.params.toList i.args.toList ds p := hA0
  rw [Tryz.params3] at hA
  obtain ⟨ha, rfl, rfl⟩ := trodAll_none hA
  obtain ⟨rfl, rfl⟩ := trodVars_none hV
  have hlaid : Sv.Laid (w.forCall tape i) := of_laid (laidMetH.of_heap (by rfl) hL) (size_of_shaped hsh)
  rw [ha]
  refine (Sv.names_calls (w.forCall tape i) hlaid).mono fun e W' ⟨he, hb⟩ => ?_
  subst he
  rw [ha] at hw'
  exact ChangeSpec.post_blind ⟨_, _, _, [], [], [], hw', trodAll_mk1 (shut_bool Tryz.underlying4 true), trodAll_mk0, rfl, hb.frame _, fun h => by cases h⟩

theorem and2 {a b : Bool} (h : a = true) (k : b = true) : (a && b) = true := by rw [h, k]; rfl
set_option maxRecDepth 10000 in
theorem facts : joinedFacts Tryz.prog 3 Tryz.f3 Rows.observerNamesSpec Rows.observerNamesRow = true := by
  unfold joinedFacts
  refine and2 (and2 (and2 (and2 (and2 (and2 (and2 (and2 (and2 (and2 (and2 (and2 (and2 (and2 (and2 (and2 (and2 (and2 (and2 (and2 (and2 (and2 (and2 (and2 (and2 (and2 (and2 (and2 (and2 (and2 (and2 ?_ ?_) ?_) ?_) ?_) ?_) ?_) ?_) ?_) ?_) ?_) ?_) ?_) ?_) ?_) ?_) ?_) ?_) ?_) ?_) ?_) ?_) ?_) ?_) ?_) ?_) ?_) ?_) ?_) ?_) ?_) ?_
  · exact j0
  · exact j1
  · exact j2
  · exact j3
  · exact j4
  · exact j5
  · exact j6
  · exact j7
  · exact j8
  · exact j9
  · exact j10
  · exact j11
  · exact j12
  · exact j13
  · exact j14
  · exact j15
  · exact j16
  · exact j17
  · exact j18
  · exact j19
  · exact j20
  · exact j21
  · exact j22
  · exact j23
  · exact j24
  · exact j25
  · exact j26
  · exact j27
  · exact j28
  · exact j29
  · exact j30
  · exact j31
theorem facts2 : joinedFacts Tryz.pinned.checked.prog 3 Tryz.f3 Rows.observerNamesSpec Rows.observerNamesRow = true := facts

theorem row_holds : Rows.ObserverNamesSaid :=
  OpenClaim.holds_of_wide 3 Tryz.f3 rfl rfl rfl rfl rfl rfl rfl ⟨rfl, rfl, rfl, rfl, rfl⟩ rfl rfl rfl rfl rfl jNamed Tryz.func3 facts2 jInst jWrap
    (fun os started H enc _ => lifted os started H enc)

theorem card_holds : Rows.ObserverNamesCardSaid :=
  Claim7.holds_tied_plain_at .later [] [.data, .data] true (true, "27e027874c29c7fa324372b2124b7c13488610ff2ed6b40dbe8c051135cd5774") true
    row_holds (fun _ h => by cases h) jText (fun _ h => by cases h) observerNames_row_tie rfl ⟨rfl, rfl⟩ jMain rfl
    (fun f fn hf hfn => by
      obtain rfl : f = 3 := Option.some.inj (jNamed.symm.trans hf) |>.symm
      obtain rfl : fn = Tryz.f3 := (Option.some.inj (Tryz.func3.symm.trans hfn)).symm
      exact ⟨jLooks, fun j t ht => by
        rw [Tryz.params3] at ht
        simp at ht⟩)
    jGoes
end Go.Proofs.YteialihbechmoaaGreatDoor
