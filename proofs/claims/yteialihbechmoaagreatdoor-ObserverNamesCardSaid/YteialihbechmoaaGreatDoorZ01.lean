/- The law's call returns true in every memory whose two tables hold what the program's text says, on every tape. -/
import Derived.Test.YteialihbechmoaaGreatDoorF01
import Derived.Test.YteialihbechmoaaGreatDoorF02
import Derived.Test.YteialihbechmoaaGreatDoorF03
import Derived.Test.YteialihbechmoaaGreatDoorE08
import Derived.Test.YteialihbechmoaaGreatDoorP01
import Derived.Test.YteialihbechmoaaGreatDoorP02

/- The law's call returns true, whatever the tape says, in every memory whose two tables hold what the program's text says. -/
namespace Go.Sv
open Go.RowKit (Below)
open Go.Proofs

theorem all_step {α : Type} {l : List α} {p : α → Bool} (a n : Nat) (h1 : ((l.drop a).take n).all p = true) (h2 : (l.drop (a + n)).all p = true) : (l.drop a).all p = true := by
  have : l.drop a = (l.drop a).take n ++ l.drop (a + n) := by
    rw [← List.drop_drop, List.take_append_drop]
  rw [this, List.all_append, h1, h2]; rfl

theorem pokAll : progOK Tryz.prog = true := by
  have h20 : (Tryz.prog.funcs.toList.drop 600).all (funOK Tryz.prog) = true := by kernel_rfl
  have h19 := all_step 570 30 pok19 h20
  have h18 := all_step 540 30 pok18 h19
  have h17 := all_step 510 30 pok17 h18
  have h16 := all_step 480 30 pok16 h17
  have h15 := all_step 450 30 pok15 h16
  have h14 := all_step 420 30 pok14 h15
  have h13 := all_step 390 30 pok13 h14
  have h12 := all_step 360 30 pok12 h13
  have h11 := all_step 330 30 pok11 h12
  have h10 := all_step 300 30 pok10 h11
  have h9 := all_step 270 30 pok9 h10
  have h8 := all_step 240 30 pok8 h9
  have h7 := all_step 210 30 pok7 h8
  have h6 := all_step 180 30 pok6 h7
  have h5 := all_step 150 30 pok5 h6
  have h4 := all_step 120 30 pok4 h5
  have h3 := all_step 90 30 pok3 h4
  have h2 := all_step 60 30 pok2 h3
  have h1 := all_step 30 30 pok1 h2
  have h0 := all_step 0 30 pok0 h1
  exact h0

theorem hG : Tryz.prog.globals.size = 5 := by kernel_rfl
theorem hPok : ∀ ok : Cx, ok.ok = okC Tryz.prog → ProgOK Tryz.prog ok := fun _ h => ProgOK.of_eq (ok := baseCx Tryz.prog) (progOK_spec pokAll) h

theorem okCmp : ExtAll Tryz.prog (cmpHook 521) := extAll_cmp Tryz.func521 (by kernel_rfl) (by kernel_rfl) (by kernel_rfl) (by rfl)
theorem heA (B : Nat) (ok : Cx) (h : ok.ok = okC Tryz.prog) : Sound Tryz.prog ok B eA := soundK pokAll follows (okCmp B) 3000 ok h

theorem okEmpty : ExtAll Tryz.prog (memo0 178 gl [.slice none 0 0] emptySum) := by
  obtain ⟨s1, h⟩ := retIs_spec sumE
  exact extAll_memo0 heA glOK_prog rfl (by kernel_rfl) (s1 := s1) (by rw [hG]; exact h)

theorem sumAll : ∀ x ∈ table, sumB x := by
  intro x hx
  obtain ⟨i, hi⟩ := List.getElem?_of_mem hx
  match i, hi with
  | 0, hi => exact sum0 x hi
  | 1, hi => exact sum1 x hi
  | 2, hi => exact sum2 x hi
  | 3, hi => exact sum3 x hi
  | 4, hi => exact sum4 x hi
  | 5, hi => exact sum5 x hi
  | i + 6, hi => cases hi
theorem tableLeaf : (table.all fun x => x.1.all isLeaf && leafy x.2.2) = true := by kernel_rfl
theorem okSums : ExtAll Tryz.prog (memo1 178 gl table) := by
  refine extAll_memo1 heA glOK_prog fun x hx => ?_
  have h1 := List.all_eq_true.1 tableLeaf x hx
  simp only [Bool.and_eq_true] at h1
  obtain ⟨s1, h⟩ := retIs_spec (sumAll x hx)
  exact ⟨h1.1, h1.2, s1, by rw [hG]; exact h⟩

theorem tabOK {f : FuncId} {x : List Value × List (List Value) × Value} (hl : leafy x.2.2 = true) (h : tabB f x) : TabOK Tryz.prog eA f gl x := by
  obtain ⟨s1, h⟩ := retIs_spec h
  exact ⟨hl, s1, by rw [hG]; exact h⟩
theorem ok23 : ExtAll Tryz.prog (memoT Tryz.prog 23 gl t23) := by
  refine extAll_memoT heA glOK_prog fun x hx => ?_
  simp only [t23, List.mem_cons, List.not_mem_nil, or_false] at hx
  rcases hx with rfl | rfl
  · exact tabOK rfl q23_1
  · exact tabOK rfl q23_0
theorem ok99 : ExtAll Tryz.prog (memoT Tryz.prog 99 gl t99) := by
  refine extAll_memoT heA glOK_prog fun x hx => ?_
  simp only [t99, List.mem_cons, List.not_mem_nil, or_false] at hx
  rcases hx with rfl | rfl | rfl | rfl | rfl
  · exact tabOK rfl q99_4
  · exact tabOK rfl q99_2
  · exact tabOK rfl q99_3
  · exact tabOK rfl q99_1
  · exact tabOK rfl q99_0
theorem ok41 : ExtAll Tryz.prog (memoT Tryz.prog 41 gl t41) := by
  refine extAll_memoT heA glOK_prog fun x hx => ?_
  simp only [t41, List.mem_cons, List.not_mem_nil, or_false] at hx
  rcases hx with rfl | rfl
  · exact tabOK rfl q41_1
  · exact tabOK rfl q41_0

theorem ok2 : ExtAll Tryz.prog ext2 := okCmp.or (okEmpty.or (okSums.or (ok23.or (ok99.or ok41))))
theorem heB (B : Nat) (ok : Cx) (h : ok.ok = okC Tryz.prog) : Sound Tryz.prog ok B eB := soundK pokAll follows (ok2 B) 3000 ok h
theorem okData : ExtAll Tryz.prog (dataHook Tryz.prog 4 gl (.tuple ⟨exR⟩) exN exB) :=
  extAll_data heB glOK_prog (by kernel_rfl) (by rw [hG]; exact dataB_spec exFact)
theorem ok3 : ExtAll Tryz.prog ext3 := ok2.or ((extAll_judge hPok).or okData)
theorem heC (B : Nat) (ok : Cx) (h : ok.ok = okC Tryz.prog) : Sound Tryz.prog ok B eC := soundK pokAll follows (ok3 B) 3000 ok h
theorem okAlive : ExtAll Tryz.prog (memo0 6 gl [] (.bool true)) := by
  obtain ⟨s1, h⟩ := retIs_spec aliveFact
  exact extAll_memo0 heC glOK_prog rfl rfl (s1 := s1) (by rw [hG]; exact h)
theorem ok4 : ExtAll Tryz.prog ext4 := ok3.or okAlive
theorem heD (B : Nat) (ok : Cx) (h : ok.ok = okC Tryz.prog) : Sound Tryz.prog ok B eD := soundK pokAll follows (ok4 B) 3000 ok h

/-- The two tables lie where they should. -/
def Laid (w : World) : Prop := 5 ≤ w.heap.size ∧ ∀ b c, (b, c) ∈ gl → ∃ c' e fz, w.heap[b]? = some (.cells c' e fz) ∧ ∀ (i : Nat) v, c[i]? = some v → c'[i]? = some v

theorem names_calls (w : World) (h : Laid w) : Calls Tryz.prog 3 #[] w fun e w' => e = .returned (.bool true) ∧ Below w.heap.size w w' := by
  obtain ⟨s1, hc⟩ := retIs_spec namesFact
  obtain ⟨h5, hl⟩ := h
  let zOf : Nat → Nat := fun b => match w.heap[b]? with
    | some (.cells c _ _) => c.size
    | _ => 0
  let m : Mu := fun b => if b < 5 then some (b, 0, zOf b) else none
  have hm : ∀ b, b < 5 → m b = some (b, 0, zOf b) := fun b hb => if_pos hb
  have hmn : ∀ b rb ro z, m b = some (rb, ro, z) → b < 5 ∧ rb = b ∧ ro = 0 ∧ z = zOf b := by
    intro b rb ro z hb
    by_cases h : b < 5
    · rw [hm b h] at hb; cases hb; exact ⟨h, rfl, rfl, rfl⟩
    · have : m b = none := if_neg h
      rw [this] at hb; cases hb
  have hgle : ∀ b c, (b, c) ∈ gl → b < 5 := by
    intro b c hb
    have h1 := List.all_eq_true.1 glOK_prog _ hb
    simp only [Bool.and_eq_true, blt_true, hG] at h1
    exact h1.1
  have hs : SR Tryz.prog (baseCx Tryz.prog) m w.heap.size (isoS gl 5) w := by
    refine iso_sr (fun g hg => ?_) (fun b rb ro z hb => ?_) hgle (fun b c hb => ?_)
    · rw [hG] at hg; exact ⟨_, hm g hg⟩
    · obtain ⟨h1, rfl, _, _⟩ := hmn b rb ro z hb
      exact ⟨h1, by omega⟩
    · have h1 := List.all_eq_true.1 glOK_prog _ hb
      simp only [Bool.and_eq_true] at h1
      refine ⟨h1.2, fun rb ro z hmb => ?_⟩
      obtain ⟨hlt, rfl, rfl, rfl⟩ := hmn b rb ro z hmb
      obtain ⟨c', e, fz, k1, k2⟩ := hl rb c hb
      refine ⟨c', e, fz, k1, ?_, fun i v hv => by rw [Nat.zero_add]; exact k2 i v hv⟩
      show c'.size = zOf rb
      simp only [zOf, k1]
  refine (calls_of_step (hPok _ rfl) (heD w.heap.size (baseCx Tryz.prog) rfl) hc hs (Nat.le_refl _) (LR.nil m)).mono fun e w' hr => ?_
  obtain ⟨m', _, _, hb, hend⟩ := hr
  cases e with
  | returned v =>
    have := VR.of_isLeaf hend rfl
    subst this
    exact ⟨rfl, hb⟩
  | _ => exact hend.elim
end Go.Sv
