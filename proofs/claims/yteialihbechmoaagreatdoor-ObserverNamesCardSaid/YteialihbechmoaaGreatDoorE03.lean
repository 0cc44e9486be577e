/- The evaluator is sound: operations that make or write memory. -/
import Derived.Test.YteialihbechmoaaGreatDoorE02
import Derived.Laws.AppendOwn
import Derived.Room.Entries

/- What becomes of the relation when memory is made or written; operations that make one block. -/
namespace Go.Sv
open Go.RowKit (Below)

section
variable {P : Program} {ok : Cx} {w w' : World} {m : Mu} {B : Nat} {s : S}

/-! ### The evaluator's side -/

theorem S.get_put (s : S) (b : Nat) (o : AO) (j : Nat) : (s.put b o).get j = if j = b then some o else s.get j := by
  simp only [S.get, S.put, M.get_set]
  by_cases h : j = b <;> simp [h]
theorem S.get_new (s : S) (o : AO) (j : Nat) : (s.new o).get j = if j = s.next then some o else s.get j := by
  simp only [S.get, S.new, M.get_set]
  by_cases h : j = s.next <;> simp [h]
theorem S.get_kill (s : S) (b j : Nat) : (s.kill b).get j = if j = b then none else s.get j := by
  simp only [S.get, S.kill, M.get_set]
  by_cases h : j = b <;> simp [h]

/-! ### The relation -/

theorem SR.new (h : SR P ok m B s w) (o : AO) : SR P ok m B (s.new o) w where
  dom b rb ro z hm := by have := h.dom b rb ro z hm; exact ⟨by show b < s.next + 1; omega, this.2⟩
  blk b rb ro z o' hm hg := by
    have := h.dom b rb ro z hm
    rw [S.get_new, if_neg (by omega)] at hg
    exact h.blk _ _ _ _ _ hm hg
  own b rb ro z o' hm hg hr := by
    have := h.dom b rb ro z hm
    rw [S.get_new, if_neg (by omega)] at hg
    exact h.own _ _ _ _ _ hm hg hr
  inj b b' rb ro z ro' z' o1 o2 hne hm hm' hg hg' := by
    have h1 := h.dom b rb ro z hm
    have h2 := h.dom b' rb ro' z' hm'
    rw [S.get_new, if_neg (by omega)] at hg hg'
    exact h.inj _ _ _ _ _ _ _ _ _ hne hm hm' hg hg'
  glob := h.glob
  res b hb := ⟨(h.res b hb).1, Nat.lt_succ_of_lt (h.res b hb).2⟩
  ent b x hx := by
    simp only [S.new, M.get_set] at hx ⊢
    split at hx
    · rename_i e
      simp only [Option.some.injEq] at hx
      subst hx
      exact ⟨by omega, Nat.lt_succ_self _⟩
    · have := h.ent b x hx
      omega
  old := by
    refine ⟨Nat.le_succ_of_le h.old.1, fun b x hx hlt => ?_⟩
    simp only [S.new, M.get_set] at hx
    split at hx
    · simp only [Option.some.injEq] at hx
      subst hx
      have := h.old.1
      simp only at hlt; omega
    · exact h.old.2 b x hx hlt

theorem SR.kill (h : SR P ok m B s w) (k : Nat) : SR P ok m B (s.kill k) w where
  dom := h.dom
  blk b rb ro z o' hm hg := by
    rw [S.get_kill] at hg
    split at hg
    · simp at hg
    · exact h.blk _ _ _ _ _ hm hg
  own b rb ro z o' hm hg hr := by
    rw [S.get_kill] at hg
    split at hg
    · simp at hg
    · exact h.own _ _ _ _ _ hm hg hr
  inj b b' rb ro z ro' z' o1 o2 hne hm hm' hg hg' := by
    rw [S.get_kill] at hg hg'
    split at hg <;> split at hg' <;> simp_all
    exact h.inj _ _ _ _ _ _ _ _ _ hne hm hm' hg hg'
  glob := h.glob
  res := h.res
  ent b x hx := by
    simp only [S.kill, M.get_set] at hx ⊢
    split at hx
    · simp at hx
    · exact h.ent b x hx
  old := by
    refine ⟨h.old.1, fun b x hx hlt => ?_⟩
    simp only [S.kill, M.get_set] at hx
    split at hx
    · simp at hx
    · exact h.old.2 b x hx hlt

theorem SR.none_next (h : SR P ok m B s w) : m s.next = none := by
  cases hmm : m s.next with
  | none => rfl
  | some y => obtain ⟨rb, ro, z⟩ := y; have := (h.dom _ _ _ _ hmm).1; omega
theorem SR.res_next (h : SR P ok m B s w) : ¬ ok.res s.next := fun hr => Nat.lt_irrefl _ (h.res _ hr).2

def Mu.ins (m : Mu) (b : Nat) (x : Nat × Nat × Nat) : Mu := fun j => if j = b then some x else m j
theorem Mu.le_ins {m : Mu} {b : Nat} {x : Nat × Nat × Nat} (h : m b = none) : m.le (m.ins b x) := by
  intro j y hj
  unfold Mu.ins
  rw [if_neg (by rintro rfl; rw [h] at hj; cases hj)]
  exact hj
theorem Mu.ins_same (m : Mu) (b : Nat) (x : Nat × Nat × Nat) : m.ins b x b = some x := by simp [Mu.ins]

/-- The world has one block more. -/
structure Grew (w w' : World) (obj : Obj) : Prop where
  heap : w'.heap = w.heap.push obj
  os : w'.os = w.os
  tape : w'.tape = w.tape
  output : w'.output = w.output

theorem Grew.below {obj : Obj} (h : Grew w w' obj) (hB : B ≤ w.heap.size) : Below B w w' :=
  ⟨h.os, h.tape, h.output, by rw [h.heap]; simp, fun k hk => by rw [h.heap, Array.getElem?_push, if_neg (by omega)]⟩
theorem Grew.old {obj : Obj} (h : Grew w w' obj) {k : Nat} (hk : k < w.heap.size) : w'.heap[k]? = w.heap[k]? := by
  rw [h.heap, Array.getElem?_push, if_neg (by omega)]
theorem Grew.at {obj : Obj} (h : Grew w w' obj) : w'.heap[w.heap.size]? = some obj := by
  rw [h.heap, Array.getElem?_push, if_pos rfl]

/-- A new block of the machine's that stands for a block of the evaluator's which had none. -/
theorem SR.grew {obj : Obj} {id z : Nat} {o : AO} (h : SR P ok m B s w) (hg : Grew w w' obj) (hB : B ≤ w.heap.size) (hm : m id = none) (hu : ¬ ok.res id) (hid : id < s.next)
    (ho : s.get id = some o) (hb : BR m ok (some obj) 0 z o) : SR P ok (m.ins id (w.heap.size, 0, z)) B s w' := by
  have hle : m.le (m.ins id (w.heap.size, 0, z)) := Mu.le_ins hm
  have hcase : ∀ b rb ro z', (m.ins id (w.heap.size, 0, z)) b = some (rb, ro, z') → (b = id ∧ rb = w.heap.size ∧ ro = 0 ∧ z' = z) ∨ (b ≠ id ∧ m b = some (rb, ro, z')) := by
    intro b rb ro z' hb
    unfold Mu.ins at hb
    split at hb
    · rename_i e
      simp only [Option.some.injEq, Prod.mk.injEq] at hb
      exact .inl ⟨e, hb.1.symm, hb.2.1.symm, hb.2.2.symm⟩
    · rename_i e; exact .inr ⟨e, hb⟩
  refine ⟨fun b rb ro z' hb => ?_, fun b rb ro z' o' hb hgo => ?_, fun b rb ro z' o' hb hgo hr => ?_, fun b b' rb ro z1 ro' z2 o1 o2 hne hb hb' hg1 hg2 => ?_, fun g hgl => ?_, fun b hb => ?_, h.ent, h.old⟩
  rotate_left 5
  · refine ⟨?_, (h.res b hb).2⟩
    unfold Mu.ins
    rw [if_neg (by rintro rfl; exact hu hb)]
    exact (h.res b hb).1
  rotate_right 5
  · rw [hg.heap]
    rcases hcase _ _ _ _ hb with ⟨rfl, rfl, _⟩ | ⟨_, hb⟩
    · exact ⟨hid, by simp⟩
    · have := h.dom _ _ _ _ hb; exact ⟨this.1, by simp; omega⟩
  · rcases hcase _ _ _ _ hb with ⟨rfl, rfl, rfl, rfl⟩ | ⟨_, hb⟩
    · rw [ho, Option.some.injEq] at hgo; subst hgo
      rw [hg.at]; exact BR.mono hle ‹_›
    · rw [hg.old (h.dom _ _ _ _ hb).2]; exact BR.mono hle (h.blk _ _ _ _ _ hb hgo)
  · rcases hcase _ _ _ _ hb with ⟨rfl, rfl, _⟩ | ⟨_, hb⟩
    · exact hB
    · exact h.own _ _ _ _ _ hb hgo hr
  · rcases hcase _ _ _ _ hb with ⟨e1, e2, _⟩ | ⟨_, hc⟩
    · rcases hcase _ _ _ _ hb' with ⟨e3, _⟩ | ⟨_, hc'⟩
      · exact absurd (e1.trans e3.symm) hne
      · have := (h.dom _ _ _ _ hc').2; omega
    · rcases hcase _ _ _ _ hb' with ⟨e1, e2, _⟩ | ⟨_, hc'⟩
      · have := (h.dom _ _ _ _ hc).2; omega
      · exact h.inj _ _ _ _ _ _ _ _ _ hne hc hc' hg1 hg2
  · obtain ⟨z', hz⟩ := h.glob g hgl
    exact ⟨z', hle _ _ hz⟩

/-- One block of the machine's has been written. -/
structure Wrote (w w' : World) (rb : Nat) (obj : Obj) : Prop where
  heap : w'.heap = w.heap.setIfInBounds rb obj
  os : w'.os = w.os
  tape : w'.tape = w.tape
  output : w'.output = w.output

theorem Wrote.below {rb : Nat} {obj : Obj} (h : Wrote w w' rb obj) (hB : B ≤ rb) : Below B w w' :=
  ⟨h.os, h.tape, h.output, by rw [h.heap]; simp, fun k hk => by rw [h.heap, Array.getElem?_setIfInBounds, if_neg (by omega)]⟩
theorem Wrote.other {rb k : Nat} {obj : Obj} (h : Wrote w w' rb obj) (hk : k ≠ rb) : w'.heap[k]? = w.heap[k]? := by
  rw [h.heap, Array.getElem?_setIfInBounds, if_neg (by omega)]
theorem Wrote.at {rb : Nat} {obj : Obj} (h : Wrote w w' rb obj) (hk : rb < w.heap.size) : w'.heap[rb]? = some obj := by
  rw [h.heap, Array.getElem?_setIfInBounds, if_pos rfl, if_pos hk]

theorem SR.put {b rb ro z : Nat} {obj : Obj} {o o2 : AO} (h : SR P ok m B s w) (hm : m b = some (rb, ro, z)) (hg : s.get b = some o) (hr : o.ro = false)
    (hw : Wrote w w' rb obj) (hb : BR m ok (some obj) ro z o2) : SR P ok m B (s.put b o2) w' ∧ Below B w w' := by
  have hd := h.dom _ _ _ _ hm
  have hB := h.own _ _ _ _ _ hm hg hr
  have hother : ∀ b' rb' ro' z' o', b' ≠ b → m b' = some (rb', ro', z') → s.get b' = some o' → rb' ≠ rb := by
    intro b' rb' ro' z' o' hne hm' hg' e
    subst e
    have := (h.inj _ _ _ _ _ _ _ _ _ hne hm' hm hg' hg).2
    rw [hr] at this; cases this
  refine ⟨⟨fun b' rb' ro' z' hb' => ?_, fun b' rb' ro' z' o' hb' hgo => ?_, fun b' rb' ro' z' o' hb' hgo hr' => ?_,
    fun b1 b2 rb' ro1 z1 ro2 z2 o1 o2' hne hb1 hb2 hg1 hg2 => ?_, h.glob, h.res, fun b' x hx => ?_, ⟨Nat.le_succ_of_le h.old.1, fun b' x hx hlt => ?_⟩⟩, hw.below hB⟩
  rotate_left 4
  · simp only [S.put, M.get_set] at hx ⊢
    split at hx
    · rename_i e
      simp only [Option.some.injEq] at hx
      subst hx
      have := (h.dom _ _ _ _ hm).1
      exact ⟨by omega, Nat.lt_succ_self _⟩
    · have := h.ent b' x hx
      omega
  · simp only [S.put, M.get_set] at hx
    split at hx
    · simp only [Option.some.injEq] at hx
      subst hx
      have := h.old.1
      simp only at hlt; omega
    · exact h.old.2 b' x hx hlt
  rotate_right 4
  · have := h.dom _ _ _ _ hb'
    rw [hw.heap]; exact ⟨this.1, by simpa using this.2⟩
  · rw [S.get_put] at hgo
    split at hgo
    · rename_i e; subst e
      rw [hm, Option.some.injEq, Prod.mk.injEq, Prod.mk.injEq] at hb'
      obtain ⟨rfl, rfl, rfl⟩ := hb'
      simp only [Option.some.injEq] at hgo; subst hgo
      rw [hw.at hd.2]; exact hb
    · rename_i e
      rw [hw.other (hother _ _ _ _ _ e hb' hgo)]
      exact h.blk _ _ _ _ _ hb' hgo
  · rw [S.get_put] at hgo
    split at hgo
    · rename_i e; subst e
      rw [hm, Option.some.injEq, Prod.mk.injEq, Prod.mk.injEq] at hb'
      obtain ⟨rfl, rfl, rfl⟩ := hb'
      exact hB
    · exact h.own _ _ _ _ _ hb' hgo hr'
  · rw [S.get_put] at hg1 hg2
    split at hg1
    · rename_i e; subst e
      split at hg2
      · rename_i e; subst e; exact absurd rfl hne
      · rename_i e
        rw [hm, Option.some.injEq, Prod.mk.injEq, Prod.mk.injEq] at hb1
        obtain ⟨rfl, _, _⟩ := hb1
        exact absurd rfl (hother _ _ _ _ _ e hb2 hg2)
    · rename_i e
      split at hg2
      · rename_i e'; subst e'
        rw [hm, Option.some.injEq, Prod.mk.injEq, Prod.mk.injEq] at hb2
        obtain ⟨rfl, _, _⟩ := hb2
        exact absurd rfl (hother _ _ _ _ _ e hb1 hg1)
      · exact h.inj _ _ _ _ _ _ _ _ _ hne hb1 hb2 hg1 hg2

/-! ### Operations that make one block -/

theorem cells_BR {c : List Value} {c' : Array Value} {e : TypeId} {n : Nat} (h : LR m c c'.toList) (hn : c'.size ≤ n) :
    BR m ok (some (.cells c' e (n, n + 1))) 0 c'.size (.cells c false) :=
  ⟨c', e, _, rfl, rfl, fun i v hv => by
    obtain ⟨v', hv', hr⟩ := h.getElem? hv
    exact ⟨v', by simpa using hv', hr⟩, fun _ j hj => by simp only; omega⟩
theorem cells_BR0 {c : List Value} {c' : Array Value} {e : TypeId} (h : LR m c c'.toList) : BR m ok (some (.cells c' e (0, 0))) 0 c'.size (.cells c false) :=
  ⟨c', e, _, rfl, rfl, fun i v hv => by
    obtain ⟨v', hv', hr⟩ := h.getElem? hv
    exact ⟨v', by simpa using hv', hr⟩, fun _ j hj => by simp only; omega⟩

theorem leafy_cells {z : Value} (h : leafy z = true) : z.cells.toList.all isLeaf = true := by
  cases z with
  | agg x => simpa [leafy, Value.cells] using h
  | _ => first | (simp only [leafy] at h; simp [Value.cells, h]) | (simp [leafy, isLeaf] at h)

theorem zeroRow_eq {zc : Array Value} {n : Nat} (hp : 0 < n → 0 < zc.size) :
    zeroRow zc.toList n = ((Array.range n).map (zc[· % zc.size]!)).toList := by
  unfold zeroRow
  simp only [Array.toList_map, Array.toList_range]
  apply List.map_congr_left
  intro i hi
  have hi' : i < n := by simpa using hi
  have hlt : i % zc.size < zc.size := Nat.mod_lt _ (hp (by omega))
  simp only [Array.length_toList]
  rw [List.getD_eq_getElem?_getD, List.getElem?_eq_getElem (by simpa using hlt)]
  simp [getElem!_pos, hlt]

theorem zeroRow_leaf {zc : Array Value} {n : Nat} (hp : 0 < n → 0 < zc.size) (hl : zc.toList.all isLeaf = true) : (zeroRow zc.toList n).all isLeaf = true := by
  unfold zeroRow
  rw [List.all_eq_true] at hl ⊢
  intro v hv
  rw [List.mem_map] at hv
  obtain ⟨i, hi, rfl⟩ := hv
  have hi' : i < n := by simpa using hi
  have hlt : i % zc.toList.length < zc.toList.length := Nat.mod_lt _ (by simpa using hp (by omega))
  rw [List.getD_eq_getElem?_getD, List.getElem?_eq_getElem hlt]
  exact hl _ (List.getElem_mem hlt)
end
end Go.Sv

/- Operations that make one block, as the machine carries them out. -/
namespace Go.Sv
open Go.RowKit (Below)

section
variable {P : Program} {ok : Cx} {w w' : World} {m : Mu} {B : Nat} {s : S}

/-- What an operation that makes a block comes to. -/
def Makes (P : Program) (ok : Cx) (m : Mu) (w : World) (r : Sem Next) (o : AO) (f : Nat → Value) : Prop :=
  ∃ v' w' obj z, r.run P w = .ok (.value v') w' ∧ Grew w w' obj ∧ BR m ok (some obj) 0 z o ∧
    ∀ id, m id = none → VR (m.ins id (w.heap.size, 0, z)) (f id) v'

theorem VR.ptr0 {id rb z : Nat} : VR (m.ins id (rb, 0, z)) (.pointer (some ⟨id, 0, none⟩)) (.pointer (some ⟨rb, 0, none⟩)) := by
  have := VR.ptr (m := m.ins id (rb, 0, z)) (o := 0) (Mu.ins_same m id (rb, 0, z))
  simpa using this
theorem VR.slice0 {id rb z len cap : Nat} (h : len ≤ cap) (hb : cap < big) : VR (m.ins id (rb, 0, z)) (.slice (some ⟨id, 0, none⟩) len cap) (.slice (some ⟨rb, 0, none⟩) len cap) :=
  .slice (Mu.ins_same m id (rb, 0, z)) (capRel_exact h hb) (.inl rfl)
theorem VR.map0 {id rb z : Nat} : VR (m.ins id (rb, 0, z)) (.map (some id)) (.map (some rb)) := .map ⟨z, Mu.ins_same m id (rb, 0, z)⟩

theorem grew_push (w : World) (obj : Obj) : Grew w { w with heap := w.heap.push obj } obj := ⟨rfl, rfl, rfl, rfl⟩

theorem newRow_run {e : TypeId} {c : Array Value} : (newRow e c).run P w = .ok ⟨w.heap.size, 0, none⟩ { w with heap := w.heap.push (.cells c e) } := by
  simp [newRow]

theorem growCap_ge {sz n : Nat} : big ≤ growCap sz n := by
  unfold growCap
  have := Nat.mul_le_mul_left big (show 1 ≤ sz + 1 by omega)
  omega
theorem growCap_div {sz n : Nat} (h : n < big) : growCap sz n / big = sz + 1 := by
  unfold growCap
  rw [Nat.mul_add_div big_pos, Nat.div_eq_of_lt h, Nat.add_zero]
theorem growCap_mod {sz n : Nat} (h : n < big) : growCap sz n % big = n := by
  unfold growCap
  rw [Nat.mul_add_mod, Nat.mod_eq_of_lt h]

theorem bsliceA_sim {ρ ρ' : Operand → Value} {e : TypeId} {z : Value} {t : TypeId} {len : Nat} {parts : Array (Nat × Operand)} {c : List Value} (hu : P.underlying t = some (.slice e))
    (hz : zeroOf P e = some z) (hρ : ∀ p ∈ parts.toList, VR m (ρ p.2) (ρ' p.2)) (h1 : len * szOf P e ≤ 16777216) (h2 : 0 < len * szOf P e)
    (h : fillL (fun i => some (i * szOf P e, szOf P e)) (zeroRow z.cells.toList (len * szOf P e)) (parts.toList.map fun p => (p.1, ρ p.2)) = some c) :
    ∃ c' : Array Value, LR m c c'.toList ∧ (Instr.buildSlice t len (parts.map fun (i, x) => (i, ρ' x))).run P w =
      .ok (.slice (some ⟨w.heap.size, 0, none⟩) len len) { w with heap := w.heap.push (.cells c' e) } := by
  obtain ⟨hsz, hzl⟩ := zeroOf_info (w := w) hz
  have hparts : ∀ (i : Nat) (p p' : Nat × Value), (parts.toList.map fun p => (p.1, ρ p.2))[i]? = some p → (parts.toList.map fun p => (p.1, ρ' p.2))[i]? = some p' →
      p'.1 = p.1 ∧ VR m p.2 p'.2 := by
    intro i p p' hp hp'
    simp only [List.getElem?_map, Option.map_eq_some_iff] at hp hp'
    obtain ⟨q, hq, rfl⟩ := hp
    obtain ⟨q', hq', rfl⟩ := hp'
    rw [hq, Option.some.injEq] at hq'
    subst hq'
    exact ⟨rfl, hρ _ (List.mem_of_getElem? hq)⟩
  have he : (parts.map fun (i, x) => (i, ρ' x)).toList = parts.toList.map fun p => (p.1, ρ' p.2) := by simp
  have hzp : 0 < len * szOf P e → 0 < z.cells.size := by
    intro _
    rw [← Array.length_toList, hzl]
    exact Nat.pos_of_mul_pos_left h2
  have hrow := zeroRow_eq (zc := z.cells) hzp
  rw [hrow] at h
  have hleaf : ((Array.range (len * szOf P e)).map (z.cells[· % z.cells.size]!)).toList.all isLeaf = true := by
    rw [← hrow]; exact zeroRow_leaf hzp (leafy_cells (zeroOf_some hz).choose_spec.2.2.1)
  obtain ⟨c', hc', hlr⟩ := fill_sim _ _ _ _ ((Array.range (len * szOf P e)).map (z.cells[· % z.cells.size]!)) c (by simp) hparts (LR.of_leaf hleaf) h
  refine ⟨c', hlr, ?_⟩
  have hg1 : ¬ len * szOf P e > 2 ^ 24 := by omega
  have hg2 : ¬ len * szOf P e = 0 := by omega
  simp only [Instr.buildSlice, Sem.run_bind, run_underlying hu, Result.andThen_ok, hsz, if_neg hg1, if_neg hg2, run_zeroValue hz, Sem.run_pure, he, hc', newRow_run]

theorem stringToBytes_sim {ρ' : Operand → Value} {op : Oper} {src dst e : TypeId} {x : Operand} {st : ByteArray} (hop : op.op = .convert src dst x)
    (hs : P.underlying src = some .string) (hd : P.underlying dst = some (.slice e)) (he : P.underlying e = some (.int .u8)) (hx : ρ' x = .string st)
    (hbl : st.data.toList.length < big) :
    Makes P ok m w (execOp ρ' op) (.cells (st.data.toList.map fun b => .int .u8 b.toNat) false)
      (fun b => .slice (some ⟨b, 0, none⟩) st.data.toList.length (growCap 1 st.data.toList.length)) := by
  let need := st.size
  let cap := need + w.tape w.drawn (.appendCap need 0 e) % (2 ^ 63 - need)
  let arr : Array Value := st.data.map (fun b => .int .u8 b.toNat) ++ Array.replicate (cap - need) (.int .u8 0)
  have harr : arr.size = cap := by
    show (st.data.map _ ++ Array.replicate (cap - need) _).size = cap
    have h1 : need ≤ cap := Nat.le_add_right _ _
    have h2 : st.data.size = need := rfl
    simp only [Array.size_append, Array.size_map, Array.size_replicate]
    omega
  refine ⟨.slice (some ⟨w.heap.size, 0, none⟩) need cap, { w with heap := w.heap.push (.cells arr e (arr.size, arr.size + 1)), drawn := w.drawn + 1 }, .cells arr e (arr.size, arr.size + 1),
    arr.size, ?_, ⟨rfl, rfl, rfl, rfl⟩, ?_, fun id _ => ?_⟩
  · have hmark : (markStringish ⟨w.heap.size, 0, none⟩).run P { w with heap := w.heap.push (.cells arr e), drawn := w.drawn + 1 } =
        .ok () { w with heap := w.heap.push (.cells arr e (arr.size, arr.size + 1)), drawn := w.drawn + 1 } := by
      have hsh : ({ w with heap := w.heap.push (.cells arr e), drawn := w.drawn + 1 } : World).shape? w.heap.size = some (e, arr.size) := by simp [World.shape?]
      simp only [markStringish, Sem.run_bind, run_shape, Result.andThen_ok, hsh, run_freeze, World.freeze, Nat.one_ne_zero, if_false]
      congr 2
      apply Array.ext_getElem?
      intro i
      rw [Array.getElem?_modify, Array.getElem?_push, Array.getElem?_push]
      by_cases hi : i = w.heap.size
      · subst hi; simp
      · rw [if_neg hi, if_neg hi, if_neg (Ne.symm hi)]
    have hstr : (Conv.stringToBytes e st).run P w = .ok (.slice (some ⟨w.heap.size, 0, none⟩) need cap)
        { w with heap := w.heap.push (.cells arr e (arr.size, arr.size + 1)), drawn := w.drawn + 1 } := by
      simp only [Conv.stringToBytes, Sem.run_bind, run_choose, Question.forced, Bool.false_eq_true, if_false, Result.andThen_ok, Question.cut, newRow_run, Sem.run_pure]
      rw [show (st.data.map (fun b => Value.int .u8 b.toNat) ++ Array.replicate (st.size + w.tape w.drawn (.appendCap st.size 0 e) % (2 ^ 63 - st.size) - st.size) (.int .u8 0)) = arr from rfl]
      rw [hmark]
      rfl
    simp only [execOp, hop, hx, convert, Sem.run_bind, run_underlying hs, run_underlying hd, Result.andThen_ok, run_underlying he, hstr]
    rfl
  · refine ⟨arr, e, _, rfl, rfl, fun i v hv => ?_, fun _ j hj => by simp only; omega⟩
    rw [List.getElem?_map, Option.map_eq_some_iff] at hv
    obtain ⟨b, hb, rfl⟩ := hv
    refine ⟨.int .u8 b.toNat, ?_, .leaf rfl⟩
    have hi : i < st.data.size := by
      have := (List.getElem?_eq_some_iff.1 hb).1; simpa using this
    rw [Nat.zero_add]
    show (st.data.map _ ++ Array.replicate (cap - need) _)[i]? = _
    rw [Array.getElem?_append_left (by simpa using hi)]
    have : st.data[i]? = some b := by simpa using hb
    simp [this]
  · have hsz : st.data.toList.length = need := by simp; rfl
    rw [hsz] at hbl ⊢
    refine .slice (Mu.ins_same m id _) ⟨Nat.le_add_right _ _, .inr ⟨growCap_ge, ?_, ?_, ?_⟩⟩ (.inl rfl)
    · rw [growCap_mod hbl]; exact Nat.le_add_right _ _
    · rw [growCap_mod hbl]; exact Nat.le_refl _
    · rw [growCap_div hbl, harr]; omega

theorem new_sim {ρ ρ' : Operand → Value} {op : Oper} {o : AO} {f : Nat → Value} (hρ : ∀ x ∈ op.op.operands.toList, VR m (ρ x) (ρ' x))
    (h : newA P ρ op.op = some (o, f)) : Makes P ok m w (execOp ρ' op) o f := by
  cases hop : op.op <;> rw [hop] at h hρ <;> simp only [newA] at h
  case alloc e =>
    split at h
    · rename_i z hz
      simp only [Option.some.injEq, Prod.mk.injEq] at h
      obtain ⟨rfl, rfl⟩ := h
      refine ⟨.pointer (some ⟨w.heap.size, 0, none⟩), _, .cells z.cells e, z.cells.size, ?_, grew_push w _, cells_BR0 (LR.cells (zero_VR hz)), fun id _ => VR.ptr0⟩
      simp only [execOp, hop, Instr.alloc, Sem.run_bind, run_zeroValue hz, Result.andThen_ok, newVar, newRow_run, Sem.run_pure]
    · simp at h
  case box e x =>
    simp only [Option.some.injEq, Prod.mk.injEq] at h
    obtain ⟨rfl, rfl⟩ := h
    refine ⟨.pointer (some ⟨w.heap.size, 0, none⟩), _, .cells (ρ' x).cells e, (ρ' x).cells.size, ?_, grew_push w _,
      cells_BR0 (LR.cells (hρ x (by simp [Op.operands]))), fun id _ => VR.ptr0⟩
    simp only [execOp, hop, Instr.box, Sem.run_bind, Result.andThen_ok, newVar, newRow_run, Sem.run_pure]
  case buildSlice t len parts =>
    split at h
    · rename_i e hu
      split at h
      · rename_i z hz
        cases hb : (Nat.ble (len * szOf P e) 16777216 && Nat.blt 0 (len * szOf P e)) with
        | true =>
          rw [hb, cond_true] at h
          simp only [Bool.and_eq_true, Nat.ble_eq, blt_true] at hb
          split at h
          · rename_i c hc
            simp only [Option.some.injEq, Prod.mk.injEq] at h
            obtain ⟨rfl, rfl⟩ := h
            obtain ⟨c', hlr, hrun⟩ := bsliceA_sim (w := w) hu hz (ρ := ρ) (ρ' := ρ') (fun p hp => hρ p.2 (by simp only [Op.operands]; exact List.mem_map.2 ⟨p, hp, rfl⟩)) hb.1 hb.2 hc
            refine ⟨_, _, .cells c' e, c'.size, by simp only [execOp, hop, Sem.run_bind, hrun]; rfl, grew_push w _, cells_BR0 hlr, fun id _ => VR.slice0 (Nat.le_refl _) ?_⟩
            have h1 := Nat.pos_of_mul_pos_right hb.2
            have h2 := Nat.le_mul_of_pos_right len (Nat.pos_of_mul_pos_left hb.2)
            unfold big; omega
          · simp at h
        | false =>
          rw [hb, cond_false] at h
          obtain ⟨hb2, h2⟩ := cond_some h
          clear h
          simp only [Bool.and_eq_true, Nat.beq_eq, List.isEmpty_iff] at hb2
          obtain ⟨rfl, hpe⟩ := hb2
          simp only [Option.some.injEq, Prod.mk.injEq] at h2
          obtain ⟨rfl, rfl⟩ := h2
          obtain ⟨hsz, hzl⟩ := zeroOf_info (w := w) hz
          have hpa : parts = #[] := by
            have : parts.toList = [] := by simpa using hpe
            exact array_ext_toList' (y := #[]) this
          subst hpa
          refine ⟨.slice (some ⟨w.heap.size, 0, none⟩) 0 0, _, .cells #[] e, 0, ?_, grew_push w _, cells_BR0 (LR.nil m), fun id _ => VR.slice0 (Nat.le_refl _) big_pos⟩
          have h0 : Array.range 0 = #[] := rfl
          simp [execOp, hop, Instr.buildSlice, run_underlying hu, hsz, Instr.fill, newRow_run, h0]
      · simp at h
    · simp at h
  case makeMap t r =>
    split at h
    · rename_i k e hu hr
      simp only [Option.some.injEq, Prod.mk.injEq] at h
      obtain ⟨rfl, rfl⟩ := h
      have hr' : r = none := by cases r <;> simp_all
      subst hr'
      refine ⟨.map (some w.heap.size), _, .map #[] 0, 0, ?_, grew_push w _, ⟨rfl, #[], rfl, rfl, fun i a _ => by simp at a⟩, fun id _ => VR.map0⟩
      simp [execOp, hop, Instr.makeMap]
    · rename_i k e j n hu hr
      simp only [Option.some.injEq, Prod.mk.injEq] at h
      obtain ⟨rfl, rfl⟩ := h
      cases r with
      | none => simp at hr
      | some x =>
        simp only [Option.map_some, Option.some.injEq] at hr
        have hx := hρ x (by simp [Op.operands])
        rw [hr] at hx
        have hx' := hx.of_isLeaf rfl
        refine ⟨.map (some w.heap.size), _, .map #[] 0, 0, ?_, grew_push w _, ⟨rfl, #[], rfl, rfl, fun i a _ => by simp at a⟩, fun id _ => VR.map0⟩
        simp [execOp, hop, Instr.makeMap, run_underlying hu, hx', asInt, asIntOf]
    · simp at h
  case makeSlice t l c =>
    split at h
    · rename_i e j1 l0 j2 c0 hu hl hc
      split at h
      · rename_i z hz
        obtain ⟨hb, h⟩ := cond_some h
        simp only [Bool.and_eq_true, Nat.ble_eq, blt_true] at hb
        obtain ⟨⟨hb1, hb2⟩, hb3⟩ := hb
        simp only [Option.some.injEq, Prod.mk.injEq] at h
        obtain ⟨rfl, rfl⟩ := h
        have hl' := hρ l (by simp [Op.operands]); rw [hl] at hl'; have hl' := hl'.of_isLeaf rfl
        have hc' := hρ c (by simp [Op.operands]); rw [hc] at hc'; have hc' := hc'.of_isLeaf rfl
        obtain ⟨hsz, hzl⟩ := zeroOf_info (w := w) hz
        obtain ⟨i, hi, _, _, _⟩ := zeroOf_some hz
        have hby : i.bytes = bytesOf P e := by simp [bytesOf, hi]
        have hzp : 0 < c0 * szOf P e → 0 < z.cells.size := by
          intro hp
          rw [← Array.length_toList, hzl]
          exact Nat.pos_of_mul_pos_left hp
        have hrow := zeroRow_eq (zc := z.cells) hzp
        have hleaf := zeroRow_leaf (zc := z.cells) hzp (leafy_cells (zeroOf_some hz).choose_spec.2.2.1)
        refine ⟨.slice (some ⟨w.heap.size, 0, none⟩) l0 c0, _, .cells ((Array.range (c0 * szOf P e)).map (z.cells[· % z.cells.size]!)) e, c0 * szOf P e, ?_, grew_push w _, ?_,
          fun id _ => VR.slice0 hb1 (by unfold big; omega)⟩
        · have w1 : IntKind.i64.wrap (Int.ofNat l0) = Int.ofNat l0 := by rw [← wrapQ_eq]; simp only [wrapQ, topOf]; rw [blt_true.2 (by omega), cond_true]
          have w2 : IntKind.i64.wrap (Int.ofNat c0) = Int.ofNat c0 := by rw [← wrapQ_eq]; simp only [wrapQ, topOf]; rw [blt_true.2 (by omega), cond_true]
          have t1 : (decide ((Int.ofNat c0) < 0) || decide ((i.bytes : Int) * (Int.ofNat c0) > 2 ^ 48)) = false := by
            simp only [Bool.or_eq_false_iff, decide_eq_false_iff_not, hby, Int.ofNat_eq_natCast]
            refine ⟨by omega, ?_⟩
            have : (bytesOf P e : Int) * (c0 : Int) = ((c0 * bytesOf P e : Nat) : Int) := by rw [Int.natCast_mul, Int.mul_comm]
            rw [this]; omega
          have t2 : ¬ ((Int.ofNat l0) < 0) := by simp
          have t3 : ¬ ((Int.ofNat l0) > Int.ofNat c0) := by simp; omega
          have hrest : ∀ (r : Sem Value) (v' : Value) (w2 : World), r.run P w = .ok v' w2 → (do pure (Next.value (← r)) : Sem Next).run P w = .ok (.value v') w2 := by
            intro r v' w2 hr; simp [hr]
          simp only [execOp, hop]
          refine hrest _ _ _ ?_
          rw [hl', hc']
          simp only [Instr.makeSlice, Sem.run_bind, run_underlying hu, Result.andThen_ok, asInt, asIntOf, Sem.run_pure, run_typeInfo hi, w1, w2, t1]
          simp only [Bool.false_eq_true, t2, t3, decide_false, Bool.or_self, if_false, Bool.false_or]
          by_cases hn : c0 * szOf P e = 0
          · have h0 : Array.range 0 = #[] := rfl
            simp [hn, newRow_run, hsz, h0]
          · simp [hn, newRow_run, hsz, run_zeroValue hz]
        · have : LR m (zeroRow z.cells.toList (c0 * szOf P e)) ((Array.range (c0 * szOf P e)).map (z.cells[· % z.cells.size]!)).toList := by
            rw [← hrow]; exact LR.of_leaf hleaf
          have hb := cells_BR0 (ok := ok) (e := e) this
          simpa using hb
      · simp at h
    · simp at h
  case convert src dst x =>
    split at h
    · rename_i e st hs hd hx
      split at h
      · rename_i he
        obtain ⟨hbl, h⟩ := cond_some h
        rw [blt_true] at hbl
        simp only [Option.some.injEq, Prod.mk.injEq] at h
        obtain ⟨rfl, rfl⟩ := h
        have hx' := hρ x (by simp [Op.operands]); rw [hx] at hx'; have hx' := hx'.of_isLeaf rfl
        exact stringToBytes_sim hop hs hd he hx' hbl
      · simp at h
    · simp at h
  case range t x =>
    split at h
    · rename_i st hu hx
      simp only [Option.some.injEq, Prod.mk.injEq] at h
      obtain ⟨rfl, rfl⟩ := h
      have hx' := hρ x (by simp [Op.operands]); rw [hx] at hx'; have hx' := hx'.of_isLeaf rfl
      refine ⟨.pointer (some ⟨w.heap.size, 0, none⟩), _, .stringIter st 0, 0, ?_, grew_push w _, ⟨rfl, rfl⟩, fun id _ => VR.ptr0⟩
      simp [execOp, hop, Instr.range, run_underlying hu, hx']
    · simp at h
  all_goals simp at h
end
end Go.Sv

/- Operations that write, as the machine carries them out. -/
namespace Go.Sv
open Go.RowKit (Below)

section
variable {P : Program} {ok : Cx} {w w' : World} {m : Mu} {B : Nat} {s : S}

/-- What an operation that writes comes to. -/
def Acts (P : Program) (ok : Cx) (m : Mu) (B : Nat) (w : World) (r : Sem Next) (v : Value) (s' : S) : Prop :=
  ∃ m' v' w' nx, r.run P w = .ok nx w' ∧ (nx = .value v' ∨ nx = .skip ∧ v' = undef) ∧ m.le m' ∧ VR m' v v' ∧ SR P ok m' B s' w' ∧ Below B w w'

theorem oneC_VR {v v' : Value} (h : VR m v v') (hv : oneC v = true) : v'.oneCell' = true := by
  cases h with
  | @leaf v hl => cases v <;> simp_all [isLeaf, Value.oneCell', oneC]
  | ptr _ => rfl
  | slice _ _ _ => rfl
  | map _ => rfl
  | func _ _ _ _ _ => rfl
  | iface _ => rfl
  | agg _ _ => simp [oneC] at hv
  | tuple _ _ => simp [oneC] at hv

theorem over_toArray_set {c : Array Value} {o : Nat} {v : Value} {vs : List Value} (h : o + 1 + vs.length ≤ c.size) :
    over (c.setIfInBounds o v).toList (o + 1) vs = over c.toList o (v :: vs) := by
  apply List.ext_getElem?
  intro i
  rw [over_getElem? (by simp; omega), over_getElem? (by simp; omega)]
  simp only [List.length_cons, Array.toList_setIfInBounds, List.getElem?_set]
  by_cases h1 : o + 1 ≤ i ∧ i < o + 1 + vs.length
  · rw [if_pos h1, if_pos (by omega)]
    have : i - o = (i - (o + 1)) + 1 := by omega
    rw [this, List.getElem?_cons_succ]
  · rw [if_neg h1]
    by_cases h2 : o = i
    · subst h2
      rw [if_pos rfl, if_pos (by simp; omega), if_pos (by omega)]
      simp
    · rw [if_neg h2, if_neg (by omega)]

theorem run_storeCells_blk (g : Nat) (e : TypeId) (fz : Nat × Nat) : ∀ (vs : List Value) (i o : Nat) (c : Array Value) (w : World), w.heap[g]? = some (.cells c e fz) →
    o + i + vs.length ≤ c.size → (∀ v ∈ vs, v.oneCell' = true) → (∀ j, j < vs.length → ¬(fz.1 ≤ o + i + j ∧ o + i + j < fz.2)) →
    ∃ w', (storeCells ⟨g, o, none⟩ vs i).run P w = .ok () w' ∧ Wrote w w' g (.cells (over c.toList (o + i) vs).toArray e fz)
  | [], i, o, c, w, hg, _, _, _ => by
    refine ⟨w, rfl, ?_, rfl, rfl, rfl⟩
    have : over c.toList (o + i) [] = c.toList := by simp [over]
    rw [this]
    apply Array.ext_getElem?
    intro k
    rw [Array.getElem?_setIfInBounds]
    by_cases hk : g = k
    · subst hk
      have hlt : g < w.heap.size := by
        rcases Nat.lt_or_ge g w.heap.size with h | h
        · exact h
        · rw [Array.getElem?_eq_none h] at hg; cases hg
      rw [if_pos rfl, if_pos hlt, hg]
    · rw [if_neg hk]
  | v :: vs, i, o, c, w, hg, hl, h1, hf => by
    simp only [List.length_cons] at hl hf
    have hcell : w.cell? ⟨g, o + i, none⟩ = c[o + i]? := cell_heap hg
    have hin : c[o + i]? = some c[o + i] := Array.getElem?_eq_getElem (by omega)
    have hfr : w.frozen? ⟨g, o + i, none⟩ = false := by
      simp only [World.frozen?, hg]
      have := hf 0 (by omega)
      simp only [Nat.add_zero] at this
      simp; omega
    have hst : (store ((⟨g, o, none⟩ : Addr).add i) v).run P w = .ok () (w.setCell ⟨g, o + i, none⟩ v) := by
      rw [addr_add, run_store _ _ _ _ _ (h1 v (by simp)), hcell, hin]
      simp [hfr]
    have hg' : (w.setCell ⟨g, o + i, none⟩ v).heap[g]? = some (.cells (c.setIfInBounds (o + i) v) e fz) := by
      simp [World.setCell, Array.getElem?_modify, hg]
    obtain ⟨w', hr, hw⟩ := run_storeCells_blk g e fz vs (i + 1) o (c.setIfInBounds (o + i) v) _ hg' (by simp; omega) (fun u hu => h1 u (by simp [hu]))
      (fun j hj => by have := hf (j + 1) (by omega); rw [show o + (i + 1) + j = o + i + (j + 1) by omega]; exact this)
    refine ⟨w', by simp only [storeCells, Sem.run_bind, hst, Result.andThen_ok, hr], ?_⟩
    have e1 : over (c.setIfInBounds (o + i) v).toList (o + (i + 1)) vs = over c.toList (o + i) (v :: vs) := by
      rw [show o + (i + 1) = o + i + 1 by omega]; exact over_toArray_set (by omega)
    rw [e1] at hw
    refine ⟨?_, hw.os, hw.tape, hw.output⟩
    rw [hw.heap]
    apply Array.ext_getElem?
    intro k
    simp only [Array.getElem?_setIfInBounds, World.setCell, Array.getElem?_modify, Array.size_modify]
    by_cases hk : g = k
    · simp [hk]
    · simp [hk]

/-- A store of several cells. -/
theorem storeN_sim {b o rb ro z : Nat} {vs vs' : List Value} {s' : S} (h : SR P ok m B s w) (hm : m b = some (rb, ro, z)) (hv : LR m vs vs') (hs : storeN s b o vs = some s') :
    ∃ w', (storeCells ⟨rb, ro + o, none⟩ vs' 0).run P w = .ok () w' ∧ SR P ok m B s' w' ∧ Below B w w' := by
  unfold storeN at hs
  split at hs
  · rename_i c hg
    obtain ⟨hb, hs⟩ := cond_some hs
    simp only [Bool.and_eq_true, Nat.ble_eq, List.all_eq_true] at hb
    obtain ⟨hb1, hb2⟩ := hb
    simp only [Option.some.injEq] at hs; subst hs
    obtain ⟨c', e, fz, h1, h2, h3, h4⟩ := h.cells hm hg
    have hvl := hv.1
    have hone : ∀ v ∈ vs', v.oneCell' = true := by
      intro v hvm
      obtain ⟨i, hi, rfl⟩ := List.getElem_of_mem hvm
      exact oneC_VR (hv.2 i (by omega) hi) (hb2 _ (List.getElem_mem _))
    have hbound : vs'.length = 0 ∨ ro + o + vs'.length ≤ c'.size := by
      by_cases h0 : vs'.length = 0
      · exact .inl h0
      · right
        have hc : c[o + vs.length - 1]? = some c[o + vs.length - 1] := List.getElem?_eq_getElem (by omega)
        obtain ⟨u, hu, _⟩ := h3 _ _ hc
        have := (Array.getElem?_eq_some_iff.1 hu).1
        omega
    rcases hbound with h0 | hbd
    · have hn' : vs' = [] := List.length_eq_zero_iff.1 h0
      have hn : vs = [] := List.length_eq_zero_iff.1 (by omega)
      subst hn; subst hn'
      refine ⟨w, rfl, ?_⟩
      have : over c o [] = c := by simp [over]
      rw [this]
      have hwr : Wrote w w rb (.cells c' e fz) := by
        refine ⟨?_, rfl, rfl, rfl⟩
        apply Array.ext_getElem?
        intro k
        rw [Array.getElem?_setIfInBounds]
        by_cases hk : rb = k
        · subst hk; rw [if_pos rfl, if_pos (h.dom _ _ _ _ hm).2, h1]
        · rw [if_neg hk]
      exact h.put hm hg rfl hwr (by rw [← h1]; exact h.blk _ _ _ _ _ hm hg)
    · obtain ⟨w', hr, hw⟩ := run_storeCells_blk (P := P) rb e fz vs' 0 (ro + o) c' w h1 (by omega) hone (fun j hj => h4 rfl _ (by omega))
      refine ⟨w', hr, ?_⟩
      refine h.put hm hg rfl hw ⟨_, e, fz, rfl, ?_, ?_, h4⟩
      · rw [List.size_toArray, over_length (by simp; omega)]; simpa using h2
      · intro i v hi
        rw [over_getElem? hb1] at hi
        simp only [Nat.add_zero, List.getElem?_toArray]
        rw [over_getElem? (by simp; omega)]
        by_cases hin : o ≤ i ∧ i < o + vs.length
        · rw [if_pos hin] at hi
          obtain ⟨v', hv', hr'⟩ := hv.getElem? hi
          exact ⟨v', by rw [if_pos (by omega), show ro + i - (ro + o) = i - o by omega]; exact hv', hr'⟩
        · rw [if_neg hin] at hi
          obtain ⟨v', hv', hr'⟩ := h3 _ _ hi
          exact ⟨v', by rw [if_neg (by omega)]; simpa using hv', hr'⟩
  · simp at hs

theorem store1_sim {b o rb ro z : Nat} {v v' : Value} {s' : S} (h : SR P ok m B s w) (hm : m b = some (rb, ro, z)) (hv : VR m v v') (hone : oneC v = true)
    (hs : store1 s b o v = some s') : ∃ w', (storeCells ⟨rb, ro + o, none⟩ [v'] 0).run P w = .ok () w' ∧ SR P ok m B s' w' ∧ Below B w w' := by
  refine storeN_sim h hm (.one hv) ?_
  unfold store1 at hs
  unfold storeN
  split at hs
  · rename_i c hg
    obtain ⟨hb, hs⟩ := cond_some hs
    rw [blt_true] at hb
    have hg' : (Nat.ble (o + [v].length) c.length && [v].all oneC) = true := by
      simp [hone, Nat.ble_eq]; omega
    simp only [hg', cond_true]
    rw [← hs]
    congr 3
    apply List.ext_getElem?
    intro i
    rw [over_getElem? (by simp; omega), List.getElem?_set]
    by_cases h1 : o = i
    · subst h1; simp [hb]
    · rw [if_neg (by simp; omega), if_neg h1]
  · simp at hs

theorem storeVar_run {t : TypeId} {a : Addr} {v : Value} (hk : known P t = true) (h : v.cells.size = szOf P t) :
    (storeVar t a v).run P w = (storeCells a v.cells.toList).run P w := by
  have hsz : ¬ v.cells.size ≠ szOf P t := by simp [h]
  simp only [storeVar, Sem.run_bind, run_sizeOf hk, Result.andThen_ok]
  rw [if_neg hsz]

theorem storeA_sim {t : TypeId} {a a' v v' : Value} {s' : S} (h : SR P ok m B s w) (ha : VR m a a') (hv : VR m v v') (hs : storeA P s t a v = some s') :
    ∃ w', (Instr.storeAt t a' v').run P w = .ok () w' ∧ SR P ok m B s' w' ∧ Below B w w' := by
  unfold storeA at hs
  split at hs
  · rename_i b o
    obtain ⟨hk, hs⟩ := cond_some hs
    obtain ⟨b', o', rb, ro, z, he, hm, rfl⟩ := ha.ptr_inv
    cases he
    cases hag : aggB P t with
    | true =>
      rw [hag, cond_true] at hs
      split at hs
      · rename_i x
        obtain ⟨hb, hs⟩ := cond_some hs
        rw [Nat.beq_eq] at hb
        obtain ⟨x', rfl, hx⟩ := hv.agg_inv
        obtain ⟨w', hr, hsr, hbl⟩ := storeN_sim h hm hx hs
        refine ⟨w', ?_, hsr, hbl⟩
        have hsz : (Value.agg x').cells.size = szOf P t := by
          have := hx.1; simp only [Value.cells]; simp at this hb ⊢; omega
        simp only [Instr.storeAt, Instr.sureAddr, Sem.run_bind, Sem.run_pure, Result.andThen_ok, storeVar_run hk hsz]
        exact hr
      · simp at hs
    | false =>
      rw [hag, cond_false] at hs
      obtain ⟨hb, hs⟩ := cond_some hs
      rw [Nat.beq_eq] at hb
      have hone : oneC v = true := by
        split at hs
        · simp at hs
        · simp at hs
        · cases v <;> simp_all [oneC]
      have hs' : store1 s b o v = some s' := by
        split at hs
        · simp at hs
        · simp at hs
        · exact hs
      obtain ⟨w', hr, hsr, hbl⟩ := store1_sim h hm hv hone hs'
      refine ⟨w', ?_, hsr, hbl⟩
      have hcells : v'.cells = #[v'] := by
        have := oneC_VR hv hone
        cases v' <;> simp_all [Value.oneCell', Value.cells]
      have hsz : ¬ v'.cells.size ≠ szOf P t := by rw [hcells, hb]; simp
      simp only [Instr.storeAt, Instr.sureAddr, Sem.run_bind, Sem.run_pure, Result.andThen_ok, storeVar, run_sizeOf hk]
      rw [if_neg hsz, hcells]
      exact hr
  · simp at hs
end
end Go.Sv

/- Maps that are written, iterators that are moved, as the machine carries them out. -/
namespace Go.Sv
open Go.RowKit (Below)

section
variable {P : Program} {ok : Cx} {w w' : World} {m : Mu} {B : Nat} {s : S}

theorem run_setObj {r : Nat} {o o2 : Obj} (h : w.heap[r]? = some o) (hc : ∀ c e f, o ≠ .cells c e f) :
    (setObj r o2).run P w = .ok () { w with heap := w.heap.setIfInBounds r o2 } := by
  cases o <;> first | (simp only [setObj, Sem.run, h]; done) | exact absurd rfl (hc _ _ _)

theorem wrote_set (w : World) (r : Nat) (o : Obj) : Wrote w { w with heap := w.heap.setIfInBounds r o } r o := ⟨rfl, rfl, rfl, rfl⟩

theorem byteArray_beq {a b : ByteArray} (h : (a == b) = true) : a = b := by
  obtain ⟨a⟩ := a
  obtain ⟨b⟩ := b
  have h' : (a == b) = true := h
  rw [eq_of_beq h']
theorem byteArray_beq_refl (a : ByteArray) : (a == a) = true := by
  obtain ⟨a⟩ := a
  have h : (a == a) = true := by simp
  exact h

theorem sameNow_true {d : TypeDesc} {a b : Value} (h : Instr.sameNow d a b = some true) : a = b ∧ ∀ n, Instr.sameBits n a b = true := by
  unfold Instr.sameNow at h
  split at h
  · split at h
    · rename_i hk
      simp only [Option.some.injEq, beq_iff_eq] at h
      subst hk; subst h
      exact ⟨rfl, fun n => by cases n <;> simp [Instr.sameBits]⟩
    · simp at h
  · simp only [Option.some.injEq] at h
    have h := byteArray_beq h
    subst h
    exact ⟨rfl, fun n => by cases n <;> simp [Instr.sameBits, byteArray_beq_refl]⟩
  · simp only [Option.some.injEq, beq_iff_eq] at h
    subst h
    exact ⟨rfl, fun n => by cases n <;> simp [Instr.sameBits]⟩
  · simp at h

/-- The entry that a search finds bears the very key. -/
theorem findNow_key {d : TypeDesc} {k : Value} : ∀ (es : List MapEntry) (i j : Nat) (v : Value), Instr.findNow d k es i = some (some (j, v)) →
    i ≤ j ∧ ∃ e, es[j - i]? = some e ∧ e.key = k ∧ e.val = v ∧ ∀ n, Instr.sameBits n e.key k = true
  | [], i, j, v, h => by simp [Instr.findNow] at h
  | e :: es, i, j, v, h => by
    simp only [Instr.findNow] at h
    split at h
    · rename_i hs
      simp only [Option.some.injEq, Prod.mk.injEq] at h
      obtain ⟨rfl, rfl⟩ := h
      obtain ⟨h1, h2⟩ := sameNow_true hs
      subst h1
      exact ⟨Nat.le_refl _, e, by simp, rfl, rfl, h2⟩
    · obtain ⟨h1, e', h2, h3⟩ := findNow_key es (i + 1) j v h
      exact ⟨by omega, e', by rw [show j - i = (j - (i + 1)) + 1 by omega]; simpa using h2, h3⟩
    · simp at h

theorem EntsR.modify {es : List MapEntry} {es' : Array MapEntry} {i : Nat} {k v v' : Value} (h : EntsR m es es'.toList) (hk : ∀ e, es[i]? = some e → e.key = k) (hv : VR m v v') :
    EntsR m (mapPut es i v) (es'.modify i fun e => { e with key := k, val := v' }).toList := by
  refine ⟨by have := h.1; simp [mapPut]; simpa using this, fun j a b => ?_⟩
  have ha : j < es.length := by simpa [mapPut] using a
  have hb : j < es'.toList.length := by have := h.1; omega
  have hj := h.2 j ha hb
  simp only [mapPut, List.getElem_modify, Array.getElem_toList, Array.getElem_modify]
  by_cases hij : i = j
  · subst hij
    simp only [if_true]
    have hke := hk _ (List.getElem?_eq_getElem ha)
    exact ⟨by simp [hke], hj.leaf, hv, hj.born⟩
  · simp only [hij, if_false]
    exact hj

theorem EntsR.same {es : List MapEntry} {es' : Array MapEntry} {i : Nat} {k : Value} (h : EntsR m es es'.toList) (hk : ∀ e, es[i]? = some e → e.key = k) :
    EntsR m es (es'.modify i fun e => { e with key := k }).toList := by
  refine ⟨by have := h.1; simpa using this, fun j a b => ?_⟩
  have hb : j < es'.toList.length := by have := h.1; omega
  have hj := h.2 j a hb
  simp only [Array.getElem_toList, Array.getElem_modify]
  by_cases hij : i = j
  · subst hij
    simp only [if_true]
    have hke := hk _ (List.getElem?_eq_getElem a)
    exact ⟨by simp [hke], hj.leaf, hj.val, hj.born⟩
  · simp only [hij, if_false]
    exact hj

theorem EntsR.push {es : List MapEntry} {es' : Array MapEntry} {e e' : MapEntry} (h : EntsR m es es'.toList) (he : EntR m e e') :
    EntsR m (es ++ [e]) (es'.push e').toList := by
  have hl := h.1
  refine ⟨by simp; simpa using hl, fun j a b => ?_⟩
  simp only [Array.toList_push]
  rw [List.getElem_append, List.getElem_append]
  by_cases hj : j < es.length
  · rw [dif_pos hj, dif_pos (by omega)]; exact h.2 _ _ _
  · rw [dif_neg hj, dif_neg (by omega)]
    simp at a
    have e1 : j - es.length = 0 := by omega
    have e2 : j - es'.toList.length = 0 := by omega
    simp only [e1, e2]
    exact he

theorem mapUpdateA_sim {t : TypeId} {mv mv' k k' v v' : Value} {s' : S} (h : SR P ok m B s w) (hmv : VR m mv mv') (hk : VR m k k') (hv : VR m v v')
    (hs : mapUpdateA P s t mv k v = some s') : ∃ w', (Instr.mapUpdate t mv' k' v').run P w = .ok () w' ∧ SR P ok m B s' w' ∧ Below B w w' := by
  unfold mapUpdateA at hs
  split at hs
  · rename_i key elem r hu
    obtain ⟨r', rfl, hr⟩ := hmv.map_inv
    split at hs
    · rename_i kind es clock hkind hg
      obtain ⟨es', h1, h2⟩ := h.mapAt hr hg
      obtain ⟨z, hz⟩ := hr
      have hke := (keyKind_some hkind).1
      have hck := checkKey_run (P := P) (w := w) (e := false) (k := k') 9999 hkind
      split at hs
      · rename_i j v0 hfn
        simp only [Option.some.injEq] at hs; subst hs
        have hne : es ≠ [] := by rintro rfl; simp [Instr.findNow] at hfn
        have hkl := findNow_leaf es 0 _ hne hfn
        have hkk := (hk.of_isLeaf hkl).symm
        subst hkk
        obtain ⟨_, e, he1, he2, he3, he4⟩ := findNow_key es 0 j v0 hfn
        rcases findNow_sim (m := m) rfl es es'.toList 0 _ h2 hfn with ⟨hn, _⟩ | ⟨j', v1, v1', g1, g2, g3, g4, g5⟩
        · simp at hn
        · simp only [Option.some.injEq, Prod.mk.injEq] at g1
          obtain ⟨rfl, rfl⟩ := g1
          simp only [Nat.sub_zero] at he1
          have hjl : j < es'.size := by have := h2.1; simp at this; omega
          have hej := h2.2 j (by omega) (by simpa using hjl)
          have hek : es'[j]?.map (·.key) = some k := by
            rw [Array.getElem?_eq_getElem hjl]
            simp only [Option.map_some, Option.some.injEq]
            have := hej.key
            rw [Array.getElem_toList] at this
            rw [this]
            have : es[j] = e := by rw [List.getElem?_eq_getElem (by omega)] at he1; simpa using he1
            rw [this, he2]
          have hst : (Instr.keyThatStays k k).run P w = .ok k w := by
            have := he4 10000
            rw [he2] at this
            simp [Instr.keyThatStays, this]
          refine ⟨{ w with heap := w.heap.setIfInBounds r' (.map (es'.modify j fun e => { e with key := k, val := v' }) clock) }, ?_, ?_⟩
          · simp only [Instr.mapUpdate, Sem.run_bind, run_underlying hu, Result.andThen_ok, run_getObj h1 (by simp), hck, Instr.findKey, run_underlying hke, g2, Sem.run_pure]
            simp only [hek, Option.getD_some, hst, Result.andThen_ok, run_setObj h1 (by simp)]
          · exact h.put hz hg rfl (wrote_set w r' _) ⟨rfl, _, rfl, h2.modify (fun e' he' => by rw [he1, Option.some.injEq] at he'; subst he'; exact he2) hv⟩
      · rename_i hfn
        obtain ⟨hkl, hs⟩ := cond_some hs
        simp only [Option.some.injEq] at hs; subst hs
        have hkk := (hk.of_isLeaf hkl).symm
        subst hkk
        rcases findNow_sim (m := m) rfl es es'.toList 0 _ h2 hfn with ⟨_, g2⟩ | ⟨j', v1, v1', g1, _⟩
        · refine ⟨{ w with heap := w.heap.setIfInBounds r' (.map (es'.push { key := k, val := v', born := clock }) (clock + 1)) }, ?_, ?_⟩
          · simp only [Instr.mapUpdate, Sem.run_bind, run_underlying hu, Result.andThen_ok, run_getObj h1 (by simp), hck, Instr.findKey, run_underlying hke, g2, Sem.run_pure]
            simp only [run_setObj h1 (by simp)]
          · exact h.put hz hg rfl (wrote_set w r' _) ⟨rfl, _, rfl, h2.push ⟨rfl, hkl, hv, rfl⟩⟩
        · simp at g1
      · simp at hs
    · simp at hs
  · simp at hs

theorem mapEntryA_sim {t : TypeId} {mv mv' k k' v : Value} {s' : S} (h : SR P ok m B s w) (hmv : VR m mv mv') (hk : VR m k k')
    (hs : mapEntryA P s t mv k = some (v, s')) : ∃ v' w', (Instr.mapEntry t mv' k').run P w = .ok v' w' ∧ VR m v v' ∧ SR P ok m B s' w' ∧ Below B w w' := by
  unfold mapEntryA at hs
  split at hs
  · rename_i key elem r hu
    obtain ⟨r', rfl, hr⟩ := hmv.map_inv
    split at hs
    · rename_i kind es clock zv hkind hg hzv
      obtain ⟨es', h1, h2⟩ := h.mapAt hr hg
      obtain ⟨z, hz⟩ := hr
      have hke := (keyKind_some hkind).1
      have hck := checkKey_run (P := P) (w := w) (e := false) (k := k') 9999 hkind
      split at hs
      · rename_i j v0 hfn
        have hne : es ≠ [] := by rintro rfl; simp [Instr.findNow] at hfn
        have hkl := findNow_leaf es 0 _ hne hfn
        have hkk := (hk.of_isLeaf hkl).symm
        subst hkk
        obtain ⟨_, e, he1, he2, he3, he4⟩ := findNow_key es 0 j v0 hfn
        simp only [Nat.sub_zero] at he1
        simp only [he1, Option.some.injEq, Prod.mk.injEq] at hs
        obtain ⟨rfl, rfl⟩ := hs
        rcases findNow_sim (m := m) rfl es es'.toList 0 _ h2 hfn with ⟨hn, _⟩ | ⟨j', v1, v1', g1, g2, g3, g4, g5⟩
        · simp at hn
        · simp only [Option.some.injEq, Prod.mk.injEq] at g1
          obtain ⟨rfl, rfl⟩ := g1
          have hjl : j < es'.size := by have := h2.1; simp at this; omega
          have hej := h2.2 j (by omega) (by simpa using hjl)
          have hee : es[j] = e := by rw [List.getElem?_eq_getElem (by omega)] at he1; simpa using he1
          rw [hee, Array.getElem_toList] at hej
          have hek : es'[j]?.map (·.key) = some k := by
            rw [Array.getElem?_eq_getElem hjl]
            simp [hej.key, he2]
          have heb : es'[j]?.map (fun x => (x.born : Int)) = some (e.born : Int) := by
            rw [Array.getElem?_eq_getElem hjl]
            simp [hej.born]
          have hst : (Instr.keyThatStays k k).run P w = .ok k w := by
            have := he4 10000
            rw [he2] at this
            simp [Instr.keyThatStays, this]
          refine ⟨.tuple #[v1', .int .i64 e.born], { w with heap := w.heap.setIfInBounds r' (.map (es'.modify j fun e => { e with key := k }) clock) }, ?_,
            LR.tuple (.cons g3 (.one (.leaf rfl))), ?_⟩
          · simp only [Instr.mapEntry, Sem.run_bind, run_underlying hu, Result.andThen_ok, run_getObj h1 (by simp), hck, Instr.findKey, run_underlying hke, g2, Sem.run_pure]
            simp only [hek, heb, Option.getD_some, hst, Result.andThen_ok, run_setObj h1 (by simp)]
            rfl
          · exact h.put hz hg rfl (wrote_set w r' _) ⟨rfl, _, rfl, h2.same (fun e' he' => by rw [he1, Option.some.injEq] at he'; subst he'; exact he2)⟩
      · rename_i hfn
        obtain ⟨hkl, hs⟩ := cond_some hs
        simp only [Option.some.injEq, Prod.mk.injEq] at hs
        obtain ⟨rfl, rfl⟩ := hs
        have hkk := (hk.of_isLeaf hkl).symm
        subst hkk
        rcases findNow_sim (m := m) rfl es es'.toList 0 _ h2 hfn with ⟨_, g2⟩ | ⟨j', v1, v1', g1, _⟩
        · refine ⟨.tuple #[zv, .int .i64 clock], { w with heap := w.heap.setIfInBounds r' (.map (es'.push { key := k, val := zv, born := clock }) (clock + 1)) }, ?_,
            LR.tuple (.cons (zero_VR hzv) (.one (.leaf rfl))), ?_⟩
          · simp only [Instr.mapEntry, Sem.run_bind, run_underlying hu, Result.andThen_ok, run_getObj h1 (by simp), hck, Instr.findKey, run_underlying hke, g2, Sem.run_pure, run_zeroValue hzv]
            simp only [run_setObj h1 (by simp), Result.andThen_ok]
            rfl
          · exact h.put hz hg rfl (wrote_set w r' _) ⟨rfl, _, rfl, h2.push ⟨rfl, hkl, zero_VR hzv, rfl⟩⟩
        · simp at g1
      · simp at hs
    · simp at hs
  · simp at hs
end
end Go.Sv

/- Iterators that are moved, rows that grow, as the machine carries them out. -/
namespace Go.Sv
open Go.RowKit (Below)

section
variable {P : Program} {ok : Cx} {w w' : World} {m : Mu} {B : Nat} {s : S}

theorem SR.of_heap (h : SR P ok m B s w) (hh : w'.heap = w.heap) : SR P ok m B s w' :=
  ⟨fun b rb ro z hm => by rw [hh]; exact h.dom _ _ _ _ hm, fun b rb ro z o hm hg => by rw [hh]; exact h.blk _ _ _ _ _ hm hg, h.own, h.inj, h.glob, h.res, h.ent, h.old⟩

theorem entryStoreA_sim {t : TypeId} {mv mv' st st' v v' : Value} {s' : S} (h : SR P ok m B s w) (hmv : VR m mv mv') (hst : VR m st st') (hv : VR m v v')
    (hs : entryStoreA s mv st v = some s') : ∃ w', (Instr.entryStore t mv' st' v').run P w = .ok () w' ∧ SR P ok m B s' w' ∧ Below B w w' := by
  unfold entryStoreA at hs
  split at hs
  · rename_i r k born
    obtain ⟨r', rfl, hr⟩ := hmv.map_inv
    cases hst.of_isLeaf rfl
    split at hs
    · rename_i es clock hg
      obtain ⟨es', h1, h2⟩ := h.mapAt hr hg
      obtain ⟨z, hz⟩ := hr
      split at hs
      · rename_i i hi
        simp only [Option.some.injEq] at hs; subst hs
        have hfind : ∀ (es es' : List MapEntry), EntsR m es es' → es'.findIdx? (fun e => (e.born : Int) == born) = es.findIdx? (fun e => (e.born : Int) == born) := by
          intro es
          induction es with
          | nil => intro es' hr; have : es' = [] := by have := hr.1; simpa using this.symm
                   subst this; rfl
          | cons a es ih =>
            intro es' hr
            cases es' with
            | nil => have := hr.1; simp at this
            | cons a' es' =>
              have h0 := hr.2 0 (by simp) (by simp)
              simp only [List.getElem_cons_zero] at h0
              have hr' : EntsR m es es' := ⟨by have := hr.1; simpa using this, fun j p q => hr.2 (j + 1) (by simpa using p) (by simpa using q)⟩
              simp only [List.findIdx?_cons, h0.born, ih es' hr']
        have hi' : es'.findIdx? (fun e => (e.born : Int) == born) = some i := by
          have := hfind _ _ h2
          rw [hi] at this
          rw [← List.findIdx?_toArray] at this
          exact this
        refine ⟨{ w with heap := w.heap.setIfInBounds r' (.map (es'.modify i fun e => { e with val := v' }) clock) }, ?_, ?_⟩
        · simp only [Instr.entryStore, Sem.run_bind, run_getObj h1 (by simp), Result.andThen_ok, asInt, asIntOf, Sem.run_pure, hi', run_setObj h1 (by simp)]
        · refine h.put hz hg rfl (wrote_set w r' _) ⟨rfl, _, rfl, ?_⟩
          refine ⟨by have := h2.1; simp [mapPut]; simpa using this, fun j a b => ?_⟩
          have ha : j < es.length := by simpa [mapPut] using a
          have hb : j < es'.toList.length := by have := h2.1; omega
          have hj := h2.2 j ha hb
          simp only [mapPut, List.getElem_modify, Array.getElem_toList, Array.getElem_modify]
          by_cases hij : i = j
          · simp only [hij, if_true]; exact ⟨hj.key, hj.leaf, hv, hj.born⟩
          · simp only [hij, if_false]; exact hj
      · simp at hs
    · simp at hs
  · simp at hs

theorem deleteA_sim {ts : Array TypeId} {t u : TypeId} {mv mv' k k' : Value} {xs : Array Value} {s' : S} (ht : ts.toList[0]? = some t) (hx0 : xs.toList[0]? = some mv')
    (hx1 : xs.toList[1]? = some k') (h : SR P ok m B s w) (hmv : VR m mv mv') (hk : VR m k k')
    (hs : deleteA P s t mv k = some s') : ∃ w', (Builtin.delete_ ts u xs).run P w = .ok undef w' ∧ SR P ok m B s' w' ∧ Below B w w' := by
  have ht' : ts[0]? = some t := by simpa using ht
  have hx0' : xs[0]? = some mv' := by simpa using hx0
  have hx1' : xs[1]? = some k' := by simpa using hx1
  unfold deleteA at hs
  split at hs
  · rename_i key elem hu
    split at hs
    · rename_i kind hkind
      simp only [Option.some.injEq] at hs; subst hs
      cases hmv.of_isLeaf rfl
      have hck := checkKey_run (P := P) (w := w) (e := true) (k := k') 9999 hkind
      refine ⟨w, ?_, h, Below.refl _ _⟩
      simp only [Builtin.delete_, ht', hx0', hx1', Sem.run_bind, run_underlying hu, Result.andThen_ok, hck]
      rfl
    · rename_i kind r hkind
      obtain ⟨r', rfl, hr⟩ := hmv.map_inv
      split at hs
      · rename_i es clock hg
        obtain ⟨es', h1, h2⟩ := h.mapAt hr hg
        obtain ⟨z, hz⟩ := hr
        have hke := (keyKind_some hkind).1
        have hck := checkKey_run (P := P) (w := w) (e := es'.isEmpty) (k := k') 9999 hkind
        split at hs
        · rename_i j v0 hfn
          simp only [Option.some.injEq] at hs; subst hs
          have hne : es ≠ [] := by rintro rfl; simp [Instr.findNow] at hfn
          have hkk := hk.of_isLeaf (findNow_leaf es 0 _ hne hfn)
          rcases findNow_sim (m := m) hkk es es'.toList 0 _ h2 hfn with ⟨hn, _⟩ | ⟨j', v1, v1', g1, g2, g3, g4, g5⟩
          · simp at hn
          · simp only [Option.some.injEq, Prod.mk.injEq] at g1
            obtain ⟨rfl, rfl⟩ := g1
            refine ⟨{ w with heap := w.heap.setIfInBounds r' (.map (es'.eraseIdxIfInBounds j) clock) }, ?_, ?_⟩
            · simp only [Builtin.delete_, ht', hx0', hx1', Sem.run_bind, run_underlying hu, Result.andThen_ok, run_getObj h1 (by simp), hck, Instr.findKey, run_underlying hke, g2, Sem.run_pure,
                run_setObj h1 (by simp)]
              rfl
            · refine h.put hz hg rfl (wrote_set w r' _) ⟨rfl, _, rfl, ?_⟩
              rw [Array.toList_eraseIdxIfInBounds]
              have hl := h2.1
              refine ⟨by rw [List.length_eraseIdx, List.length_eraseIdx, hl], fun i a b => ?_⟩
              rw [List.getElem_eraseIdx, List.getElem_eraseIdx]
              split
              · exact h2.2 _ _ _
              · exact h2.2 _ _ _
        · rename_i hfn
          simp only [Option.some.injEq] at hs; subst hs
          have g2 : Instr.findNow kind k' es'.toList 0 = some none := by
            by_cases hne : es = []
            · subst hne
              have : es'.toList = [] := by have := h2.1; simpa using this.symm
              rw [this]; rfl
            · have hkk := hk.of_isLeaf (findNow_leaf es 0 _ hne hfn)
              rcases findNow_sim (m := m) hkk es es'.toList 0 _ h2 hfn with ⟨_, g2⟩ | ⟨j', v1, v1', g1, _⟩
              · exact g2
              · simp at g1
          refine ⟨{ w with heap := w.heap.setIfInBounds r' (.map es' clock) }, ?_, ?_⟩
          · simp only [Builtin.delete_, ht', hx0', hx1', Sem.run_bind, run_underlying hu, Result.andThen_ok, run_getObj h1 (by simp), hck, Instr.findKey, run_underlying hke, g2, Sem.run_pure,
              run_setObj h1 (by simp)]
            rfl
          · exact h.put hz hg rfl (wrote_set w r' _) ⟨rfl, _, rfl, h2⟩
        · simp at hs
      · simp at hs
    · simp at hs
  · simp at hs

/-! #### Rows -/

theorem firstCells_sim {sz n : Nat} {x x' : Value} {l : List Value} (h : SR P ok m B s w) (hx : VR m x x') (hn : ∀ a k c, x = .slice a k c → n ≤ k)
    (hl : rowOf s sz n x = some l) : ∃ a : Array Value, (Builtin.firstCells sz n x').run P w = .ok a w ∧ LR m l a.toList := by
  unfold rowOf at hl
  split at hl
  · rename_i b o k c
    obtain ⟨b', o1, rb, ro, z, o', cap', hab, hm, rfl, hcap, ho⟩ := hx.slice_inv
    cases hab
    cases hb : Nat.beq n 0 with
    | true =>
      rw [hb, cond_true, Option.some.injEq] at hl; subst hl
      have := Nat.eq_of_beq_eq_true hb
      subst this
      refine ⟨#[], ?_, LR.nil m⟩
      simp only [Builtin.firstCells, Nat.zero_mul]
      rfl
    | false =>
      rw [hb, cond_false] at hl
      have hn0 : n ≠ 0 := by rintro rfl; simp at hb
      have hk := hn _ _ _ rfl
      have ho' : o' = ro + o := ho.resolve_right (by have := hcap.1; omega)
      subst ho'
      obtain ⟨l', hlr, hlen, hc⟩ := loadN_sim h hm hl
      exact ⟨l'.toArray, run_loadCells' (by rw [← hlr.1]; exact hlen) hc, by simpa using hlr⟩
  · simp only [Option.some.injEq] at hl; subst hl
    cases hx.of_isLeaf rfl
    exact ⟨#[], rfl, LR.nil m⟩
  · rename_i st
    simp only [Option.some.injEq] at hl; subst hl
    cases hx.of_isLeaf rfl
    refine ⟨(st.extract 0 n).data.map fun b => .int .u8 b.toNat, rfl, ?_⟩
    have : ((st.extract 0 n).data.map fun b => Value.int .u8 b.toNat).toList = (st.data.toList.take n).map fun b => Value.int .u8 b.toNat := by
      simp [ByteArray.data_extract]
    rw [this]
    exact LR.of_leaf (by rw [List.all_eq_true]; intro v hv; rw [List.mem_map] at hv; obtain ⟨b, _, rfl⟩ := hv; rfl)
  · simp at hl

theorem rowOf_length {sz n : Nat} {x : Value} {l : List Value} (hn : ∀ k, lenOfA x = some k → n ≤ k) (h1 : ∀ st, x = .string st → sz = 1)
    (hnil : ∀ k c, x = .slice none k c → n = 0) (hl : rowOf s sz n x = some l) : l.length = n * sz := by
  unfold rowOf at hl
  split at hl
  · cases hb : Nat.beq n 0 with
    | true =>
      rw [hb, cond_true, Option.some.injEq] at hl; subst hl
      have := Nat.eq_of_beq_eq_true hb
      subst this; simp
    | false =>
      rw [hb, cond_false] at hl
      unfold loadN at hl
      split at hl
      · obtain ⟨hb, hl⟩ := cond_some hl
        rw [Nat.ble_eq] at hb
        simp only [Option.some.injEq] at hl; subst hl
        simp; omega
      · simp at hl
  · simp only [Option.some.injEq] at hl; subst hl
    rw [hnil _ _ rfl]; simp
  · rename_i st
    simp only [Option.some.injEq] at hl; subst hl
    have := hn _ rfl
    have h1 := h1 _ rfl
    subst h1
    have hsz : st.data.toList.length = st.size := by simp
    simp only [List.length_map, List.length_take, hsz]; omega
  · simp at hl
end
end Go.Sv

/- Appending, as the machine carries it out. -/
namespace Go.Sv
open Go.RowKit (Below)

section
variable {P : Program} {ok : Cx} {w w' : World} {m : Mu} {B : Nat} {s : S}

theorem zeroOf_known {t : TypeId} {z : Value} (h : zeroOf P t = some z) : ∃ i, (∀ w, (typeInfo t).run P w = .ok i w) ∧ i.bytes = bytesOf P t := by
  obtain ⟨i, hi, _⟩ := zeroOf_some h
  exact ⟨i, fun w => run_typeInfo hi, by simp [bytesOf, hi]⟩

def isIntD : TypeDesc → Bool
  | .int _ => true
  | _ => false

/-- What is appended, as the machine gets it. -/
theorem added_sim {elem xt : TypeId} {x x' z : Value} {n : Nat} {add : List Value} (hz : zeroOf P elem = some z) (hx : VR m x x')
    (ha : addedA P s elem xt x = some (n, add)) (hn0 : szOf P elem ≠ 0) :
    ∃ (zeros : Bool) (d : TypeDesc) (app : Sem (Array Value)),
      P.underlying xt = some d ∧ isIntD d = zeros ∧
      (zeros = true → ∃ k, x' = .int k (Int.ofNat n) ∧ n * bytesOf P elem ≤ 140737488355328 ∧ n < 9223372036854775808) ∧
      (zeros = false → ∀ w, (Builtin.lenOf x').run P w = .ok n w) ∧
      app = (if !zeros then Builtin.firstCells (szOf P elem) n x' else if n * szOf P elem = 0 then pure #[] else do pure (Builtin.zeroCells (← zeroValue elem).cells n)) ∧
      (∀ w, SR P ok m B s w → ∃ a : Array Value, app.run P w = .ok a w ∧ LR m add a.toList) := by
  unfold addedA at ha
  split at ha
  · rename_i k0 k l hu
    split at ha
    · rename_i z' hz'
      rw [hz] at hz'; simp only [Option.some.injEq] at hz'; subst hz'
      obtain ⟨hb, ha⟩ := cond_some ha
      simp only [Bool.and_eq_true, Nat.ble_eq, blt_true] at hb
      simp only [Option.some.injEq, Prod.mk.injEq] at ha
      obtain ⟨rfl, rfl⟩ := ha
      cases hx.of_isLeaf rfl
      obtain ⟨i, hi, hby⟩ := zeroOf_known hz
      refine ⟨true, _, _, hu, rfl, fun _ => ⟨k, rfl, hb⟩, nofun, rfl, fun w _ => ?_⟩
      · have hzl := (zeroOf_info (P := P) (w := w) hz).2
        have hsz : z.cells.size = szOf P elem := by simpa using hzl
        have hrow := zeroRow_eq (zc := z.cells) (n := l * szOf P elem) (fun _ => by omega)
        simp only [Bool.not_true, Bool.false_eq_true, if_false]
        by_cases h0 : l * szOf P elem = 0
        · rw [if_pos h0]
          refine ⟨#[], rfl, ?_⟩
          rw [h0]
          exact LR.nil m
        · rw [if_neg h0]
          refine ⟨Builtin.zeroCells z.cells l, by simp [run_zeroValue hz], ?_⟩
          have : (Builtin.zeroCells z.cells l).toList = zeroRow z.cells.toList (l * szOf P elem) := by
            rw [hrow]; simp only [Builtin.zeroCells, hsz]
          rw [this]
          exact LR.of_leaf (zeroRow_leaf (fun _ => by omega) (leafy_cells (zeroOf_some hz).choose_spec.2.2.1))
    · simp at ha
  · simp at ha
  · rename_i d hni hu _
    split at ha
    · rename_i k hk
      split at ha
      · rename_i l hl
        simp only [Option.some.injEq, Prod.mk.injEq] at ha
        obtain ⟨rfl, rfl⟩ := ha
        refine ⟨false, d, _, hu, ?_, nofun, fun _ w => ?_, rfl, fun w h => ?_⟩
        · cases d <;> first | rfl | exact absurd rfl (hni _)
        · skip
          unfold lenOfA at hk
          split at hk
          · simp only [Option.some.injEq] at hk; subst hk
            cases hx with
            | leaf => rfl
            | slice => rfl
          · simp only [Option.some.injEq] at hk; subst hk
            cases hx.of_isLeaf rfl
            rfl
          · simp at hk
        · simp only [Bool.not_false, if_true]
          refine firstCells_sim h hx (fun a k' c e => ?_) hl
          subst e
          simp only [lenOfA, Option.some.injEq] at hk
          omega
      · simp at ha
    · simp at ha
  · simp at ha

/-- The machine's row grows in its own block: the evaluator's old block is given up, the new one lies there. -/
theorem SR.grewIn {b rb ro z o' : Nat} {c c2 : List Value} {c2' : Array Value} {e : TypeId} {fz : Nat × Nat} (h : SR P ok m B s w) (hm : m b = some (rb, ro, z))
    (hg : s.get b = some (.cells c false)) (hw : Wrote w w' rb (.cells c2' e fz)) (hz : c2'.size = z) (hfz : ∀ j, j < z → ¬(fz.1 ≤ j ∧ j < fz.2))
    (hc : ∀ (i : Nat) v, c2[i]? = some v → ∃ v', c2'[o' + i]? = some v' ∧ VR m v v') (hn : m s.next = none) :
    SR P ok (m.ins s.next (rb, o', z)) B ((s.new (.cells c2 false)).kill b) w' ∧ Below B w w' := by
  have hle : m.le (m.ins s.next (rb, o', z)) := Mu.le_ins hn
  have hB := h.own _ _ _ _ _ hm hg rfl
  have hd := h.dom _ _ _ _ hm
  have hcase : ∀ b2 rb2 ro2 z2, (m.ins s.next (rb, o', z)) b2 = some (rb2, ro2, z2) → (b2 = s.next ∧ rb2 = rb ∧ ro2 = o' ∧ z2 = z) ∨ (b2 ≠ s.next ∧ m b2 = some (rb2, ro2, z2)) := by
    intro b2 rb2 ro2 z2 hb
    unfold Mu.ins at hb
    split at hb
    · rename_i e1
      simp only [Option.some.injEq, Prod.mk.injEq] at hb
      exact .inl ⟨e1, hb.1.symm, hb.2.1.symm, hb.2.2.symm⟩
    · rename_i e1; exact .inr ⟨e1, hb⟩
  have hget : ∀ b2 o2, ((s.new (.cells c2 false)).kill b).get b2 = some o2 → (b2 = s.next ∧ o2 = .cells c2 false) ∨ (b2 ≠ s.next ∧ b2 ≠ b ∧ s.get b2 = some o2) := by
    intro b2 o2 hb
    rw [S.get_kill] at hb
    split at hb
    · simp at hb
    · rename_i hne
      rw [S.get_new] at hb
      split at hb
      · rename_i e1; simp only [Option.some.injEq] at hb; exact .inl ⟨e1, hb.symm⟩
      · rename_i e1; exact .inr ⟨e1, hne, hb⟩
  have hother : ∀ b2 rb2 ro2 z2 o2, b2 ≠ b → m b2 = some (rb2, ro2, z2) → s.get b2 = some o2 → rb2 ≠ rb := by
    intro b2 rb2 ro2 z2 o2 hne hm2 hg2 e1
    subst e1
    have := (h.inj _ _ _ _ _ _ _ _ _ hne hm2 hm hg2 hg).2
    cases this
  refine ⟨⟨fun b2 rb2 ro2 z2 hb => ?_, fun b2 rb2 ro2 z2 o2 hb hgo => ?_, fun b2 rb2 ro2 z2 o2 hb hgo hr => ?_, fun b1 b2 rb2 ro1 z1 ro2 z2 o1 o2 hne hb1 hb2 hg1 hg2 => ?_, fun g hgl => ?_, fun b2 hb2 => ?_, ((h.new (.cells c2 false)).kill b).ent, ((h.new (.cells c2 false)).kill b).old⟩, hw.below hB⟩
  rotate_left 5
  · refine ⟨?_, Nat.lt_succ_of_lt (h.res b2 hb2).2⟩
    unfold Mu.ins
    rw [if_neg (by rintro rfl; exact h.res_next hb2)]
    exact (h.res b2 hb2).1
  rotate_right 5
  · have hsz : w'.heap.size = w.heap.size := by rw [hw.heap]; simp
    rw [hsz]
    rcases hcase _ _ _ _ hb with ⟨e1, e2, _⟩ | ⟨_, hb⟩
    · exact ⟨by rw [e1]; show s.next < s.next + 1; omega, by rw [e2]; exact hd.2⟩
    · have := h.dom _ _ _ _ hb; exact ⟨by show b2 < s.next + 1; omega, this.2⟩
  · rcases hcase _ _ _ _ hb with ⟨e1, e2, e3, e4⟩ | ⟨hne, hb⟩
    · rcases hget _ _ hgo with ⟨_, e5⟩ | ⟨hne, _⟩
      · subst e2 e3 e4 e5
        rw [hw.at hd.2]
        exact ⟨c2', e, fz, rfl, hz, fun i v hv => let ⟨v', a, bb⟩ := hc i v hv; ⟨v', a, bb.mono hle⟩, fun _ => hfz⟩
      · exact absurd e1 hne
    · rcases hget _ _ hgo with ⟨e1, _⟩ | ⟨_, hnb, hgo⟩
      · exact absurd e1 hne
      · rw [hw.other (hother _ _ _ _ _ hnb hb hgo)]
        exact BR.mono hle (h.blk _ _ _ _ _ hb hgo)
  · rcases hcase _ _ _ _ hb with ⟨e1, e2, _⟩ | ⟨hne, hb⟩
    · rw [e2]; exact hB
    · rcases hget _ _ hgo with ⟨e1, _⟩ | ⟨_, hnb, hgo⟩
      · exact absurd e1 hne
      · exact h.own _ _ _ _ _ hb hgo hr
  · rcases hcase _ _ _ _ hb1 with ⟨e1, e2, _⟩ | ⟨hne1, hc1⟩
    · rcases hcase _ _ _ _ hb2 with ⟨e3, _⟩ | ⟨hne2, hc2⟩
      · exact absurd (e1.trans e3.symm) hne
      · rcases hget _ _ hg2 with ⟨e3, _⟩ | ⟨_, hnb, hgo⟩
        · exact absurd e3 hne2
        · exact absurd e2 (hother _ _ _ _ _ hnb hc2 hgo)
    · rcases hget _ _ hg1 with ⟨e3, _⟩ | ⟨_, hnb, hgo⟩
      · exact absurd e3 hne1
      · rcases hcase _ _ _ _ hb2 with ⟨e1, e2, _⟩ | ⟨hne2, hc2⟩
        · exact absurd e2 (hother _ _ _ _ _ hnb hc1 hgo)
        · rcases hget _ _ hg2 with ⟨e3, _⟩ | ⟨_, hnb2, hgo2⟩
          · exact absurd e3 hne2
          · exact h.inj _ _ _ _ _ _ _ _ _ hne hc1 hc2 hgo hgo2
  · obtain ⟨z', hz⟩ := h.glob g hgl
    exact ⟨z', hle _ _ hz⟩
end
end Go.Sv
