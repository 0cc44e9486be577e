/- Hooks: calls that are answered out of what was reckoned apart, and their soundness. -/
import Derived.Test.YteialihbechmoaaGreatDoorE05
import Derived.Lib.Bytealg
import Derived.Laws.Externs

/- Calls that are evaluated apart: in a memory that holds the listed variables and what is handed in, and nothing else. -/
namespace Go.Sv
open Go.RowKit (Below)

section
variable {P : Program} {ok : Cx} {w w' : World} {m m' : Mu} {B : Nat} {s s' : S}

/-- The relation holds on where the old blocks are as they were. -/
theorem SR.frame (h : SR P ok m B s w) (hb : Below w.heap.size w w') : SR P ok m B s w' where
  dom b rb ro z hm := ⟨(h.dom b rb ro z hm).1, Nat.lt_of_lt_of_le (h.dom b rb ro z hm).2 hb.size⟩
  blk b rb ro z o hm hg := by
    rw [hb.block rb (h.dom b rb ro z hm).2]
    exact h.blk b rb ro z o hm hg
  own := h.own
  inj := h.inj
  glob := h.glob
  res := h.res
  ent := h.ent
  old := h.old

/-- A block of plain values that may be read only. -/
def isoM : List (Nat × List Value) → M AB
  | [] => .empty
  | (b, c) :: r => (isoM r).set b (some ⟨0, .cells c true⟩)
def isoS (bs : List (Nat × List Value)) (next : Nat) : S := ⟨isoM bs, next, 1⟩

theorem isoM_get : ∀ {bs : List (Nat × List Value)} {b : Nat} {x : AB}, (isoM bs).get b = some x → ∃ c, (b, c) ∈ bs ∧ x = ⟨0, .cells c true⟩
  | [], b, x, h => by simp [isoM] at h
  | (b', c) :: r, b, x, h => by
    rw [isoM, M.get_set] at h
    split at h
    · rename_i e; subst e
      simp only [Option.some.injEq] at h
      exact ⟨c, by simp, h.symm⟩
    · obtain ⟨c', h1, h2⟩ := isoM_get h
      exact ⟨c', List.mem_cons_of_mem _ h1, h2⟩

/-- The blocks of the memory apart are there. -/
def IsoOK (m : Mu) (w : World) (bs : List (Nat × List Value)) : Prop :=
  ∀ b c, (b, c) ∈ bs → c.all isLeaf = true ∧ ∀ rb ro z, m b = some (rb, ro, z) → ∃ c' e fz, w.heap[rb]? = some (.cells c' e fz) ∧ c'.size = z ∧ ∀ (i : Nat) v, c[i]? = some v → c'[ro + i]? = some v

theorem iso_sr {bs : List (Nat × List Value)} {next : Nat} (hg : ∀ g, g < P.globals.size → ∃ z, m g = some (g, 0, z)) (hdom : ∀ b rb ro z, m b = some (rb, ro, z) → b < next ∧ rb < w.heap.size)
    (hnext : ∀ b c, (b, c) ∈ bs → b < next) (h : IsoOK m w bs) : SR P (baseCx P) m w.heap.size (isoS bs next) w where
  dom := hdom
  blk b rb ro z o hm ho := by
    unfold S.get at ho
    split at ho
    · rename_i x hx
      obtain ⟨c, h1, rfl⟩ := isoM_get hx
      simp only [Option.some.injEq] at ho
      subst ho
      obtain ⟨hl, h2⟩ := h b c h1
      obtain ⟨c', e, fz, h3, h4, h5⟩ := h2 rb ro z hm
      refine ⟨c', e, fz, h3, h4, fun i v hv => ⟨v, h5 i v hv, .leaf ?_⟩, fun hf => by cases hf⟩
      exact List.all_eq_true.1 hl v (List.mem_of_getElem? hv)
    · simp at ho
  own b rb ro z o hm ho hro := by
    unfold S.get at ho
    split at ho
    · rename_i x hx
      obtain ⟨c, h1, rfl⟩ := isoM_get hx
      simp only [Option.some.injEq] at ho
      subst ho
      cases hro
    · simp at ho
  inj b b' rb ro z ro' z' o o' hne hm hm' ho ho' := by
    have key : ∀ b o, (isoS bs next).get b = some o → o.ro = true := by
      intro b o ho
      unfold S.get at ho
      split at ho
      · rename_i x hx
        obtain ⟨c, h1, rfl⟩ := isoM_get hx
        simp only [Option.some.injEq] at ho
        subst ho; rfl
      · simp at ho
    exact ⟨key _ _ ho, key _ _ ho'⟩
  glob := hg
  res b hb := hb.elim
  ent b x hx := by
    obtain ⟨c, h1, rfl⟩ := isoM_get hx
    exact ⟨hnext b c h1, Nat.one_pos⟩
  old := ⟨Nat.zero_le _, fun b x _ hlt => by exact absurd hlt (Nat.not_lt_zero _)⟩

/-- A call that was evaluated apart and that answers a plain value: the caller's memory is as it was. -/
theorem iso_sim (hs : SR P ok m B s w) (hB : B ≤ w.heap.size) {e : Ev} {f : FuncId} {args : List Value} {args' : Array Value} {bs : List (Nat × List Value)} {next : Nat} {m0 : Mu} {r : Value} {s1 : S}
    (he : Sound P (baseCx P) w.heap.size e) (hcall : e.call f args (isoS bs next) = some (.ret r, s1)) (hr : leafy r = true)
    (hg : ∀ g, g < P.globals.size → ∃ z, m0 g = some (g, 0, z)) (hdom : ∀ b rb ro z, m0 b = some (rb, ro, z) → b < next ∧ rb < w.heap.size)
    (hnext : ∀ b c, (b, c) ∈ bs → b < next) (hiso : IsoOK m0 w bs) (ha : LR m0 args args'.toList) : Inv P ok B m (callFunc f args') w (.ret r) s := by
  intro M fr cs hw hb
  obtain ⟨m', w', h1, h2, h3, v', hv, h4⟩ := he.call hcall (iso_sr hg hdom hnext hiso) (Nat.le_refl _) ha M fr cs hw hb
  have hv' : v' = r := by
    refine hv.of_deepLeaf 2 ?_
    cases r with
    | agg x =>
      simp only [leafy, List.all_eq_true] at hr
      simp only [deepLeaf, List.all_eq_true]
      intro v hv
      have := hr v hv
      cases v <;> first | exact this | (simp [isLeaf] at this)
    | _ => first | exact hr | (simp [leafy, isLeaf] at hr)
  subst hv'
  refine ⟨m, w', Mu.le.refl m, hs.frame h3, ⟨h3.os, h3.tape, h3.output, h3.size, fun k hk => h3.block k (by omega)⟩, v', leafy_VR hr, h4⟩
end
end Go.Sv

/- Hooks: what the evaluator takes from a table of answers. -/
namespace Go.Sv
open Go.RowKit (Below)

abbrev Ext := Ev → FuncId → List Value → S → Option (CRes × S)

/-- A run of calls that any bound on the machine's own blocks and anything kept in mind leaves sound. -/
def ExtAll (P : Program) (ext : Ext) : Prop := ∀ B, ExtOK' P (okC P) B ext

section
variable {P : Program} {ok : Cx} {w w' : World} {m m' : Mu} {B : Nat} {s s' : S}

theorem inv_value {sem : Sem Next} {v v' : Value} (hs : SR P ok m B s w) (hr : sem.run P w = .ok (.value v') w) (hv : VR m v v') : Inv P ok B m sem w (.ret v) s :=
  fun _ _ _ _ hb => ⟨m, w, Mu.le.refl m, hs, Below.refl B w, v', hv, .one (begins_value hb hr)⟩

def Ext.none : Ext := fun _ _ _ _ => .none
def Ext.or (a b : Ext) : Ext := fun e f args s => match a e f args s with
  | some r => some r
  | .none => b e f args s

theorem extAll_none : ExtAll P Ext.none := fun _ _ _ {_ _ _ _ _} h => by cases h
theorem ExtAll.or {a b : Ext} (ha : ExtAll P a) (hb : ExtAll P b) : ExtAll P (a.or b) := by
  intro B e he f args s r s' h ok hok m w args' h1 h2 h3
  unfold Ext.or at h
  split at h
  · rename_i x hx
    cases h
    exact ha B e he hx ok hok h1 h2 h3
  · exact hb B e he h ok hok h1 h2 h3

/-! ### Comparing strings -/

def cmpHook (f0 : FuncId) : Ext := fun _ f args s => bif Nat.beq f f0 then (match args with
  | [.string a, .string b] => some (.ret (.int .i64 (Lib.compareBytes a.data.toList b.data.toList)), s)
  | _ => .none) else .none

theorem extAll_cmp {f0 : FuncId} {fn : Func} (hf : P.funcs[f0]? = some fn) (hn : (fn.name == "runtime.NumGoroutine") = false) (hb : fn.body.isNone = true) (h1 : Extern.findNext fn = .none)
    (h2 : Extern.find fn = some Extern.BytealgCompare.compare) : ExtAll P (cmpHook f0) := by
  intro B e he f args s r s' h ok hok m w args' hs hB ha
  unfold cmpHook at h
  obtain ⟨hff, h3⟩ := cond_some h
  clear h
  have := Nat.eq_of_beq_eq_true hff
  subst this
  split at h3
  · rename_i a b
    simp only [Option.some.injEq, Prod.mk.injEq] at h3
    obtain ⟨rfl, rfl⟩ := h3
    obtain ⟨v1, r1, e1, hv1, ha⟩ := ha.cons_inv
    obtain ⟨v2, r2, rfl, hv2, ha⟩ := ha.cons_inv
    have := ha.nil_inv
    subst this
    have q1 := hv1.of_isLeaf rfl
    have q2 := hv2.of_isLeaf rfl
    subst q1 q2
    have ea : args' = #[.string a, .string b] := by apply Array.ext'; simpa using e1
    subst ea
    refine inv_value hs ?_ (.leaf rfl)
    rw [run_callFunc_extern hf hn hb h1 h2, Lib.run_compareString]
    rfl
  · cases h3
end
end Go.Sv

/- Hooks: answers that were reckoned apart. -/
namespace Go.Sv
open Go.RowKit (Below)

section
variable {P : Program} {ok : Cx} {w w' : World} {m m' : Mu} {B : Nat} {s s' : S}

/-- The listed variables hold what they should. -/
def globB (s : S) : List (Nat × List Value) → Bool
  | [] => true
  | (b, c) :: r => (match s.get b with
    | some (.cells c' true) => sameVs c' c
    | _ => false) && globB s r

theorem globB_mem : ∀ {gl : List (Nat × List Value)}, globB s gl = true → ∀ b c, (b, c) ∈ gl → s.get b = some (.cells c true)
  | [], _, b, c, h => by cases h
  | (b', c') :: r, h, b, c, hm => by
    simp only [globB, Bool.and_eq_true] at h
    rcases List.mem_cons.1 hm with e | hm
    · cases e
      have h1 := h.1
      split at h1
      · rename_i c2 hg
        rw [hg, sameVs_eq h1]
      · cases h1
    · exact globB_mem h.2 b c hm

/-- What is asked of the listed variables' contents. -/
def glOK (P : Program) (gl : List (Nat × List Value)) : Bool := gl.all fun p => Nat.blt p.1 P.globals.size && p.2.all isLeaf

theorem glob_iso {gl : List (Nat × List Value)} {m0 : Mu} (hs : SR P ok m B s w) (hgl : glOK P gl = true) (hg : globB s gl = true) (hm : ∀ b, b < P.globals.size → m0 b = m b) : IsoOK m0 w gl := by
  intro b c hmem
  have h1 := List.all_eq_true.1 hgl _ hmem
  simp only [Bool.and_eq_true, blt_true] at h1
  refine ⟨h1.2, fun rb ro z hmb => ?_⟩
  rw [hm b h1.1] at hmb
  obtain ⟨c', e, fz, h3, h4, h5, _⟩ := hs.cells hmb (globB_mem hg b c hmem)
  refine ⟨c', e, fz, h3, h4, fun i v hv => ?_⟩
  obtain ⟨v', h6, h7⟩ := h5 i v hv
  rw [h7.of_isLeaf (List.all_eq_true.1 h1.2 v (List.mem_of_getElem? hv))] at h6
  exact h6

/-- A function of these plain arguments. -/
def memo0 (f0 : FuncId) (gl : List (Nat × List Value)) (key : List Value) (r : Value) : Ext := fun _ f args s =>
  bif Nat.beq f f0 then (bif sameVs args key && globB s gl then some (.ret r, s) else .none) else .none

theorem extAll_memo0 {f0 : FuncId} {gl : List (Nat × List Value)} {key : List Value} {r : Value} {e0 : Ev} {s1 : S} (he0 : ∀ B, ∀ ok : Cx, ok.ok = okC P → Sound P ok B e0) (hgl : glOK P gl = true)
    (hk : key.all isLeaf = true) (hr : leafy r = true) (hcall : e0.call f0 key (isoS gl P.globals.size) = some (.ret r, s1)) : ExtAll P (memo0 f0 gl key r) := by
  intro B e he f args s r' s' h ok hok m w args' hs hB ha
  unfold memo0 at h
  obtain ⟨hff, h3⟩ := cond_some h
  clear h
  have := Nat.eq_of_beq_eq_true hff
  subst this
  obtain ⟨hg, h4⟩ := cond_some h3
  simp only [Bool.and_eq_true] at hg
  obtain ⟨hka, hg⟩ := hg
  simp only [Option.some.injEq, Prod.mk.injEq] at h4
  obtain ⟨rfl, rfl⟩ := h4
  have hka := sameVs_eq hka
  subst hka
  let m0 : Mu := fun b => if b < P.globals.size then m b else .none
  have hm0 : ∀ b, b < P.globals.size → m0 b = m b := fun b hb => if_pos hb
  refine iso_sim (m0 := m0) hs hB (he0 w.heap.size (baseCx P) rfl) hcall hr (fun g hg => ?_) (fun b rb ro z hm => ?_) (fun b c hm => ?_) (glob_iso hs hgl hg hm0) ?_
  · rw [hm0 g hg]; exact hs.glob g hg
  · by_cases hb : b < P.globals.size
    · rw [hm0 b hb] at hm; exact ⟨hb, (hs.dom _ _ _ _ hm).2⟩
    · have : m0 b = .none := if_neg hb
      rw [this] at hm; cases hm
  · have h1 := List.all_eq_true.1 hgl _ hm
    simp only [Bool.and_eq_true, blt_true] at h1
    exact h1.1
  · rw [VR.of_leaf_list ha hk]
    exact LR.of_leaf hk

/-- A function of one row of plain values. -/
def findMemo (l : List Value) (cap : Nat) : List (List Value × Nat × Value) → Option Value
  | [] => .none
  | (l', cap', r) :: rest => bif Nat.beq cap cap' && sameVs l l' then some r else findMemo l cap rest
theorem findMemo_mem {l : List Value} {cap : Nat} {r : Value} : ∀ {t : List (List Value × Nat × Value)}, findMemo l cap t = some r → (l, cap, r) ∈ t
  | [], h => by cases h
  | (l', cap', r') :: rest, h => by
    unfold findMemo at h
    cases hb : (Nat.beq cap cap' && sameVs l l') with
    | true =>
      rw [hb, cond_true, Option.some.injEq] at h
      simp only [Bool.and_eq_true] at hb
      rw [Nat.eq_of_beq_eq_true hb.1, sameVs_eq hb.2, h]
      simp
    | false =>
      rw [hb, cond_false] at h
      exact List.mem_cons_of_mem _ (findMemo_mem h)

def memo1 (f0 : FuncId) (gl : List (Nat × List Value)) (t : List (List Value × Nat × Value)) : Ext := fun _ f args s =>
  bif Nat.beq f f0 then (match args with
    | [.slice (some ⟨b, o, .none⟩) len cap] => match loadN s b o len with
      | some l => match findMemo l cap t with
        | some r => bif globB s gl then some (.ret r, s) else .none
        | .none => .none
      | .none => .none
    | _ => .none) else .none

/-- What is asked of each answer. -/
def Memo1 (P : Program) (e0 : Ev) (f0 : FuncId) (gl : List (Nat × List Value)) (x : List Value × Nat × Value) : Prop :=
  x.1.all isLeaf = true ∧ leafy x.2.2 = true ∧ ∃ s1, e0.call f0 [.slice (some ⟨P.globals.size, 0, .none⟩) x.1.length x.2.1] (isoS ((P.globals.size, x.1) :: gl) (P.globals.size + 1)) = some (.ret x.2.2, s1)

theorem extAll_memo1 {f0 : FuncId} {gl : List (Nat × List Value)} {t : List (List Value × Nat × Value)} {e0 : Ev} (he0 : ∀ B, ∀ ok : Cx, ok.ok = okC P → Sound P ok B e0) (hgl : glOK P gl = true)
    (ht : ∀ x ∈ t, Memo1 P e0 f0 gl x) : ExtAll P (memo1 f0 gl t) := by
  intro B e he f args s r' s' h ok hok m w args' hs hB ha
  unfold memo1 at h
  obtain ⟨hff, h3⟩ := cond_some h
  clear h
  have := Nat.eq_of_beq_eq_true hff
  subst this
  split at h3
  · rename_i b o len cap
    split at h3
    · rename_i l hl
      split at h3
      · rename_i r hfm
        obtain ⟨hg, h4⟩ := cond_some h3
        simp only [Option.some.injEq, Prod.mk.injEq] at h4
        obtain ⟨rfl, rfl⟩ := h4
        obtain ⟨hleaf, hr, s1, hcall⟩ := ht _ (findMemo_mem hfm)
        simp only at hleaf hr hcall
        obtain ⟨v', r2, e1, hv, hrest⟩ := ha.cons_inv
        have := hrest.nil_inv
        subst this
        obtain ⟨b', o1, rb, ro, z, o', cap', hab, hmb, rfl, hcap, ho⟩ := hv.slice_inv
        cases hab
        have hll : l.length = len := by
          unfold loadN at hl
          split at hl
          · obtain ⟨hb, hl⟩ := cond_some hl
            rw [Nat.ble_eq] at hb
            simp only [Option.some.injEq] at hl
            subst hl
            simp; omega
          · cases hl
        let m0 : Mu := fun x => if x < P.globals.size then m x else if x = P.globals.size then some (rb, o', z) else .none
        have hm0 : ∀ x, x < P.globals.size → m0 x = m x := fun x hx => if_pos hx
        have hmg : m0 P.globals.size = some (rb, o', z) := by simp [m0]
        have hgm : ∀ x c, (x, c) ∈ gl → x < P.globals.size := by
          intro x c hm
          have h1 := List.all_eq_true.1 hgl _ hm
          simp only [Bool.and_eq_true, blt_true] at h1
          exact h1.1
        refine iso_sim (m0 := m0) hs hB (he0 w.heap.size (baseCx P) rfl) hcall hr (fun g hg => ?_) (fun x rb' ro' z' hm => ?_) (fun x c hm => ?_) (fun x c hm => ?_) ?_
        · rw [hm0 g hg]; exact hs.glob g hg
        · by_cases hx : x < P.globals.size
          · rw [hm0 x hx] at hm; exact ⟨by omega, (hs.dom _ _ _ _ hm).2⟩
          · by_cases hx2 : x = P.globals.size
            · subst hx2
              rw [hmg] at hm
              cases hm
              exact ⟨by omega, (hs.dom _ _ _ _ hmb).2⟩
            · have : m0 x = .none := by simp [m0, hx, hx2]
              rw [this] at hm; cases hm
        · rcases List.mem_cons.1 hm with e | hm
          · cases e; omega
          · have := hgm x c hm; omega
        · rcases List.mem_cons.1 hm with e | hm
          · cases e
            refine ⟨hleaf, fun rb' ro' z' hm' => ?_⟩
            rw [hmg] at hm'
            cases hm'
            unfold loadN at hl
            split at hl
            · rename_i c0 rd hgb
              obtain ⟨hb, hl⟩ := cond_some hl
              rw [Nat.ble_eq] at hb
              simp only [Option.some.injEq] at hl
              obtain ⟨c', e, fz, k1, k2, k3, _⟩ := hs.cells hmb hgb
              refine ⟨c', e, fz, k1, k2, fun i v hv => ?_⟩
              have hi : i < len := by rw [← hll]; exact (List.getElem?_eq_some_iff.1 hv).1
              have ho' : o' = ro + o := ho.resolve_right (by have := hcap.1; omega)
              have hvl := List.all_eq_true.1 hleaf v (List.mem_of_getElem? hv)
              rw [← hl, List.getElem?_take, if_pos hi, List.getElem?_drop] at hv
              obtain ⟨v', k4, k5⟩ := k3 _ _ hv
              rw [k5.of_isLeaf hvl] at k4
              rw [ho', Nat.add_assoc]
              exact k4
            · cases hl
          · exact glob_iso hs hgl hg hm0 x c hm
        · rw [e1, hll]
          exact (LR.nil m0).cons (.slice hmg hcap (.inl rfl))
      · cases h3
    · cases h3
  · cases h3
end
end Go.Sv

/- Hooks: a call without arguments, reckoned apart, that answers data of its own making. -/
namespace Go.Sv
open Go.RowKit (Below)

def shiftV (k : Nat) (v : Value) : Value :=
  match v with
  | .pointer (some ⟨b, o, none⟩) => .pointer (some ⟨b + k, o, none⟩)
  | .slice (some ⟨b, o, none⟩) l c => .slice (some ⟨b + k, o, none⟩) l c
  | v => v
def shiftA (k : Nat) (v : Value) : Value :=
  match v with
  | .agg x => .agg ⟨x.toList.map (shiftV k)⟩
  | v => shiftV k v
def shiftD (k : Nat) (v : Value) : Value :=
  match v with
  | .tuple x => .tuple ⟨x.toList.map (shiftA k)⟩
  | v => shiftA k v

/-- Plain, or it leads to a block of the call's own. -/
def simpleV (G : Nat) (v : Value) : Bool :=
  match v with
  | .pointer (some ⟨b, _, none⟩) => Nat.ble G b
  | .slice (some ⟨b, _, none⟩) _ _ => Nat.ble G b
  | v => isLeaf v
def simpleA (G : Nat) (v : Value) : Bool :=
  match v with
  | .agg x => x.toList.all (simpleV G)
  | v => simpleV G v
def simpleD (G : Nat) (v : Value) : Bool :=
  match v with
  | .tuple x => x.toList.all (simpleA G)
  | v => simpleA G v

section
variable {P : Program} {ok : Cx} {w w' : World} {m m' m1 : Mu} {B G k : Nat} {s : S}

theorem VR.shiftV (hm : ∀ b x, G ≤ b → m1 b = some x → m (b + k) = some x) {v v' : Value} (h : VR m1 v v') (hs : simpleV G v = true) : VR m (shiftV k v) v' := by
  cases h with
  | @leaf v hl =>
    have : Sv.shiftV k v = v := by
      cases v <;> try rfl
      · rename_i a; cases a <;> first | rfl | (simp [isLeaf] at hl)
      · rename_i a _ _; cases a <;> first | rfl | (simp [isLeaf] at hl)
    rw [this]; exact .leaf hl
  | @ptr b o rb ro z hb => exact .ptr (hm _ _ (by simpa [simpleV, Nat.ble_eq] using hs) hb)
  | @slice b o rb ro z o' len cap cap' hb hc ho => exact .slice (hm _ _ (by simpa [simpleV, Nat.ble_eq] using hs) hb) hc ho
  | map _ => simp [simpleV, isLeaf] at hs
  | func _ _ _ _ _ => simp [simpleV, isLeaf] at hs
  | iface _ => simp [simpleV, isLeaf] at hs
  | agg _ _ => simp [simpleV, isLeaf] at hs
  | tuple _ _ => simp [simpleV, isLeaf] at hs

theorem LR.mapS {f : Value → Value} {p : Value → Bool} (hf : ∀ v v', VR m1 v v' → p v = true → VR m (f v) v') {x x' : List Value} (h : LR m1 x x') (hp : x.all p = true) : LR m (x.map f) x' := by
  rw [List.all_eq_true] at hp
  refine ⟨by simp [h.1], fun i a b => ?_⟩
  simp only [List.getElem_map]
  exact hf _ _ (h.2 i (by simpa using a) b) (hp _ (List.getElem_mem _))

theorem VR.shiftA (hm : ∀ b x, G ≤ b → m1 b = some x → m (b + k) = some x) {v v' : Value} (h : VR m1 v v') (hs : simpleA G v = true) : VR m (Sv.shiftA k v) v' := by
  cases v with
  | agg x =>
    obtain ⟨x', rfl, hx⟩ := h.agg_inv
    exact LR.agg (LR.mapS (fun _ _ => VR.shiftV hm) hx hs)
  | _ => exact VR.shiftV hm h hs
theorem VR.shiftD (hm : ∀ b x, G ≤ b → m1 b = some x → m (b + k) = some x) {v v' : Value} (h : VR m1 v v') (hs : simpleD G v = true) : VR m (Sv.shiftD k v) v' := by
  cases v with
  | tuple x =>
    obtain ⟨x', rfl, hx⟩ := h.tuple_inv
    exact LR.tuple (LR.mapS (fun _ _ => VR.shiftA hm) hx hs)
  | _ => exact VR.shiftA hm h hs

/-- Blocks laid behind the others. -/
def addM (k c : Nat) : List (Nat × List Value) → M AB → M AB
  | [], h => h
  | (b, cs) :: r, h => (addM k c r h).set (b + k) (some ⟨c, .cells (cs.map (shiftV k)) false⟩)
theorem addM_get {c : Nat} : ∀ {bs : List (Nat × List Value)} {h : M AB} {b : Nat} {x : AB}, (addM k c bs h).get b = some x →
    (∃ b0 cs, (b0, cs) ∈ bs ∧ b = b0 + k ∧ x = ⟨c, .cells (cs.map (Sv.shiftV k)) false⟩) ∨ h.get b = some x
  | [], h, b, x, hx => .inr hx
  | (b0, cs) :: r, h, b, x, hx => by
    rw [addM, M.get_set] at hx
    split at hx
    · rename_i e
      simp only [Option.some.injEq] at hx
      exact .inl ⟨b0, cs, by simp, e, hx.symm⟩
    · rcases addM_get hx with ⟨b1, c1, h1, h2, h3⟩ | h1
      · exact .inl ⟨b1, c1, List.mem_cons_of_mem _ h1, h2, h3⟩
      · exact .inr h1
def addB (k nx : Nat) (bs : List (Nat × List Value)) (s : S) : S := ⟨addM k s.clk bs s.heap, nx + k, s.clk + 1⟩

/-- The blocks are there. -/
def hasB (s1 : S) : List (Nat × List Value) → Bool
  | [] => true
  | (b, cs) :: r => (match s1.get b with
    | some (.cells c false) => sameVs c cs
    | _ => false) && hasB s1 r
theorem hasB_mem {s1 : S} : ∀ {bs : List (Nat × List Value)}, hasB s1 bs = true → ∀ b cs, (b, cs) ∈ bs → s1.get b = some (.cells cs false)
  | [], _, _, _, h => by cases h
  | (b0, c0) :: r, h, b, cs, hm => by
    simp only [hasB, Bool.and_eq_true] at h
    rcases List.mem_cons.1 hm with e | hm
    · cases e
      have h1 := h.1
      split at h1
      · rename_i c hg
        rw [hg, sameVs_eq h1]
      · cases h1
    · exact hasB_mem h.2 b cs hm

theorem addB_sr {s1 : S} {nx : Nat} {bs : List (Nat × List Value)} (hs : SR P ok m B s w) (hB : B ≤ w.heap.size) (hG : P.globals.size ≤ s.next) (hk : k = s.next - P.globals.size) (hs1 : SR P (baseCx P) m1 w.heap.size s1 w') (hbl : Below w.heap.size w w')
    (hnx : s1.next = nx) (hGn : P.globals.size ≤ nx) (hbs : hasB s1 bs = true) (hge : ∀ b cs, (b, cs) ∈ bs → P.globals.size ≤ b ∧ cs.all (simpleV P.globals.size) = true) :
    ∃ m2 : Mu, m.le m2 ∧ SR P ok m2 B (addB k nx bs s) w' ∧ Below B w w' ∧ (∀ b x, P.globals.size ≤ b → m1 b = some x → m2 (b + k) = some x) := by
  let m2 : Mu := fun x => if x < s.next then m x else m1 (x - k)
  have hlt : ∀ b, b < s.next → m2 b = m b := fun b h => if_pos h
  have hge2 : ∀ b, ¬ b < s.next → m2 b = m1 (b - k) := fun b h => if_neg h
  have hle : m.le m2 := fun b x h => by
    obtain ⟨rb, ro, z⟩ := x
    rw [hlt b (hs.dom _ _ _ _ h).1]; exact h
  have hshift : ∀ b x, P.globals.size ≤ b → m1 b = some x → m2 (b + k) = some x := fun b x h hx => by
    rw [hge2 (b + k) (by omega), Nat.add_sub_cancel]; exact hx
  have hnew : ∀ b0, P.globals.size ≤ b0 → m2 (b0 + k) = m1 b0 := fun b0 h => by
    rw [hge2 (b0 + k) (by omega), Nat.add_sub_cancel]
  have hget : ∀ b o, (addB k nx bs s).get b = some o → (∃ b0 cs, (b0, cs) ∈ bs ∧ b = b0 + k ∧ o = .cells (cs.map (Sv.shiftV k)) false) ∨ (b < s.next ∧ s.get b = some o) := by
    intro b o h
    unfold S.get at h
    split at h
    · rename_i x hx
      simp only [Option.some.injEq] at h
      subst h
      rcases addM_get hx with ⟨b0, cs, h1, h2, h3⟩ | h1
      · exact .inl ⟨b0, cs, h1, h2, by rw [h3]⟩
      · exact .inr ⟨(hs.ent _ _ h1).1, by unfold S.get; rw [h1]⟩
    · cases h
  refine ⟨m2, hle, ⟨fun b rb ro z h => ?_, fun b rb ro z o h hg => ?_, fun b rb ro z o h hg hro => ?_, fun b b' rb ro z ro' z' o o' hne h h' hg hg' => ?_, fun g hg => ?_, fun b hb => ?_, fun b x hx => ?_, ?_⟩,
    ⟨hbl.os, hbl.tape, hbl.output, hbl.size, fun k hk => hbl.block k (by omega)⟩, hshift⟩
  · have hsz := hbl.size
    by_cases hb : b < s.next
    · rw [hlt b hb] at h
      have := (hs.dom _ _ _ _ h).2
      exact ⟨by show b < nx + k; omega, by omega⟩
    · rw [hge2 b hb] at h
      have := hs1.dom _ _ _ _ h
      exact ⟨by show b < nx + k; omega, this.2⟩
  · rcases hget b o hg with ⟨b0, cs, h1, rfl, rfl⟩ | ⟨hb, hg⟩
    · obtain ⟨hg0, hsim⟩ := hge _ _ h1
      rw [hnew b0 hg0] at h
      obtain ⟨c', e, fz, k1, k2, k3, k4⟩ := hs1.cells h (hasB_mem hbs _ _ h1)
      refine ⟨c', e, fz, k1, k2, fun i v hv => ?_, k4⟩
      rw [List.getElem?_map, Option.map_eq_some_iff] at hv
      obtain ⟨u, hu, rfl⟩ := hv
      obtain ⟨v', k5, k6⟩ := k3 i u hu
      exact ⟨v', k5, VR.shiftV hshift k6 (List.all_eq_true.1 hsim u (List.mem_of_getElem? hu))⟩
    · rw [hlt b hb] at h
      have := hs.blk _ _ _ _ _ h hg
      rw [hbl.block rb (hs.dom _ _ _ _ h).2]
      exact this.mono hle
  · rcases hget b o hg with ⟨b0, cs, h1, rfl, rfl⟩ | ⟨hb, hg⟩
    · rw [hnew b0 (hge _ _ h1).1] at h
      have := hs1.own _ _ _ _ _ h (hasB_mem hbs _ _ h1) rfl
      omega
    · rw [hlt b hb] at h
      exact hs.own _ _ _ _ _ h hg hro
  · rcases hget b o hg with ⟨b0, cs, h1, rfl, rfl⟩ | ⟨hb, hg⟩
    · rw [hnew b0 (hge _ _ h1).1] at h
      have hown := hs1.own _ _ _ _ _ h (hasB_mem hbs _ _ h1) rfl
      rcases hget b' o' hg' with ⟨b1, cs1, h2, rfl, rfl⟩ | ⟨hb', hg'⟩
      · rw [hnew b1 (hge _ _ h2).1] at h'
        have := hs1.inj _ _ _ _ _ _ _ _ _ (fun e => hne (by rw [e])) h h' (hasB_mem hbs _ _ h1) (hasB_mem hbs _ _ h2)
        cases this.1
      · rw [hlt b' hb'] at h'
        have := (hs.dom _ _ _ _ h').2
        omega
    · rw [hlt b hb] at h
      rcases hget b' o' hg' with ⟨b1, cs1, h2, rfl, rfl⟩ | ⟨hb', hg'⟩
      · rw [hnew b1 (hge _ _ h2).1] at h'
        have hown := hs1.own _ _ _ _ _ h' (hasB_mem hbs _ _ h2) rfl
        have := (hs.dom _ _ _ _ h).2
        omega
      · rw [hlt b' hb'] at h'
        exact hs.inj _ _ _ _ _ _ _ _ _ hne h h' hg hg'
  · obtain ⟨z, hz⟩ := hs.glob g hg
    exact ⟨z, hle _ _ hz⟩
  · obtain ⟨h1, h2⟩ := hs.res b hb
    exact ⟨by rw [hlt b h2]; exact h1, by show b < nx + k; omega⟩
  · have hx' : (addM k s.clk bs s.heap).get b = some x := hx
    rcases addM_get hx' with ⟨b0, cs, h1, rfl, rfl⟩ | h1
    · have h2 := hasB_mem hbs _ _ h1
      unfold S.get at h2
      split at h2
      · rename_i y hy
        have := (hs1.ent _ _ hy).1
        exact ⟨by show b0 + k < nx + k; omega, Nat.lt_succ_self _⟩
      · cases h2
    · have := hs.ent _ _ h1
      exact ⟨by show b < nx + k; omega, Nat.lt_succ_of_lt this.2⟩
  · refine ⟨Nat.le_succ_of_le hs.old.1, fun b x hx hl => ?_⟩
    have hx' : (addM k s.clk bs s.heap).get b = some x := hx
    rcases addM_get hx' with ⟨b0, cs, h1, rfl, rfl⟩ | h1
    · have := hs.old.1
      simp only at hl; omega
    · exact hs.old.2 b x h1 hl
end

/-- What the call comes to. -/
def dataIs (x : Option (CRes × S)) (r0 : Value) (nx : Nat) (bs : List (Nat × List Value)) : Prop := ∃ s1, x = some (.ret r0, s1) ∧ s1.next = nx ∧ hasB s1 bs = true

def dataHook (P : Program) (f0 : FuncId) (gl : List (Nat × List Value)) (r0 : Value) (nx : Nat) (bs : List (Nat × List Value)) : Ext := fun _ f args s =>
  bif Nat.beq f f0 then (match args with
    | [] => bif globB s gl && Nat.ble P.globals.size s.next then some (.ret (shiftD (s.next - P.globals.size) r0), addB (s.next - P.globals.size) nx bs s) else none
    | _ => none) else none

def bsOK (P : Program) (r0 : Value) (nx : Nat) (bs : List (Nat × List Value)) : Bool :=
  simpleD P.globals.size r0 && Nat.ble P.globals.size nx && bs.all fun p => Nat.ble P.globals.size p.1 && p.2.all (simpleV P.globals.size)

theorem extAll_data {P : Program} {f0 : FuncId} {gl : List (Nat × List Value)} {r0 : Value} {nx : Nat} {bs : List (Nat × List Value)} {e0 : Ev} (he0 : ∀ B, ∀ ok : Cx, ok.ok = okC P → Sound P ok B e0) (hgl : glOK P gl = true)
    (hok : bsOK P r0 nx bs = true) (hcall : dataIs (e0.call f0 [] (isoS gl P.globals.size)) r0 nx bs) : ExtAll P (dataHook P f0 gl r0 nx bs) := by
  intro B e he f args s r' s' h ok hokx m w args' hs hB ha
  unfold dataHook at h
  obtain ⟨hff, h3⟩ := cond_some h
  clear h
  have := Nat.eq_of_beq_eq_true hff
  subst this
  split at h3
  · obtain ⟨hg, h4⟩ := cond_some h3
    simp only [Bool.and_eq_true, Nat.ble_eq] at hg
    obtain ⟨hg, hG⟩ := hg
    simp only [Option.some.injEq, Prod.mk.injEq] at h4
    obtain ⟨rfl, rfl⟩ := h4
    have := ha.nil_inv
    have ea : args' = #[] := by apply Array.ext'; simpa using this
    subst ea
    obtain ⟨s1, hcall, hnx, hbs⟩ := hcall
    simp only [bsOK, Bool.and_eq_true, Nat.ble_eq, List.all_eq_true] at hok
    obtain ⟨⟨hok1, hok2⟩, hok3⟩ := hok
    let m0 : Mu := fun b => if b < P.globals.size then m b else none
    have hm0 : ∀ b, b < P.globals.size → m0 b = m b := fun b hb => if_pos hb
    have hiso : SR P (baseCx P) m0 w.heap.size (isoS gl P.globals.size) w := by
      refine iso_sr (fun g hg => ?_) (fun b rb ro z hm => ?_) (fun b c hm => ?_) (glob_iso hs hgl hg hm0)
      · rw [hm0 g hg]; exact hs.glob g hg
      · by_cases hb : b < P.globals.size
        · rw [hm0 b hb] at hm; exact ⟨hb, (hs.dom _ _ _ _ hm).2⟩
        · have : m0 b = none := if_neg hb
          rw [this] at hm; cases hm
      · have h1 := List.all_eq_true.1 hgl _ hm
        simp only [Bool.and_eq_true, blt_true] at h1
        exact h1.1
    intro M fr cs hw hb
    obtain ⟨m1, w', h1, h2, h3, v', hv, h4⟩ := (he0 w.heap.size (baseCx P) rfl).call hcall hiso (Nat.le_refl _) (args' := #[]) (LR.nil m0) M fr cs hw hb
    obtain ⟨m2, g1, g2, g3, g4⟩ := addB_sr (k := s.next - P.globals.size) hs hB hG rfl h2 h3 hnx hok2 hbs (fun b cs hm => by
      have := hok3 _ hm
      simpa [Nat.ble_eq] using this)
    exact ⟨m2, w', g1, g2, g3, v', VR.shiftD g4 hv hok1, h4⟩
  · cases h3
end Go.Sv

/- Hooks: answers that were reckoned apart, of one struct of plain values and rows of plain values. -/
namespace Go.Sv
open Go.RowKit (Below)

def mCell (s : S) (n : Nat) (rem : List (List Value)) (k v : Value) : Option (Nat × List (List Value)) :=
  match k with
  | .slice (some ⟨kb, 0, none⟩) len cap => match v, rem with
    | .slice (some ⟨b, o, none⟩) len' cap', c :: rem =>
      bif Nat.beq kb n && Nat.beq len len' && Nat.beq cap cap' && Nat.beq c.length len && c.all isLeaf then
        match loadN s b o len with
        | some l => bif sameVs l c then some (n + 1, rem) else none
        | none => none
      else none
    | _, _ => none
  | k => bif isLeaf k && sameV k v then some (n, rem) else none

def mCells (s : S) : Nat → List (List Value) → List Value → List Value → Bool
  | _, [], [], [] => true
  | n, rem, k :: ks, v :: vs => match mCell s n rem k v with
    | some (n', rem') => mCells s n' rem' ks vs
    | none => false
  | _, _, _, _ => false

def blocksFrom : Nat → List (List Value) → List (Nat × List Value)
  | _, [] => []
  | n, c :: r => (n, c) :: blocksFrom (n + 1) r

section
variable {P : Program} {ok : Cx} {w : World} {m : Mu} {B : Nat} {s : S}

def BlkOK (m1 : Mu) (w : World) (b : Nat) (c : List Value) : Prop :=
  c.all isLeaf = true ∧ ∀ rb ro z, m1 b = some (rb, ro, z) → ∃ c' e fz, w.heap[rb]? = some (.cells c' e fz) ∧ c'.size = z ∧ ∀ (i : Nat) v, c[i]? = some v → c'[ro + i]? = some v

theorem blocksFrom_mem : ∀ {n : Nat} {rem : List (List Value)} {b : Nat} {c : List Value}, (b, c) ∈ blocksFrom n rem → n ≤ b ∧ b < n + rem.length ∧ rem[b - n]? = some c
  | n, [], b, c, h => by cases h
  | n, c0 :: r, b, c, h => by
    rcases List.mem_cons.1 h with e | h
    · cases e; simp
    · obtain ⟨h1, h2, h3⟩ := blocksFrom_mem h
      refine ⟨by omega, by simp; omega, ?_⟩
      rw [show b - n = (b - (n + 1)) + 1 by omega]
      exact h3

theorem mCells_sim (hs : SR P ok m B s w) : ∀ (ks vs vs' : List Value) (n : Nat) (rem : List (List Value)) (m0 : Mu), mCells s n rem ks vs = true → LR m vs vs' →
    (∀ b rb ro z, m0 b = some (rb, ro, z) → b < n ∧ rb < w.heap.size) →
    ∃ m1 : Mu, (∀ b, b < n → m1 b = m0 b) ∧ (∀ b rb ro z, m1 b = some (rb, ro, z) → b < n + rem.length ∧ rb < w.heap.size) ∧ LR m1 ks vs' ∧ ∀ (i : Nat) c, rem[i]? = some c → BlkOK m1 w (n + i) c
  | [], vs, vs', n, rem, m0, h, hl, hd => by
    cases rem with
    | cons c r => cases vs <;> simp [mCells] at h
    | nil =>
      cases vs with
      | cons v vs => simp [mCells] at h
      | nil =>
        have := hl.nil_inv
        subst this
        exact ⟨m0, fun _ _ => rfl, fun b rb ro z hb => hd b rb ro z hb, LR.nil m0, fun i c hc => by simp at hc⟩
  | k :: ks, vs, vs', n, rem, m0, h, hl, hd => by
    cases vs with
    | nil => cases rem <;> simp [mCells] at h
    | cons v vs =>
      obtain ⟨v1, vs1, rfl, hv, hl2⟩ := hl.cons_inv
      have h' : (match mCell s n rem k v with
        | some (n', rem') => mCells s n' rem' ks vs
        | none => false) = true := by
        cases rem <;> exact h
      clear h
      cases hm : mCell s n rem k v with
      | none => rw [hm] at h'; cases h'
      | some x =>
        obtain ⟨n', rem'⟩ := x
        rw [hm] at h'
        simp only at h'
        unfold mCell at hm
        split at hm
        · -- a row
          rename_i kb len cap
          split at hm
          · rename_i b o len' cap' c rem
            obtain ⟨hb, hm5⟩ := cond_some hm
            clear hm
            simp only [Bool.and_eq_true, Nat.beq_eq] at hb
            obtain ⟨⟨⟨⟨rfl, rfl⟩, rfl⟩, hcl⟩, hleaf⟩ := hb
            split at hm5
            · rename_i l hload
              obtain ⟨hsame, hm6⟩ := cond_some hm5
              clear hm5
              have := sameVs_eq hsame
              subst this
              simp only [Option.some.injEq, Prod.mk.injEq] at hm6
              obtain ⟨rfl, rfl⟩ := hm6
              obtain ⟨b', o1, rb, ro, z, o', cap', hab, hmb, rfl, hcap, ho⟩ := hv.slice_inv
              cases hab
              let m1 : Mu := fun x => if x = kb then some (rb, o', z) else m0 x
              have hm1 : m1 kb = some (rb, o', z) := if_pos rfl
              have hm1' : ∀ x, x ≠ kb → m1 x = m0 x := fun x hx => if_neg hx
              have hd1 : ∀ b rb' ro' z', m1 b = some (rb', ro', z') → b < kb + 1 ∧ rb' < w.heap.size := by
                intro b rb' ro' z' hb
                by_cases hx : b = kb
                · subst hx
                  rw [hm1] at hb
                  cases hb
                  exact ⟨by omega, (hs.dom _ _ _ _ hmb).2⟩
                · rw [hm1' b hx] at hb
                  have := hd _ _ _ _ hb
                  exact ⟨by omega, this.2⟩
              obtain ⟨m2, g1, g2, g3, g4⟩ := mCells_sim hs ks vs vs1 (kb + 1) rem m1 h' hl2 hd1
              have hm2 : m2 kb = some (rb, o', z) := by rw [g1 kb (by omega)]; exact hm1
              refine ⟨m2, fun b hb => ?_, fun b rb ro z hb => ?_, ?_, fun i c hc => ?_⟩
              · rw [g1 b (by omega)]; exact hm1' b (by omega)
              · have := g2 b rb ro z hb
                exact ⟨by simp; omega, this.2⟩
              · exact g3.cons (.slice hm2 hcap (.inl rfl))
              · cases i with
                | succ i => rw [show kb + (i + 1) = kb + 1 + i by omega]; exact g4 i c hc
                | zero =>
                  simp only [List.getElem?_cons_zero, Option.some.injEq] at hc
                  subst hc
                  refine ⟨hleaf, fun rb' ro' z' hb => ?_⟩
                  rw [Nat.add_zero, hm2] at hb
                  cases hb
                  unfold loadN at hload
                  split at hload
                  · rename_i c0 rd hgb
                    obtain ⟨hbl, hload⟩ := cond_some hload
                    rw [Nat.ble_eq] at hbl
                    simp only [Option.some.injEq] at hload
                    obtain ⟨c', e, fz, k1, k2, k3, _⟩ := hs.cells hmb hgb
                    refine ⟨c', e, fz, k1, k2, fun i v hv => ?_⟩
                    have hi : i < len := by rw [← hcl]; exact (List.getElem?_eq_some_iff.1 hv).1
                    have ho' : o' = ro + o := ho.resolve_right (by have := hcap.1; omega)
                    have hvl := List.all_eq_true.1 hleaf v (List.mem_of_getElem? hv)
                    rw [← hload, List.getElem?_take, if_pos hi, List.getElem?_drop] at hv
                    obtain ⟨v', k4, k5⟩ := k3 _ _ hv
                    rw [k5.of_isLeaf hvl] at k4
                    rw [ho', Nat.add_assoc]
                    exact k4
                  · cases hload
            · cases hm5
          · cases hm
        · -- plain
          obtain ⟨hb, hm5⟩ := cond_some hm
          clear hm
          simp only [Bool.and_eq_true] at hb
          simp only [Option.some.injEq, Prod.mk.injEq] at hm5
          obtain ⟨rfl, rfl⟩ := hm5
          have := sameV_eq hb.2
          subst this
          have := hv.of_isLeaf hb.1
          subst this
          obtain ⟨m2, g1, g2, g3, g4⟩ := mCells_sim hs ks vs vs1 n rem m0 h' hl2 hd
          exact ⟨m2, g1, g2, g3.cons (.leaf hb.1), g4⟩

/-- The answers: what the struct's cells and the rows hold; what is answered. -/
abbrev Tab := List (List Value × List (List Value) × Value)
def findTab (s : S) (G : Nat) (cells : List Value) : Tab → Option Value
  | [] => none
  | (k, rem, r) :: rest => bif mCells s G rem k cells then some r else findTab s G cells rest
theorem findTab_mem {G : Nat} {cells : List Value} {r : Value} : ∀ {t : Tab}, findTab s G cells t = some r → ∃ k rem, (k, rem, r) ∈ t ∧ mCells s G rem k cells = true
  | [], h => by cases h
  | (k, rem, r') :: rest, h => by
    unfold findTab at h
    cases hb : mCells s G rem k cells with
    | true =>
      rw [hb, cond_true, Option.some.injEq] at h
      subst h
      exact ⟨k, rem, by simp, hb⟩
    | false =>
      rw [hb, cond_false] at h
      obtain ⟨k', rem', h1, h2⟩ := findTab_mem h
      exact ⟨k', rem', List.mem_cons_of_mem _ h1, h2⟩
end

def memoT (P : Program) (f0 : FuncId) (gl : List (Nat × List Value)) (t : Tab) : Ext := fun _ f args s =>
  bif Nat.beq f f0 then (match args with
    | [.agg x] => match findTab s P.globals.size x.toList t with
      | some r => bif globB s gl then some (.ret r, s) else none
      | none => none
    | _ => none) else none

/-- What is asked of each answer. -/
def TabOK (P : Program) (e0 : Ev) (f0 : FuncId) (gl : List (Nat × List Value)) (x : List Value × List (List Value) × Value) : Prop :=
  leafy x.2.2 = true ∧ ∃ s1, e0.call f0 [.agg ⟨x.1⟩] (isoS (blocksFrom P.globals.size x.2.1 ++ gl) (P.globals.size + x.2.1.length)) = some (.ret x.2.2, s1)

theorem extAll_memoT {P : Program} {f0 : FuncId} {gl : List (Nat × List Value)} {t : Tab} {e0 : Ev} (he0 : ∀ B, ∀ ok : Cx, ok.ok = okC P → Sound P ok B e0) (hgl : glOK P gl = true)
    (ht : ∀ x ∈ t, TabOK P e0 f0 gl x) : ExtAll P (memoT P f0 gl t) := by
  intro B e he f args s r s' h ok hok m w args' hs hB ha
  unfold memoT at h
  obtain ⟨hff, h3⟩ := cond_some h
  clear h
  have := Nat.eq_of_beq_eq_true hff
  subst this
  split at h3
  · rename_i x
    split at h3
    · rename_i r0 hfm
      obtain ⟨hg, h4⟩ := cond_some h3
      simp only [Option.some.injEq, Prod.mk.injEq] at h4
      obtain ⟨rfl, rfl⟩ := h4
      obtain ⟨k, rem, hmem, hmc⟩ := findTab_mem hfm
      obtain ⟨hr, s1, hcall⟩ := ht _ hmem
      simp only at hr hcall
      obtain ⟨v', r2, e1, hv, hrest⟩ := ha.cons_inv
      have := hrest.nil_inv
      subst this
      obtain ⟨x', rfl, hx⟩ := hv.agg_inv
      let m0 : Mu := fun b => if b < P.globals.size then m b else none
      have hm0 : ∀ b, b < P.globals.size → m0 b = m b := fun b hb => if_pos hb
      obtain ⟨m1, g1, g2, g3, g4⟩ := mCells_sim hs k x.toList x'.toList P.globals.size rem m0 hmc hx (fun b rb ro z hb => by
        by_cases hlt : b < P.globals.size
        · rw [hm0 b hlt] at hb; exact ⟨hlt, (hs.dom _ _ _ _ hb).2⟩
        · have : m0 b = none := if_neg hlt
          rw [this] at hb; cases hb)
      have hm1 : ∀ b, b < P.globals.size → m1 b = m b := fun b hb => (g1 b hb).trans (hm0 b hb)
      have ea : args'.toList = [.agg x'] := e1
      refine iso_sim (m0 := m1) hs hB (he0 w.heap.size (baseCx P) rfl) hcall hr (fun g hgl => ?_) (fun b rb ro z hb => g2 b rb ro z hb) (fun b c hm => ?_) (fun b c hm => ?_) ?_
      · rw [hm1 g hgl]; exact hs.glob g hgl
      · rcases List.mem_append.1 hm with h | h
        · have := blocksFrom_mem h; omega
        · have h1 := List.all_eq_true.1 hgl _ h
          simp only [Bool.and_eq_true, blt_true] at h1
          omega
      · rcases List.mem_append.1 hm with h | h
        · obtain ⟨h1, h2, h3⟩ := blocksFrom_mem h
          have := g4 _ _ h3
          rw [show P.globals.size + (b - P.globals.size) = b by omega] at this
          exact this
        · exact glob_iso hs hgl hg hm1 b c h
      · rw [ea]
        exact LR.one (LR.agg g3)
    · cases h3
  · cases h3
end Go.Sv
