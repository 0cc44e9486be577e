/- The evaluator is sound: operations that touch or read no memory. -/
import Derived.Test.YteialihbechmoaaGreatDoorE01
import Derived.Laws.BytesString

/- Operations that touch no memory: the evaluator's value is the machine's. -/
namespace Go.Sv
open Go.RowKit (Below)

section
variable {P : Program} {w : World} {m : Mu}

theorem natOf_some {k : IntKind} {n : Int} {x : Nat} (h : natOf k n = some x) : n = Int.ofNat x ∧ x < topOf k := by
  cases n with
  | ofNat y =>
    obtain ⟨hb, h⟩ := cond_some h
    simp only [Option.some.injEq] at h
    subst h
    exact ⟨rfl, blt_true.1 hb⟩
  | negSucc y => simp [natOf] at h

def logTop : IntKind → Nat
  | .i8 => 7 | .i16 => 15 | .i32 => 31 | .i64 => 63 | .u8 => 8 | .u16 => 16 | .u32 => 32 | .u64 => 64
theorem topOf_eq (k : IntKind) : topOf k = 2 ^ logTop k := by cases k <;> rfl
theorem logTop_le (k : IntKind) : logTop k ≤ k.bits := by cases k <;> decide
theorem top_le_bits (k : IntKind) : topOf k ≤ 2 ^ k.bits := by rw [topOf_eq]; exact Nat.pow_le_pow_right (by omega) (logTop_le k)

theorem bitsQ_eq {k : IntKind} {f : Nat → Nat → Nat} {g : BitVec k.bits → BitVec k.bits → BitVec k.bits} {a b : Int}
    (hf : ∀ x y, x < 2 ^ logTop k → y < 2 ^ logTop k → f x y < 2 ^ logTop k)
    (hg : ∀ x y : BitVec k.bits, (g x y).toNat = f x.toNat y.toNat) :
    bitsQ k f g a b = .int k (k.wrap ((g (BitVec.ofInt k.bits a) (BitVec.ofInt k.bits b)).toNat : Int)) := by
  unfold bitsQ
  split
  · rename_i x y hx0 hy0
    obtain ⟨rfl, hx⟩ := natOf_some hx0
    obtain ⟨rfl, hy⟩ := natOf_some hy0
    clear hx0 hy0
    have ht := top_le_bits k
    rw [hg]
    have ex : (BitVec.ofInt k.bits (Int.ofNat x)).toNat = x := by
      rw [BitVec.toNat_ofInt]
      simp only [Int.ofNat_eq_natCast]
      rw [← Int.natCast_emod, Int.toNat_natCast, Nat.mod_eq_of_lt (by omega)]
    have ey : (BitVec.ofInt k.bits (Int.ofNat y)).toNat = y := by
      rw [BitVec.toNat_ofInt]
      simp only [Int.ofNat_eq_natCast]
      rw [← Int.natCast_emod, Int.toNat_natCast, Nat.mod_eq_of_lt (by omega)]
    rw [ex, ey]
    have hlt : f x y < topOf k := by rw [topOf_eq] at hx hy ⊢; exact hf x y hx hy
    have e := wrapQ_eq k (Int.ofNat (f x y))
    simp only [wrapQ, blt_true.2 hlt, cond_true] at e
    show Value.int k (Int.ofNat (f x y)) = Value.int k (k.wrap (Int.ofNat (f x y)))
    rw [← e]
  · rfl

theorem intBin_sim {op : BinOp} {t : TypeId} {k : IntKind} {a b : Int} {v : Value} (hs : isShift op = false) (h : intBin op k a b = some v) :
    (binOp op t (.int k a) (.int k b)).run P w = .ok v w := by
  cases op <;> simp only [isShift, Bool.true_eq_false] at hs <;> simp only [intBin] at h
  case add => simp only [Option.some.injEq] at h; subst h; simp [binOp, Op.intArith, wrapQ_eq]
  case sub => simp only [Option.some.injEq] at h; subst h; simp [binOp, Op.intArith, wrapQ_eq]
  case mul => simp only [Option.some.injEq] at h; subst h; simp [binOp, Op.intArith, wrapQ_eq]
  case quo =>
    by_cases hb : b = 0
    · subst hb; simp [eqQ_eq] at h
    · have : (b == 0) = false := by simpa using hb
      rw [eqQ_eq, this] at h
      simp only [cond_false, Option.some.injEq] at h; subst h; simp [binOp, Op.intDiv, hb, wrapQ_eq]
  case rem =>
    by_cases hb : b = 0
    · subst hb; simp [eqQ_eq] at h
    · have : (b == 0) = false := by simpa using hb
      rw [eqQ_eq, this] at h
      simp only [cond_false, Option.some.injEq] at h; subst h; simp [binOp, Op.intDiv, hb]
  case and =>
    simp only [Option.some.injEq] at h; subst h
    rw [bitsQ_eq (f := Nat.land) (fun x y hx _ => Nat.lt_of_le_of_lt Nat.and_le_left hx) (fun x y => BitVec.toNat_and x y)]
    simp [binOp, Op.intBits]
  case or =>
    simp only [Option.some.injEq] at h; subst h
    rw [bitsQ_eq (f := Nat.lor) (fun x y hx hy => Nat.or_lt_two_pow hx hy) (fun x y => BitVec.toNat_or x y)]
    simp [binOp, Op.intBits]
  case xor =>
    simp only [Option.some.injEq] at h; subst h
    rw [bitsQ_eq (f := Nat.xor) (fun x y hx hy => Nat.xor_lt_two_pow hx hy) (fun x y => BitVec.toNat_xor x y)]
    simp [binOp, Op.intBits]
  case andNot => simp only [Option.some.injEq] at h; subst h; simp [binOp, Op.intBits]
  case eql => simp only [Option.some.injEq] at h; subst h; simp [binOp, Op.intCmp, eqQ_eq]
  case neq => simp only [Option.some.injEq] at h; subst h; simp [binOp, Op.intCmp, eqQ_eq, bne]
  case lss => simp only [Option.some.injEq] at h; subst h; simp [binOp, Op.intCmp, leQ_eq]; rw [Bool.eq_iff_iff]; simp
  case leq => simp only [Option.some.injEq] at h; subst h; simp [binOp, Op.intCmp, leQ_eq]
  case gtr => simp only [Option.some.injEq] at h; subst h; simp [binOp, Op.intCmp, leQ_eq]; rw [Bool.eq_iff_iff]; simp
  case geq => simp only [Option.some.injEq] at h; subst h; simp [binOp, Op.intCmp, leQ_eq]

theorem shlQ_sim {t : TypeId} {k k' : IntKind} {a b : Int} {v : Value} (h : shlQ k a b = some v) :
    (binOp .shl t (.int k a) (.int k' b)).run P w = .ok v w := by
  cases b with
  | negSucc n => cases a <;> simp [shlQ] at h
  | ofNat n =>
    have hn : ¬ (Int.ofNat n < 0) := by simp
    cases a with
    | ofNat x =>
      simp only [shlQ, Option.some.injEq] at h; subst h
      simp only [binOp, Op.shift, if_neg hn, Sem.run_pure, wrapQ_eq]
      have : (Int.ofNat (x * 2 ^ min n k.bits)) = Int.ofNat x * 2 ^ min (Int.ofNat n).toNat k.bits := by simp
      rw [this]
    | negSucc x =>
      simp only [shlQ, Option.some.injEq] at h; subst h
      simp only [binOp, Op.shift, if_neg hn, Sem.run_pure, wrapQ_eq]
      rfl
theorem shrQ_sim {t : TypeId} {k k' : IntKind} {a b : Int} {v : Value} (h : shrQ k a b = some v) :
    (binOp .shr t (.int k a) (.int k' b)).run P w = .ok v w := by
  cases b with
  | negSucc n => cases a <;> simp [shrQ] at h
  | ofNat n =>
    have hn : ¬ (Int.ofNat n < 0) := by simp
    cases a with
    | ofNat x =>
      simp only [shrQ, Option.some.injEq] at h; subst h
      simp only [binOp, Op.shift, if_neg hn, Sem.run_pure]
      have : (Int.ofNat (x / 2 ^ min n k.bits)) = (Int.ofNat x).fdiv (2 ^ min (Int.ofNat n).toNat k.bits) := by
        rw [Int.fdiv_eq_ediv_of_nonneg _ (Int.pow_nonneg (by omega))]
        simp
      rw [this]
    | negSucc x =>
      simp only [shrQ, Option.some.injEq] at h; subst h
      simp only [binOp, Op.shift, if_neg hn, Sem.run_pure]
      rfl
end
end Go.Sv

/- Operations that touch no memory, as the machine carries them out. -/
namespace Go.Sv
open Go.RowKit (Below)

section
variable {P : Program} {w : World} {m : Mu}

theorem isLeaf_of_leafOnly {r : Option Value} {v : Value} (h : leafOnly r = some v) : r = some v ∧ isLeaf v = true := by
  unfold leafOnly at h
  split at h
  · obtain ⟨hb, h⟩ := cond_some h
    simp only [Option.some.injEq] at h; subst h
    exact ⟨rfl, hb⟩
  · simp at h

theorem addr_add (b o n : Nat) : (Addr.add ⟨b, o, none⟩ n) = ⟨b, o + n, none⟩ := by
  unfold Addr.add; split
  · rename_i h; subst h; rfl
  · rfl

theorem nilEq_in {t : TypeId} {a b : Value} {r : Bool} (n : Nat) (h : nilEq (P.underlying t) a b = some r) :
    (Op.equalIn (n + 1) t a b).run P w = .ok r w := by
  unfold nilEq at h
  split at h <;> simp only [Option.some.injEq, reduceCtorEq] at h <;> subst h <;> rename_i hu <;> simp [Op.equalIn, run_underlying hu]

theorem nilEq_run {t : TypeId} {a b : Value} {r : Bool} (h : nilEq (P.underlying t) a b = some r) :
    (binOp .eql t a b).run P w = .ok (.bool r) w ∧ (binOp .neq t a b).run P w = .ok (.bool (!r)) w := by
  have he : (Op.equal t a b).run P w = .ok r w := nilEq_in 9999 h
  have e1 : binOp .eql t a b = (do pure (.bool (← Op.equal t a b))) := by
    unfold nilEq at h
    split at h <;> simp only [Option.some.injEq, reduceCtorEq] at h <;> rfl
  have e2 : binOp .neq t a b = (do pure (.bool (!(← Op.equal t a b)))) := by
    unfold nilEq at h
    split at h <;> simp only [Option.some.injEq, reduceCtorEq] at h <;> rfl
  rw [e1, e2]
  simp [he]

theorem eqGuard_run_nil {t : TypeId} {op : BinOp} {x y : Operand} {a b : Value} {r : Bool} {d : Option TypeDesc} (h : nilEq d a b = some r) :
    (eqGuard op t x y a b).run P w = .ok () w := by
  unfold nilEq at h
  split at h <;> simp only [Option.some.injEq, reduceCtorEq] at h <;> cases op <;> simp [eqGuard]

theorem nilEq_VR {d : Option TypeDesc} {a b a' b' : Value} {r : Bool} (h : nilEq d a b = some r) (ha : VR m a a') (hb : VR m b b') : nilEq d a' b' = some r := by
  unfold nilEq at h
  split at h <;> simp only [Option.some.injEq, reduceCtorEq] at h <;> subst h
  case h_1 =>
    cases ha.of_isLeaf rfl
    cases hb with
    | leaf h => rfl
    | ptr h => rfl
  case h_2 => obtain ⟨_, _, _, _, _, _, _, rfl⟩ := ha.ptr_inv; cases hb.of_isLeaf rfl; rfl
  case h_3 =>
    cases ha.of_isLeaf rfl
    cases hb with
    | leaf h => rfl
    | slice h => rfl
  case h_4 => obtain ⟨_, _, _, _, _, _, _, _, _, rfl, _⟩ := ha.slice_inv; cases hb.of_isLeaf rfl; rfl
  case h_5 =>
    cases ha.of_isLeaf rfl
    cases hb with
    | leaf h => rfl
    | map h => rfl
  case h_6 => obtain ⟨_, rfl, _⟩ := ha.map_inv; cases hb.of_isLeaf rfl; rfl
  case h_7 => cases ha.of_isLeaf rfl; obtain ⟨_, _, _, rfl, _⟩ := hb.func_inv; rfl
  case h_8 => cases hb.of_isLeaf rfl; obtain ⟨_, _, _, rfl, _⟩ := ha.func_inv; rfl
  case h_9 => cases ha.of_isLeaf rfl; obtain ⟨_, rfl, _⟩ := hb.iface_inv; rfl
  case h_10 => cases hb.of_isLeaf rfl; obtain ⟨_, rfl, _⟩ := ha.iface_inv; rfl

theorem dl_eq {v v' : Value} (h : VR m v v') (hd : dl v = true) : v' = v := h.of_deepLeaf _ hd

theorem eqGuard_int {op : BinOp} {t : TypeId} {x y : Operand} {k k' : IntKind} {a b : Int} : (eqGuard op t x y (.int k a) (.int k' b)).run P w = .ok () w := by
  cases op <;> simp [eqGuard]

theorem binA_sim {op : BinOp} {t : TypeId} {x y : Operand} {a b a' b' v : Value} (ha : VR m a a') (hb : VR m b b') (h : binA P op t x y a b = some v) :
    (do eqGuard op t x y a' b'; binOp op t a' b').run P w = .ok v w ∧ isLeaf v = true := by
  unfold binA at h
  split at h
  · rename_i k n
    cases ha.of_isLeaf rfl
    split at h
    · rename_i k' mm
      cases hb.of_isLeaf rfl
      simp only [Sem.run_bind, eqGuard_int, Result.andThen_ok]
      unfold binInt at h
      cases hs : isShift op with
      | true =>
        rw [hs, cond_true] at h
        cases op <;> simp [isShift] at hs
        · refine ⟨shlQ_sim h, ?_⟩
          cases n <;> cases mm <;> simp [shlQ] at h <;> subst h <;> rfl
        · refine ⟨shrQ_sim h, ?_⟩
          cases n <;> cases mm <;> simp [shrQ] at h <;> subst h <;> rfl
      | false =>
        rw [hs, cond_false] at h
        obtain ⟨hk, h2⟩ := cond_some h
        clear h
        rw [sameKind_eq, decide_eq_true_eq] at hk
        subst hk
        refine ⟨intBin_sim hs h2, ?_⟩
        have h := h2
        clear h2
        cases op <;> simp [intBin] at h <;> first | (subst h; rfl) | (obtain ⟨_, rfl⟩ := h; rfl) | (subst h; unfold bitsQ; split <;> rfl) | (split at h <;> simp at h; subst h; rfl) | skip
        all_goals (cases hq : eqQ mm 0 <;> simp [hq] at h <;> subst h <;> rfl)
    · simp at h
  · unfold binO at h
    cases hd : (dl a && dl b) with
    | true =>
      rw [hd, cond_true] at h
      simp only [Bool.and_eq_true] at hd
      rw [dl_eq ha hd.1, dl_eq hb hd.2]
      obtain ⟨h1, h2⟩ := isLeaf_of_leafOnly h
      exact ⟨asks_run _ _ h1 w, h2⟩
    | false =>
      rw [hd, cond_false] at h
      split at h <;> try simp at h
      · split at h <;> simp at h
        rename_i r hr
        subst h
        have hr' := nilEq_VR hr ha hb
        simp only [Sem.run_bind, eqGuard_run_nil hr', Result.andThen_ok]
        exact ⟨(nilEq_run hr').1, rfl⟩
      · split at h <;> simp at h
        rename_i r hr
        subst h
        have hr' := nilEq_VR hr ha hb
        simp only [Sem.run_bind, eqGuard_run_nil hr', Result.andThen_ok]
        exact ⟨(nilEq_run hr').2, rfl⟩

/-! #### Parts laid over a row -/

theorem over_length {c : List Value} {o : Nat} {vs : List Value} (h : o + vs.length ≤ c.length) : (over c o vs).length = c.length := by
  simp [over]; omega

theorem over_getElem? {c : List Value} {o : Nat} {vs : List Value} (h : o + vs.length ≤ c.length) (i : Nat) :
    (over c o vs)[i]? = if o ≤ i ∧ i < o + vs.length then vs[i - o]? else c[i]? := by
  unfold over
  rw [List.append_assoc, List.getElem?_append, List.length_take]
  have e : min o c.length = o := by omega
  rw [e]
  by_cases h1 : i < o
  · rw [if_pos h1, if_neg (by omega), List.getElem?_take, if_pos h1]
  · rw [if_neg h1, List.getElem?_append]
    by_cases h2 : i - o < vs.length
    · rw [if_pos h2, if_pos (by omega)]
    · rw [if_neg h2, if_neg (by omega), List.getElem?_drop]
      congr 1; omega

theorem LR.over {x x' y y' : List Value} {o : Nat} (h : LR m x x') (hy : LR m y y') : LR m (over x o y) (over x' o y') := by
  unfold Sv.over
  rw [← hy.1]
  exact (h.take o).append hy |>.append (h.drop _)

theorem foldl_over : ∀ (vs : List Value) (c : List Value) (o k : Nat), o + k + vs.length ≤ c.length →
    (vs.zipIdx k).foldl (fun cs p => cs.set (o + p.2) p.1) c = over c (o + k) vs
  | [], c, o, k, _ => by simp [over]
  | v :: vs, c, o, k, h => by
    simp only [List.length_cons] at h
    simp only [List.zipIdx_cons, List.foldl_cons]
    rw [foldl_over vs (c.set (o + k) v) o (k + 1) (by simp; omega)]
    apply List.ext_getElem?
    intro i
    rw [over_getElem? (by simp; omega), over_getElem? (by simp; omega)]
    simp only [List.length_cons]
    by_cases h1 : o + (k + 1) ≤ i ∧ i < o + (k + 1) + vs.length
    · rw [if_pos h1, if_pos (by omega)]
      have : i - (o + k) = (i - (o + (k + 1))) + 1 := by omega
      rw [this, List.getElem?_cons_succ]
    · rw [if_neg h1]
      by_cases h2 : i = o + k
      · subst h2
        rw [if_pos (by omega), Nat.sub_self, List.getElem?_cons_zero, List.getElem?_set, if_pos rfl, if_pos (by omega)]
      · rw [if_neg (by omega), List.getElem?_set, if_neg (by omega)]

theorem fill_sim (place : Nat → Option (Nat × Nat)) : ∀ (parts parts' : List (Nat × Value)) (cells : List Value) (cells' : Array Value) (r : List Value),
    parts.length = parts'.length → (∀ (i : Nat) (p p' : Nat × Value), parts[i]? = some p → parts'[i]? = some p' → p'.1 = p.1 ∧ VR m p.2 p'.2) → LR m cells cells'.toList →
    fillL place cells parts = some r → ∃ r', Instr.fill place cells' parts' = some r' ∧ LR m r r'.toList
  | [], parts', cells, cells', r, hl, hp, hc, h => by
    cases parts' with
    | cons => simp at hl
    | nil => simp only [fillL, Option.some.injEq] at h; subst h; exact ⟨cells', rfl, hc⟩
  | (i, v) :: rest, parts', cells, cells', r, hl, hp, hc, h => by
    cases parts' with
    | nil => simp at hl
    | cons p' rest' =>
      obtain ⟨i', v'⟩ := p'
      have h0 := hp 0 (i, v) (i', v') rfl rfl
      simp only at h0
      obtain ⟨rfl, hv⟩ := h0
      simp only [fillL] at h
      split at h
      · simp at h
      · rename_i off size hpl
        obtain ⟨hb, h⟩ := cond_some h
        simp only [Bool.and_eq_true, Nat.beq_eq, Nat.ble_eq] at hb
        have hvc := LR.cells hv
        have hl1 := hvc.1
        have hl2 := hc.1
        simp only [Array.length_toList] at hl1 hl2 hb
        obtain ⟨r', hr', hlr⟩ := fill_sim place rest rest' (over cells off v.cells.toList) (over cells'.toList off v'.cells.toList).toArray r (by simpa using hl)
          (fun j q q' hq hq' => hp (j + 1) q q' (by simpa using hq) (by simpa using hq')) (by simpa using hc.over hvc) h
        refine ⟨r', ?_, hlr⟩
        simp only [Instr.fill, hpl]
        rw [if_neg (by simp; omega)]
        rw [← hr']
        congr 1
        apply array_ext_toList
        have key := foldl_over v'.cells.toList cells'.toList off 0 (by simp; omega)
        rw [Nat.add_zero] at key
        show _ = over cells'.toList off v'.cells.toList
        rw [← key, ← Array.foldl_toList, Array.toList_zipIdx]
        have : ∀ (l : List (Value × Nat)) (a : Array Value), (l.foldl (fun cs p => cs.setIfInBounds (off + p.2) p.1) a).toList = l.foldl (fun cs p => cs.set (off + p.2) p.1) a.toList := by
          intro l
          induction l with
          | nil => intro a; rfl
          | cons p l ih => intro a; simp only [List.foldl_cons]; rw [ih]; simp
        exact this _ _
end
end Go.Sv

/- Operations that touch no memory: rows, fields, parts; and all of them in one statement. -/
namespace Go.Sv
open Go.RowKit (Below)

section
variable {P : Program} {w : World} {m : Mu}

theorem big_pos : 0 < big := by unfold big; omega

theorem bound_run {v v' : Value} {y y' i : Nat} {code : BoundsCode} (hv : VR m v v') (hy : y ≤ y') (h : boundA v y = some i) :
    (Instr.sliceBound v' y' code).run P w = .ok i w ∧ i ≤ y := by
  unfold boundA at h
  split at h
  · cases hv.of_isLeaf rfl
    rename_i k j
    obtain ⟨hb, h⟩ := cond_some h
    simp only [Option.some.injEq] at h; subst h
    rw [Nat.ble_eq] at hb
    have : (0 : Int) ≤ Int.ofNat j ∧ Int.ofNat j ≤ (y' : Int) := ⟨by simp, by simp; omega⟩
    simp [Instr.sliceBound, asIntOf, hb]
    omega
  · simp at h

theorem optVR {ρ ρ' : Operand → Value} {x : Option Operand} (h : ∀ y, x = some y → VR m (ρ y) (ρ' y)) :
    (∀ v, x.map ρ = some v → ∃ v', x.map ρ' = some v' ∧ VR m v v') ∧ (x.map ρ = none → x.map ρ' = none) := by
  cases x with
  | none => simp
  | some y => simp; exact h y rfl

def OptR (m : Mu) : Option Value → Option Value → Prop
  | none, none => True
  | some v, some v' => VR m v v'
  | _, _ => False

theorem bounds_run {len cap cap' l hh c o z : Nat} {isS : Bool} {lo hi mx lo' hi' mx' : Option Value} (hlo : OptR m lo lo') (hhi : OptR m hi hi') (hmx : OptR m mx mx')
    (hcap : capRel len cap cap' o z) (h : boundsA len cap lo hi mx = some (l, hh, c)) :
    ∃ m', (Instr.sliceBounds isS len cap' lo' hi' mx').run P w = .ok (l, hh, m') w ∧ l ≤ hh ∧ hh ≤ m' ∧ m' ≤ cap' ∧
      ((mx.isSome = true ∧ c = m' - l ∧ m' ≤ lbOf cap) ∨ (mx = none ∧ m' = cap' ∧ c = cap - l ∧ hh ≤ lbOf cap)) := by
  have hlb : lbOf cap ≤ cap' := by
    unfold lbOf
    rcases hcap.2 with ⟨h1, h2⟩ | ⟨h1, h2, _⟩
    · rw [blt_true.2 h1, cond_true]; omega
    · have : Nat.blt cap big = false := by
        cases hb : Nat.blt cap big with
        | false => rfl
        | true => have := blt_true.1 hb; omega
      rw [this, cond_false]; exact h2
  have hll : len ≤ lbOf cap := by
    unfold lbOf
    rcases hcap.2 with ⟨h1, h2⟩ | ⟨h1, h2, h3, _⟩
    · rw [blt_true.2 h1, cond_true]; have := hcap.1; omega
    · have : Nat.blt cap big = false := by
        cases hb : Nat.blt cap big with
        | false => rfl
        | true => have := blt_true.1 hb; omega
      rw [this, cond_false]; exact h3
  unfold boundsA at h
  cases mx with
  | some v =>
    cases mx' with
    | none => exact hmx.elim
    | some v' =>
      simp only at h
      split at h
      · rename_i mm hv hm
        cases hi' with
        | none => exact hhi.elim
        | some hv' =>
          obtain ⟨rm, hm1⟩ := bound_run (P := P) (w := w) (code := if isS then .slice3Acap else .slice3Alen) hmx hlb hm
          split at h
          · rename_i h' hh'
            obtain ⟨rh, hh1⟩ := bound_run (P := P) (w := w) (code := .slice3B) hhi (Nat.le_refl _) hh'
            split at h
            · rename_i l' hl'
              simp only [Option.some.injEq, Prod.mk.injEq] at h
              obtain ⟨rfl, rfl, rfl⟩ := h
              cases lo with
              | none =>
                cases lo' with
                | some => exact hlo.elim
                | none =>
                  simp only [optBound, Option.some.injEq] at hl'
                  subst hl'
                  exact ⟨mm, by simp [Instr.sliceBounds, rm, rh], by omega, hh1, by omega, .inl ⟨rfl, rfl, hm1⟩⟩
              | some lv =>
                cases lo' with
                | none => exact hlo.elim
                | some lv' =>
                  simp only [optBound] at hl'
                  obtain ⟨rl, hl1⟩ := bound_run (P := P) (w := w) (code := .slice3C) hlo (Nat.le_refl _) hl'
                  exact ⟨mm, by simp [Instr.sliceBounds, rm, rh, rl], hl1, hh1, by omega, .inl ⟨rfl, rfl, hm1⟩⟩
            · simp at h
          · simp at h
      · simp at h
  | none =>
    cases mx' with
    | some => exact hmx.elim
    | none =>
      simp only at h
      split at h
      · rename_i h' hh'
        obtain ⟨hb, h⟩ := cond_some h
        rw [Nat.ble_eq] at hb
        have hr : (match hi' with
            | some v => Instr.sliceBound v cap' (if isS then .sliceAcap else .sliceAlen)
            | none => pure len).run P w = .ok h' w := by
          cases hi with
          | none =>
            cases hi' with
            | some => exact hhi.elim
            | none => simp only [optBound, Option.some.injEq] at hh'; subst hh'; rfl
          | some hv =>
            cases hi' with
            | none => exact hhi.elim
            | some hv' => simp only [optBound] at hh'; exact (bound_run hhi hlb hh').1
        split at h
        · rename_i l' hl'
          simp only [Option.some.injEq, Prod.mk.injEq] at h
          obtain ⟨rfl, rfl, rfl⟩ := h
          have hl2 : l' ≤ h' ∧ (match lo' with
              | some v => Instr.sliceBound v h' .sliceB
              | none => pure 0).run P w = .ok l' w := by
            cases lo with
            | none =>
              cases lo' with
              | some => exact hlo.elim
              | none => simp only [optBound, Option.some.injEq] at hl'; subst hl'; exact ⟨by omega, rfl⟩
            | some lv =>
              cases lo' with
              | none => exact hlo.elim
              | some lv' => simp only [optBound] at hl'; exact ⟨(bound_run (P := P) (w := w) (code := .sliceB) hlo (Nat.le_refl _) hl').2, (bound_run hlo (Nat.le_refl _) hl').1⟩
          refine ⟨cap', ?_, hl2.1, by omega, Nat.le_refl _, .inr ⟨rfl, rfl, rfl, hb⟩⟩
          cases hi' <;> cases lo' <;> simp_all [Instr.sliceBounds]
        · simp at h
      · simp at h

theorem capRel_exact {len cap o z : Nat} (h : len ≤ cap) (hb : cap < big) : capRel len cap cap o z := ⟨h, .inl ⟨hb, rfl⟩⟩

/-- What is left of a row behind a cut. -/
theorem slice_on {sz b o rb ro z len cap o' cap' : Nat} {lo hi mx lo' hi' mx' : Option Value} {v : Value} {isS : Bool} (hm : m b = some (rb, ro, z))
    (hcap : capRel len cap cap' o' z) (ho : o' = ro + o ∨ cap' = 0) (hlo : OptR m lo lo') (hhi : OptR m hi hi') (hmx : OptR m mx mx')
    (h : sliceOn sz b o len cap lo hi mx = some v) :
    ∃ l hh m', (Instr.sliceBounds isS len cap' lo' hi' mx').run P w = .ok (l, hh, m') w ∧
      VR m v (.slice (some (if m' = l then ⟨rb, o', none⟩ else ⟨rb, o' + l * sz, none⟩)) (hh - l) (m' - l)) := by
  obtain ⟨hg, h⟩ := cond_some h
  split at h
  · rename_i l hh c hb
    simp only [Option.some.injEq] at h; subst h
    obtain ⟨m', hr, h1, h2, h3, h4⟩ := bounds_run (P := P) (w := w) (isS := isS) hlo hhi hmx hcap hb
    refine ⟨l, hh, m', hr, ?_⟩
    have hgb : cap < big ∨ cap / big = sz + 1 := by
      simp only [Bool.or_eq_true, Nat.beq_eq, blt_true] at hg; exact hg
    have hbp := big_pos
    have hlbb : lbOf cap < big := by
      unfold lbOf
      cases hq : Nat.blt cap big with
      | true => rw [cond_true]; exact blt_true.1 hq
      | false => rw [cond_false]; exact Nat.mod_lt _ hbp
    by_cases hml : m' = l
    · rw [if_pos hml]
      subst hml
      have hh' : hh = m' := by omega
      subst hh'
      refine VR.slice hm ?_ (.inr (by omega))
      rcases h4 with ⟨_, rfl, h5⟩ | ⟨_, h5, rfl, h6⟩
      · exact ⟨by omega, .inl ⟨by omega, rfl⟩⟩
      · rcases hcap.2 with ⟨hc1, hc2⟩ | ⟨hc1, hc2, hc3, hc4⟩
        · exact ⟨by omega, .inl ⟨by omega, by omega⟩⟩
        · -- the row's end: nothing is left in the machine either
          have hge : Nat.blt cap big = false := by
            cases hq : Nat.blt cap big with
            | false => rfl
            | true => have := blt_true.1 hq; omega
          have hlbe : lbOf cap = cap % big := by unfold lbOf; rw [hge, cond_false]
          have hdm := Nat.div_add_mod cap big
          have hlt : cap % big < big := Nat.mod_lt _ hbp
          have hge1 : 1 ≤ cap / big := (Nat.le_div_iff_mul_le hbp).2 (by omega)
          have hmul : big * 1 ≤ big * (cap / big) := Nat.mul_le_mul_left _ hge1
          have he : cap - hh = big * (cap / big) + (cap % big - hh) := by omega
          have hd : (cap - hh) / big = cap / big := by
            rw [he, Nat.mul_add_div hbp, Nat.div_eq_of_lt (show cap % big - hh < big by omega), Nat.add_zero]
          have hmd : (cap - hh) % big = cap % big - hh := by
            rw [he, Nat.mul_add_mod, Nat.mod_eq_of_lt (by omega)]
          refine ⟨by omega, .inr ⟨by omega, by omega, by omega, ?_⟩⟩
          rw [hd]
          have : (hh - hh) * (cap / big - 1) = 0 := by rw [Nat.sub_self, Nat.zero_mul]
          have : o' ≤ z := Nat.le_trans (Nat.le_add_right _ _) hc4
          omega
    · rw [if_neg hml]
      have hc0 : cap' ≠ 0 := by omega
      have ho' : o' = ro + o := ho.resolve_right hc0
      refine VR.slice hm ?_ (.inl (by omega))
      rcases h4 with ⟨_, rfl, h5⟩ | ⟨_, h5, rfl, h6⟩
      · exact ⟨by omega, .inl ⟨by omega, rfl⟩⟩
      · rcases hcap.2 with ⟨hc1, hc2⟩ | ⟨hc1, hc2, hc3, hc4⟩
        · exact ⟨by omega, .inl ⟨by omega, by omega⟩⟩
        · have hge : Nat.blt cap big = false := by
            cases hq : Nat.blt cap big with
            | false => rfl
            | true => have := blt_true.1 hq; omega
          have hlbe : lbOf cap = cap % big := by unfold lbOf; rw [hge, cond_false]
          have hdm := Nat.div_add_mod cap big
          have hlt : cap % big < big := Nat.mod_lt _ hbp
          have hge1 : 1 ≤ cap / big := (Nat.le_div_iff_mul_le hbp).2 (by omega)
          have hmul : big * 1 ≤ big * (cap / big) := Nat.mul_le_mul_left _ hge1
          have he : cap - l = big * (cap / big) + (cap % big - l) := by omega
          have hd : (cap - l) / big = cap / big := by
            rw [he, Nat.mul_add_div hbp, Nat.div_eq_of_lt (show cap % big - l < big by omega), Nat.add_zero]
          have hmd : (cap - l) % big = cap % big - l := by
            rw [he, Nat.mul_add_mod, Nat.mod_eq_of_lt (by omega)]
          have hsz : cap / big = sz + 1 := by
            rcases hgb with hgb | hgb
            · omega
            · exact hgb
          refine ⟨by omega, .inr ⟨by omega, by omega, by omega, ?_⟩⟩
          rw [hd, hsz]
          rw [hsz] at hc4
          simp only [Nat.add_sub_cancel] at hc4 ⊢
          subst h5
          have : m' * sz = l * sz + (m' - l) * sz := by rw [← Nat.add_mul]; congr 1; omega
          omega
  · simp at h

theorem sliceA_sim {t : TypeId} {x x' : Value} {lo hi mx lo' hi' mx' : Option Value} {v : Value} (hx : VR m x x') (hlo : OptR m lo lo') (hhi : OptR m hi hi')
    (hmx : OptR m mx mx') (h : sliceA P t x lo hi mx = some v) : ∃ v', (Instr.sliceAt t x' lo' hi' mx').run P w = .ok v' w ∧ VR m v v' := by
  unfold sliceA at h
  split at h
  · rename_i e b o len cap hu
    obtain ⟨hk, h⟩ := cond_some h
    obtain ⟨b', o1, rb, ro, z, o', cap', ha, hm, rfl, hcap, ho⟩ := hx.slice_inv
    cases ha
    obtain ⟨l, hh, m', hr, hv⟩ := slice_on (P := P) (w := w) (isS := true) hm hcap ho hlo hhi hmx h
    refine ⟨_, ?_, hv⟩
    simp only [Instr.sliceAt, Instr.slice, Sem.run_bind, run_underlying hu, Result.andThen_ok, hr, run_sizeOf hk, Sem.run_pure, Option.map_some, addr_add]
    split <;> rfl
  · rename_i e hu
    obtain ⟨hk, h⟩ := cond_some h
    split at h
    · rename_i q hq
      simp only [Option.some.injEq] at h; subst h
      cases hx.of_isLeaf rfl
      obtain ⟨l, hh, c⟩ := q
      obtain ⟨m', hr, h1, h2, h3, h4⟩ := bounds_run (P := P) (w := w) (isS := true) (o := 0) (z := 0) hlo hhi hmx (capRel_exact (Nat.le_refl 0) big_pos) hq
      have e1 : l = 0 := by omega
      have e2 : hh = 0 := by omega
      have e3 : m' = 0 := by omega
      subst e1; subst e2; subst e3
      refine ⟨_, ?_, .leaf rfl⟩
      simp [Instr.sliceAt, Instr.slice, run_underlying hu, hr, run_sizeOf hk]
    · simp at h
  · rename_i n e b o hu
    obtain ⟨hk, h⟩ := cond_some h
    obtain ⟨b', o1, rb, ro, z, ha, hm, rfl⟩ := hx.ptr_inv
    cases ha
    simp only [Bool.and_eq_true, blt_true] at hk
    obtain ⟨hk, hnb⟩ := hk
    obtain ⟨l, hh, m', hr, hv⟩ := slice_on (P := P) (w := w) (isS := false) (o' := ro + o) (cap' := n) hm (capRel_exact (Nat.le_refl n) hnb) (.inl rfl) hlo hhi hmx h
    refine ⟨_, ?_, hv⟩
    simp only [Instr.sliceAt, Sem.run_bind, run_underlying hu, Result.andThen_ok, Instr.sureAddr, Sem.run_pure, hr, run_sizeOf hk, addr_add]
  · rename_i arr b o hu
    split at h
    · rename_i n e hu2
      obtain ⟨hk, h⟩ := cond_some h
      obtain ⟨b', o1, rb, ro, z, ha, hm, rfl⟩ := hx.ptr_inv
      cases ha
      simp only [Bool.and_eq_true, blt_true] at hk
      obtain ⟨hk, hnb⟩ := hk
      obtain ⟨l, hh, m', hr, hv⟩ := slice_on (P := P) (w := w) (isS := false) (o' := ro + o) (cap' := n) hm (capRel_exact (Nat.le_refl n) hnb) (.inl rfl) hlo hhi hmx h
      refine ⟨_, ?_, hv⟩
      simp only [Instr.sliceAt, Instr.slice, Sem.run_bind, run_underlying hu, run_underlying hu2, asAddr, Result.andThen_ok, Sem.run_pure, hr, run_sizeOf hk, addr_add]
    · simp at h
  · rename_i s hu
    cases hx.of_isLeaf rfl
    cases mx with
    | some => simp at h
    | none =>
      cases mx' with
      | some => exact hmx.elim
      | none =>
        cases hb : optBound s.size hi s.size with
        | none => simp [hb] at h
        | some h' =>
          simp only [hb] at h
          cases hl : optBound 0 lo h' with
          | none => simp [hl] at h
          | some l' =>
            simp only [hl, Option.some.injEq] at h
            subst h
            refine ⟨_, ?_, .leaf rfl⟩
            have hr : (match hi' with
                | some v => Instr.sliceBound v s.size .sliceAlen
                | none => pure s.size).run P w = .ok h' w := by
              cases hi with
              | none =>
                cases hi' with
                | some => exact hhi.elim
                | none => simp only [optBound, Option.some.injEq] at hb; subst hb; rfl
              | some hv =>
                cases hi' with
                | none => exact hhi.elim
                | some hv' => simp only [optBound] at hb; exact (bound_run hhi (Nat.le_refl _) hb).1
            have hl2 : (match lo' with
                | some v => Instr.sliceBound v h' .sliceB
                | none => pure 0).run P w = .ok l' w := by
              cases lo with
              | none =>
                cases lo' with
                | some => exact hlo.elim
                | none => simp only [optBound, Option.some.injEq] at hl; subst hl; rfl
              | some lv =>
                cases lo' with
                | none => exact hlo.elim
                | some lv' => simp only [optBound] at hl; exact (bound_run hlo (Nat.le_refl _) hl).1
            cases hi' <;> cases lo' <;> simp_all [Instr.sliceAt, Instr.slice, run_underlying hu, Instr.sliceBounds]
  · simp at h
end
end Go.Sv

/- Operations that touch no memory: all of them in one statement. -/
namespace Go.Sv
open Go.RowKit (Below)

section
variable {P : Program} {w : World} {m : Mu}

theorem partA_sim {t : TypeId} {cs cs' : Array Value} {off : Nat} {v : Value} (hc : LR m cs.toList cs'.toList) (h : partA P t cs off = some v) :
    ∃ v', (part t cs' off).run P w = .ok v' w ∧ VR m v v' := by
  obtain ⟨hk, h⟩ := cond_some h
  cases ha : aggB P t with
  | true =>
    rw [ha, cond_true, Option.some.injEq] at h; subst h
    refine ⟨.agg (cs'.extract off (off + szOf P t)), ?_, LR.agg ?_⟩
    · simp [part, run_isAgg hk, ha, run_sizeOf hk]
    · have e : (cs'.extract off (off + szOf P t)).toList = (cs'.toList.drop off).take (szOf P t) := by
        simp [Array.toList_extract]
      rw [e]
      exact (hc.drop _).take _
  | false =>
    rw [ha, cond_false] at h
    obtain ⟨v', hv', hr⟩ := hc.getElem? h
    refine ⟨v', ?_, hr⟩
    have : cs'[off]? = some v' := by simpa using hv'
    simp [part, run_isAgg hk, ha, this]

theorem fieldA_sim {t : TypeId} {x x' : Value} {f : Nat} {v : Value} (hx : VR m x x') (h : fieldA P t x f = some v) :
    ∃ v', (Instr.field t x' f).run P w = .ok v' w ∧ VR m v v' := by
  unfold fieldA at h
  split at h
  · rename_i fields cs hu
    obtain ⟨cs', rfl, hc⟩ := hx.agg_inv
    split at h
    · rename_i fd hf
      obtain ⟨v', hr, hv⟩ := partA_sim (w := w) hc h
      refine ⟨v', ?_, hv⟩
      have hf' : fields[f]? = some fd := by simpa using hf
      simp [Instr.field, run_underlying hu, hf', asAgg, hr]
    · simp at h
  · simp at h

theorem fieldAddrA_sim {t : TypeId} {x x' : Value} {f : Nat} {v : Value} (hx : VR m x x') (h : fieldAddrA P t x f = some v) :
    ∃ v', (Instr.fieldAt t x' f).run P w = .ok v' w ∧ VR m v v' := by
  unfold fieldAddrA at h
  split at h
  · rename_i fields b o hu
    obtain ⟨b', o', rb, ro, z, ha, hm, rfl⟩ := hx.ptr_inv
    cases ha
    split at h
    · rename_i fd hf
      cases hz : Nat.beq (szOf P fd.type) 0 with
      | true => simp [hz] at h
      | false =>
        rw [hz, cond_false, Option.some.injEq] at h; subst h
        have hne : szOf P fd.type ≠ 0 := by
          intro e
          have : Nat.beq (szOf P fd.type) 0 = true := by rw [e]; rfl
          rw [this] at hz; cases hz
        have hf' : fields[f]? = some fd := by simpa using hf
        have hsz : (sizeOf fd.type).run P w = .ok (szOf P fd.type) w := by
          unfold szOf at hne ⊢
          cases hi : P.info? fd.type with
          | none => simp [hi] at hne
          | some i => simp [sizeOf, run_typeInfo hi]
        refine ⟨.pointer (some ⟨rb, ro + (o + fd.offset), none⟩), ?_, .ptr hm⟩
        simp [Instr.fieldAt, run_underlying hu, hf', Instr.sureAddr, fieldPlace, hsz, hne, addr_add, Nat.add_assoc]
    · simp at h
  · simp at h

theorem indexAddrA_sim {t : TypeId} {x x' i i' : Value} {v : Value} (hx : VR m x x') (hi : VR m i i') (h : indexAddrA P t x i = some v) :
    ∃ v', (Instr.indexAt t x' i').run P w = .ok v' w ∧ VR m v v' := by
  unfold indexAddrA at h
  split at h
  · rename_i e b o len cap k j hu
    obtain ⟨hb, h⟩ := cond_some h
    simp only [Bool.and_eq_true, blt_true] at hb
    simp only [Option.some.injEq] at h; subst h
    cases hi.of_isLeaf rfl
    obtain ⟨b', o1, rb, ro, z, o', cap', ha, hm, rfl, hcap, ho⟩ := hx.slice_inv
    cases ha
    have hc0 : cap' ≠ 0 := by have := hcap.1; omega
    have ho' : o' = ro + o := ho.resolve_right hc0
    subst ho'
    have hin : (0 : Int) ≤ Int.ofNat j ∧ Int.ofNat j < (len : Int) := ⟨by simp, by simp; omega⟩
    refine ⟨.pointer (some ⟨rb, ro + (o + j * szOf P e), none⟩), ?_, .ptr hm⟩
    simp only [Instr.indexAt, Sem.run_bind, asIntOf, Sem.run_pure, Result.andThen_ok, run_underlying hu, if_pos hin, run_sizeOf hb.2, addr_add]
    simp [Nat.add_assoc]
  · rename_i len e b o k j hu
    obtain ⟨hb, h⟩ := cond_some h
    simp only [Bool.and_eq_true, blt_true] at hb
    simp only [Option.some.injEq] at h; subst h
    cases hi.of_isLeaf rfl
    obtain ⟨b', o', rb, ro, z, ha, hm, rfl⟩ := hx.ptr_inv
    cases ha
    have hin : (0 : Int) ≤ Int.ofNat j ∧ Int.ofNat j < (len : Int) := ⟨by simp, by simp; omega⟩
    refine ⟨.pointer (some ⟨rb, ro + (o + j * szOf P e), none⟩), ?_, .ptr hm⟩
    simp only [Instr.indexAt, Sem.run_bind, asIntOf, Sem.run_pure, Result.andThen_ok, run_underlying hu, Instr.sureAddr, if_pos hin, run_sizeOf hb.2, addr_add]
    simp [Nat.add_assoc]
  · simp at h

theorem bytes_getElem? (s : ByteArray) (i : Nat) : s[i]? = s.data.toList[i]? := by
  by_cases h : i < s.size
  · rw [getElem?_pos s i h, List.getElem?_eq_getElem (by simpa using h)]
    rfl
  · rw [getElem?_neg s i h, List.getElem?_eq_none (by simp; simpa using h)]

theorem indexA_sim {t : TypeId} {x x' i i' : Value} {v : Value} (hx : VR m x x') (hi : VR m i i') (h : indexA P t x i = some v) :
    ∃ v', (Instr.index t x' i').run P w = .ok v' w ∧ VR m v v' := by
  unfold indexA at h
  split at h
  · rename_i len e cs k j hu
    obtain ⟨hb, h⟩ := cond_some h
    rw [blt_true] at hb
    cases hi.of_isLeaf rfl
    obtain ⟨cs', rfl, hc⟩ := hx.agg_inv
    have hin : (0 : Int) ≤ Int.ofNat j ∧ Int.ofNat j < (len : Int) := ⟨by simp, by simp; omega⟩
    have hk := (cond_some h).1
    obtain ⟨v', hr, hv⟩ := partA_sim (w := w) hc h
    refine ⟨v', ?_, hv⟩
    simp only [Instr.index, Sem.run_bind, asIntOf, Sem.run_pure, Result.andThen_ok, run_underlying hu, if_pos hin, run_sizeOf hk]
    simpa using hr
  · rename_i s k j hu
    cases hi.of_isLeaf rfl
    cases hx.of_isLeaf rfl
    split at h
    · rename_i c hc
      simp only [Option.some.injEq] at h; subst h
      refine ⟨_, ?_, .leaf rfl⟩
      have : s[j]? = some c := by rw [bytes_getElem?]; exact hc
      simp [Instr.index, asIntOf, run_underlying hu, this]
    · simp at h
  · simp at h

theorem lenA_sim {ts : Array TypeId} {t u : TypeId} {x x' : Value} {v : Value} {xs : Array Value} (ht : ts.toList[0]? = some t) (hx' : xs.toList[0]? = some x')
    (hx : VR m x x') (h : lenA P t x = some v) : (Builtin.len_ ts u xs).run P w = .ok v w ∧ isLeaf v = true := by
  have ht' : ts[0]? = some t := by simpa using ht
  have hx'' : xs[0]? = some x' := by simpa using hx'
  unfold lenA at h
  split at h
  · rename_i s hu
    cases hx.of_isLeaf rfl
    simp only [Option.some.injEq] at h; subst h
    exact ⟨by simp [Builtin.len_, ht', hx'', run_underlying hu, goInt], rfl⟩
  · rename_i e a n c hu
    simp only [Option.some.injEq] at h; subst h
    refine ⟨?_, rfl⟩
    cases hx with
    | leaf => simp [Builtin.len_, ht', hx'', run_underlying hu, goInt]
    | slice => simp [Builtin.len_, ht', hx'', run_underlying hu, goInt]
  · rename_i n e x hu
    simp only [Option.some.injEq] at h; subst h
    exact ⟨by simp [Builtin.len_, ht', hx'', run_underlying hu, goInt], rfl⟩
  · rename_i arr x hu
    split at h
    · rename_i n e hu2
      simp only [Option.some.injEq] at h; subst h
      exact ⟨by simp [Builtin.len_, ht', hx'', run_underlying hu, run_underlying hu2, goInt], rfl⟩
    · simp at h
  · rename_i k e hu
    cases hx.of_isLeaf rfl
    simp only [Option.some.injEq] at h; subst h
    exact ⟨by simp [Builtin.len_, ht', hx'', run_underlying hu, goInt], rfl⟩
  · simp at h

theorem capA_sim {ts : Array TypeId} {t u : TypeId} {x x' : Value} {v : Value} {xs : Array Value} (ht : ts.toList[0]? = some t) (hx' : xs.toList[0]? = some x')
    (hx : VR m x x') (h : capA P t x = some v) : (Builtin.cap_ ts u xs).run P w = .ok v w ∧ isLeaf v = true := by
  have ht' : ts[0]? = some t := by simpa using ht
  have hx'' : xs[0]? = some x' := by simpa using hx'
  unfold capA at h
  split at h
  · rename_i e a n c hu
    obtain ⟨hb, h⟩ := cond_some h
    simp only [Option.some.injEq] at h; subst h
    refine ⟨?_, rfl⟩
    cases hx with
    | leaf => simp [Builtin.cap_, ht', hx'', run_underlying hu, goInt]
    | slice _ hc _ =>
      have hb := blt_true.1 hb
      rcases hc.2 with ⟨_, rfl⟩ | ⟨h1, _⟩
      · simp [Builtin.cap_, ht', hx'', run_underlying hu, goInt]
      · omega
  · rename_i n e x hu
    simp only [Option.some.injEq] at h; subst h
    exact ⟨by simp [Builtin.cap_, ht', hx'', run_underlying hu, goInt], rfl⟩
  · simp at h

theorem min_le (a b : Int) : (if b < a then b else a) = (bif leQ a b then a else b) := by
  rw [leQ_eq]
  by_cases hlt : b < a
  · rw [if_pos hlt]
    have : decide (a ≤ b) = false := by simpa using hlt
    rw [this, cond_false]
  · rw [if_neg hlt]
    have : decide (a ≤ b) = true := by simpa using hlt
    rw [this, cond_true]
theorem max_le (a b : Int) : (if b > a then b else a) = (bif leQ b a then a else b) := by
  rw [leQ_eq]
  by_cases hlt : b > a
  · rw [if_pos hlt]
    have : decide (b ≤ a) = false := by simpa using hlt
    rw [this, cond_false]
  · rw [if_neg hlt]
    have : decide (b ≤ a) = true := by simpa using hlt
    rw [this, cond_true]

theorem minL_sim : ∀ (r r' : List Value) (x x' v : Value), VR m x x' → LR m r r' → minL true x r = some v →
    ∃ v', (r'.foldlM Builtin.min2 x').run P w = .ok v' w ∧ VR m v v'
  | [], r', x, x', v, hx, hr, h => by
    cases hr.nil_inv
    simp only [minL, Option.some.injEq] at h; subst h
    exact ⟨x', rfl, hx⟩
  | y :: r, r', x, x', v, hx, hr0, h => by
    obtain ⟨y', r'', rfl, hy, hr⟩ := hr0.cons_inv
    clear hr0
    simp only [minL] at h
    split at h
    · rename_i zz hz
      unfold min2A at hz
      split at hz
      · rename_i k a k' b
        cases hx.of_isLeaf rfl
        cases hy.of_isLeaf rfl
        obtain ⟨_, hz⟩ := cond_some hz
        simp only [Option.some.injEq] at hz
        obtain ⟨v', g1, g2⟩ := minL_sim r r'' zz zz v (by subst hz; exact .leaf rfl) hr h
        refine ⟨v', ?_, g2⟩
        simp only [List.foldlM_cons, Builtin.min2, pure_bind, min_le]
        subst hz
        exact g1
      · simp at hz
    · simp at h

theorem maxL_sim : ∀ (r r' : List Value) (x x' v : Value), VR m x x' → LR m r r' → minL false x r = some v →
    ∃ v', (r'.foldlM Builtin.max2 x').run P w = .ok v' w ∧ VR m v v'
  | [], r', x, x', v, hx, hr, h => by
    cases hr.nil_inv
    simp only [minL, Option.some.injEq] at h; subst h
    exact ⟨x', rfl, hx⟩
  | y :: r, r', x, x', v, hx, hr0, h => by
    obtain ⟨y', r'', rfl, hy, hr⟩ := hr0.cons_inv
    clear hr0
    simp only [minL] at h
    split at h
    · rename_i zz hz
      unfold min2A at hz
      split at hz
      · rename_i k a k' b
        cases hx.of_isLeaf rfl
        cases hy.of_isLeaf rfl
        obtain ⟨_, hz⟩ := cond_some hz
        simp only [Option.some.injEq] at hz
        obtain ⟨v', g1, g2⟩ := maxL_sim r r'' zz zz v (by subst hz; exact .leaf rfl) hr h
        refine ⟨v', ?_, g2⟩
        simp only [List.foldlM_cons, Builtin.max2, pure_bind, max_le]
        subst hz
        exact g1
      · simp at hz
    · simp at h

theorem minA_sim {ts : Array TypeId} {u : TypeId} {xs : Array Value} {l : List Value} {v : Value} (hl : LR m l xs.toList) (h : minA true l = some v) :
    ∃ v', (Builtin.min_ ts u xs).run P w = .ok v' w ∧ VR m v v' := by
  cases l with
  | nil => simp [minA] at h
  | cons x r =>
    obtain ⟨x', r', he, hx, hr⟩ := hl.cons_inv
    simp only [Builtin.min_, he]
    exact minL_sim r r' x x' v hx hr h
theorem maxA_sim {ts : Array TypeId} {u : TypeId} {xs : Array Value} {l : List Value} {v : Value} (hl : LR m l xs.toList) (h : minA false l = some v) :
    ∃ v', (Builtin.max_ ts u xs).run P w = .ok v' w ∧ VR m v v' := by
  cases l with
  | nil => simp [minA] at h
  | cons x r =>
    obtain ⟨x', r', he, hx, hr⟩ := hl.cons_inv
    simp only [Builtin.max_, he]
    exact maxL_sim r r' x x' v hx hr h

theorem assertA_sim {x x' : Value} {xt asserted : TypeId} {ok : Bool} {v : Value} (hx : VR m x x') (h : assertA P x asserted ok = some v) :
    ∃ v', (Instr.typeAssert x' xt asserted ok).run P w = .ok v' w ∧ VR m v v' := by
  unfold assertA at h
  split at h
  · simp at h
  · rename_i d t y hni hu
    obtain ⟨y', rfl, hy⟩ := hx.iface_inv
    cases ht : Nat.beq t asserted with
    | true =>
      rw [ht, cond_true, Option.some.injEq] at h; subst h
      have ht := Nat.eq_of_beq_eq_true ht
      subst ht
      cases ok with
      | true => exact ⟨.tuple #[y', .bool true], by cases d <;> simp [Instr.typeAssert, run_underlying hu] <;> exact absurd rfl (hni _), LR.tuple (.cons hy (.one (.leaf rfl)))⟩
      | false => exact ⟨y', by cases d <;> simp [Instr.typeAssert, run_underlying hu] <;> exact absurd rfl (hni _), hy⟩
    | false =>
      rw [ht, cond_false] at h
      have hne : ¬ t = asserted := by
        intro e; subst e; rw [Nat.beq_refl] at ht; cases ht
      obtain ⟨hok, h⟩ := cond_some h
      subst hok
      cases hz : zeroOf P asserted with
      | none => simp [hz] at h
      | some z =>
        simp only [hz, cond_true, Option.some.injEq] at h; subst h
        exact ⟨.tuple #[z, .bool false], by cases d <;> simp [Instr.typeAssert, run_underlying hu, hne, run_zeroValue hz] <;> exact absurd rfl (hni _),
          LR.tuple (.cons (zero_VR hz) (.one (.leaf rfl)))⟩
  · rename_i d hni hu
    cases hx.of_isLeaf rfl
    obtain ⟨hok, h⟩ := cond_some h
    subst hok
    cases hz : zeroOf P asserted with
    | none => simp [hz] at h
    | some z =>
      simp only [hz, cond_true, Option.some.injEq] at h; subst h
      exact ⟨.tuple #[z, .bool false], by cases d <;> simp [Instr.typeAssert, run_underlying hu, run_zeroValue hz] <;> exact absurd rfl (hni _),
        LR.tuple (.cons (zero_VR hz) (.one (.leaf rfl)))⟩
  · simp at h

theorem extractA_sim {x x' : Value} {i : Nat} {v : Value} (hx : VR m x x') (h : extractA x i = some v) : ∃ v', (Instr.extract x' i).run P w = .ok v' w ∧ VR m v v' := by
  unfold extractA at h
  split at h
  · obtain ⟨y, rfl, hy⟩ := hx.tuple_inv
    obtain ⟨v', hv', hr⟩ := hy.getElem? h
    have : y[i]? = some v' := by simpa using hv'
    exact ⟨v', by simp [Instr.extract, this], hr⟩
  · simp at h

theorem convA_sim {src dst : TypeId} {x x' : Value} {v : Value} (hx : VR m x x') (h : convA P src dst x = some v) :
    ∃ v', (convert src dst x').run P w = .ok v' w ∧ VR m v v' := by
  unfold convA at h
  split at h
  · rename_i k k' n hu
    cases hx.of_isLeaf rfl
    obtain ⟨hk, h⟩ := cond_some h
    simp only [Option.some.injEq] at h; subst h
    obtain ⟨d, hd⟩ := known_under hk
    exact ⟨_, by simp [convert, run_underlying hu, run_underlying hd, Conv.intToInt, wrapQ_eq], .leaf rfl⟩
  · rename_i s hu
    cases hx.of_isLeaf rfl
    obtain ⟨hk, h⟩ := cond_some h
    simp only [Option.some.injEq] at h; subst h
    obtain ⟨d, hd⟩ := known_under hk
    refine ⟨.string s, ?_, .leaf rfl⟩
    cases d <;> simp [convert, run_underlying hu, run_underlying hd]
  · simp at h

theorem nilAhead_run {t : TypeId} {v v' : Value} {name : String} (n : Nat) (hv : VR m v v') (h : nilAheadA P t v name = true) :
    (nilAhead (n + 1) t v' name).run P w = .ok (some false) w := by
  unfold nilAheadA at h
  split at h
  · rename_i i hi
    split at h
    · rename_i mt hmt
      have hmt' : i.methods.find? (·.name == name) = some mt := by
        rw [← hmt, ← Array.find?_toList]
      split at h
      · rename_i f hpath hf
        simp [nilAhead, run_typeInfo hi, hmt', hpath, followBlind, hf]
      · rename_i f e hpath hf hu
        split at h
        · obtain ⟨_, _, _, _, _, _, _, rfl⟩ := hv.ptr_inv
          simp [nilAhead, run_typeInfo hi, hmt', hpath, followBlind, hf, run_underlying hu]
        · simp at h
      · rename_i f d hnp hpath hf hu
        cases d <;> simp [nilAhead, run_typeInfo hi, hmt', hpath, followBlind, hf, run_underlying hu]
        all_goals first | done | (exact absurd rfl (hnp _)) | skip
      · simp at h
    · simp at h
  · simp at h
end
end Go.Sv

/- Operations that touch no memory: all of them in one statement. -/
namespace Go.Sv
open Go.RowKit (Below)

section
variable {P : Program} {w : World} {m : Mu}

theorem nilCheckA_sim {ρ ρ' : Operand → Value} {o : Oper} {x : Operand} {v : Value} (ho : o.op = .nilCheck x) (hx : VR m (ρ x) (ρ' x))
    (h : nilCheckA P (ρ x) = some v) : ∃ v', (execOp ρ' o).run P w = .ok (.value v') w ∧ VR m v v' := by
  unfold nilCheckA at h
  generalize ρ x = a at h hx
  simp only [execOp, ho]
  generalize ρ' x = a' at hx
  split at h
  · simp at h
  · simp at h
  · simp at h
  · rename_i name first captured
    obtain ⟨f', x', y', rfl, hf, hfx, hfy⟩ := hx.func_inv
    have hf' : f' = .method name := by simpa [fnRel] using hf
    subst hf'
    split at h
    · rename_i t u hu
      obtain ⟨hb, h⟩ := cond_some h
      simp only [Option.some.injEq] at h; subst h
      obtain ⟨u', hu', hur⟩ := hfx.getElem? hu
      obtain ⟨w', rfl, hw'⟩ := hur.iface_inv
      have e : x'[0]? = some (.iface t w') := by simpa using hu'
      obtain ⟨n, hn⟩ : ∃ n, P.types.size + Made.depth = n + 1 := ⟨P.types.size + Made.depth - 1, by have : 0 < Made.depth := by decide
                                                                                                    omega⟩
      refine ⟨.func (.method name) x' y', ?_, .func hf hfx.1 hfx.2 hfy.1 hfy.2⟩
      simp [e, hn, nilAhead_run (w := w) n hw' hb]
    · simp at h
  · rename_i h1 h2 h3 h4
    simp only [Option.some.injEq] at h; subst h
    refine ⟨a', ?_, hx⟩
    cases hx with
    | leaf hl =>
      cases a <;> first | rfl | (simp at h1; done) | skip
      all_goals first | (rename_i p; cases p <;> first | rfl | (exact absurd rfl h1)) | (exact absurd rfl h2) | (exact absurd rfl h3) | (simp [isLeaf] at hl)
    | ptr _ => rfl
    | slice _ _ _ => rfl
    | map _ => rfl
    | iface _ => rfl
    | agg _ _ => rfl
    | tuple _ _ => rfl
    | @func f f' _ _ _ _ hf _ _ _ _ =>
      cases f <;> cases f' <;> simp_all [fnRel] <;> rfl

theorem mapM_places {fields : List Field} (hk : fields.all (fun f => known P f.type) = true) :
    (fields.mapM fun f => do pure (f.offset, ← sizeOf f.type) : Sem (List (Nat × Nat))).run P w = .ok (fields.map fun f => (f.offset, szOf P f.type)) w := by
  induction fields with
  | nil => rfl
  | cons f fs ih =>
    simp only [List.all_cons, Bool.and_eq_true] at hk
    have ih := ih hk.2
    simp only [List.mapM_cons, Sem.run_bind, run_sizeOf hk.1, Result.andThen_ok, Sem.run_pure, ih, List.map_cons]

theorem buildA_sim {ρ ρ' : Operand → Value} {t : TypeId} {parts : Array (Nat × Operand)} {v : Value} (hρ : ∀ p ∈ parts.toList, VR m (ρ p.2) (ρ' p.2))
    (h : buildA P t (parts.toList.map fun p => (p.1, ρ p.2)) = some v) :
    ∃ v', (Instr.build t (parts.map fun (i, x) => (i, ρ' x))).run P w = .ok v' w ∧ VR m v v' := by
  unfold buildA at h
  have hparts : ∀ (i : Nat) (p p' : Nat × Value), (parts.toList.map fun p => (p.1, ρ p.2))[i]? = some p → (parts.toList.map fun p => (p.1, ρ' p.2))[i]? = some p' →
      p'.1 = p.1 ∧ VR m p.2 p'.2 := by
    intro i p p' hp hp'
    simp only [List.getElem?_map, Option.map_eq_some_iff] at hp hp'
    obtain ⟨q, hq, rfl⟩ := hp
    obtain ⟨q', hq', rfl⟩ := hp'
    rw [hq, Option.some.injEq] at hq'
    subst hq'
    exact ⟨rfl, hρ _ (List.mem_of_getElem? hq)⟩
  have he : (parts.map fun (i, x) => (i, ρ' x)).toList = parts.toList.map fun p => (p.1, ρ' p.2) := by simp
  split at h
  · simp at h
  · rename_i z hz
    have hzl : LR m z.cells.toList z.cells.toList := LR.cells (zero_VR hz)
    split at h
    · rename_i fields hu
      obtain ⟨hk, h⟩ := cond_some h
      split at h
      · rename_i c hc
        simp only [Option.some.injEq] at h; subst h
        obtain ⟨r', hr', hlr⟩ := fill_sim _ _ _ _ z.cells c (by simp) hparts hzl hc
        refine ⟨.agg r', ?_, LR.agg hlr⟩
        have hpl : (fields.mapM fun f => do pure (f.offset, ← sizeOf f.type) : Sem (Array (Nat × Nat))).run P w =
            .ok (fields.toList.map fun f => (f.offset, szOf P f.type)).toArray w := by
          rw [Array.mapM_eq_mapM_toList]
          simp only [Sem.run_map, mapM_places hk, Result.andThen_ok]
        have hfn : (fun i => (fields.toList.map fun f => (f.offset, szOf P f.type)).toArray[i]?) =
            placeS P fields.toList := by
          funext i
          simp only [List.getElem?_toArray, List.getElem?_map, placeS]
          cases fields.toList[i]? <;> rfl
        simp only [Instr.build, Sem.run_bind, run_zeroValue hz, Result.andThen_ok, run_underlying hu, hpl, he]
        simp only [hfn, hr']
        rfl
      · simp at h
    · rename_i len elem hu
      obtain ⟨hk, h⟩ := cond_some h
      split at h
      · rename_i c hc
        simp only [Option.some.injEq] at h; subst h
        obtain ⟨r', hr', hlr⟩ := fill_sim _ _ _ _ z.cells c (by simp) hparts hzl hc
        refine ⟨.agg r', ?_, LR.agg hlr⟩
        simp only [Instr.build, Sem.run_bind, run_zeroValue hz, Result.andThen_ok, run_underlying hu, run_sizeOf hk, he, hr']
        rfl
      · simp at h
    · simp at h

theorem optR_map {ρ ρ' : Operand → Value} {x : Option Operand} (h : ∀ y ∈ x.toList, VR m (ρ y) (ρ' y)) : OptR m (x.map ρ) (x.map ρ') := by
  cases x with
  | none => trivial
  | some y => exact h y (by simp)

/-- ALL OF THEM: what hangs on the operands alone. -/
theorem pure_sim {ρ ρ' : Operand → Value} {o : Oper} {v : Value} (hρ : ∀ x ∈ o.op.operands.toList, VR m (ρ x) (ρ' x)) (h : pureA P ρ o.op = some v) :
    ∃ v', (execOp ρ' o).run P w = .ok (.value v') w ∧ VR m v v' := by
  cases hop : o.op <;> rw [hop] at h hρ <;> simp only [pureA] at h
  case move x =>
    simp only [Option.some.injEq] at h; subst h
    exact ⟨ρ' x, by simp [execOp, hop], hρ x (by simp [Op.operands])⟩
  case assign x =>
    simp only [Option.some.injEq] at h; subst h
    exact ⟨ρ' x, by simp [execOp, hop], hρ x (by simp [Op.operands])⟩
  case pick c a b =>
    split at h
    · rename_i t ht
      simp only [Option.some.injEq] at h; subst h
      have hc := hρ c (by simp [Op.operands])
      rw [ht] at hc
      have hc' := hc.of_isLeaf rfl
      cases t with
      | true => exact ⟨ρ' a, by simp [execOp, hop, hc', asBool], hρ a (by simp [Op.operands])⟩
      | false => exact ⟨ρ' b, by simp [execOp, hop, hc', asBool], hρ b (by simp [Op.operands])⟩
    · simp at h
  case build t parts =>
    obtain ⟨v', hr, hv⟩ := buildA_sim (w := w) (ρ := ρ) (ρ' := ρ') (fun p hp => hρ p.2 (by simp only [Op.operands]; exact List.mem_map.2 ⟨p, hp, rfl⟩)) h
    exact ⟨v', by simp only [execOp, hop, Sem.run_bind, hr]; rfl, hv⟩
  case nilCheck x => exact nilCheckA_sim hop (hρ x (by simp [Op.operands])) h
  case binOp op t x y yt =>
    obtain ⟨hr, hl⟩ := binA_sim (w := w) (hρ x (by simp [Op.operands])) (hρ y (by simp [Op.operands])) h
    exact ⟨v, by simp only [execOp, hop, Sem.run_bind] at *; simp [hr], .leaf hl⟩
  case unOp op t x =>
    obtain ⟨hb, h⟩ := cond_some h
    have hx := dl_eq (hρ x (by simp [Op.operands])) hb
    obtain ⟨h1, h2⟩ := isLeaf_of_leafOnly h
    exact ⟨v, by simp only [execOp, hop, hx, Sem.run_bind, asks_run _ _ h1 w]; rfl, .leaf h2⟩
  case convert src dst x =>
    obtain ⟨v', hr, hv⟩ := convA_sim (w := w) (hρ x (by simp [Op.operands])) h
    exact ⟨v', by simp only [execOp, hop, Sem.run_bind, hr]; rfl, hv⟩
  case makeInterface t x =>
    split at h
    · rename_i hb
      simp only [Option.some.injEq] at h; subst h
      refine ⟨.iface t (ρ' x), ?_, .iface (hρ x (by simp [Op.operands]))⟩
      unfold ifaceB at hb
      split at hb
      · simp at hb
      · rename_i d hni hu
        simp only [execOp, hop, Instr.makeInterface, Sem.run_bind, run_underlying hu, Result.andThen_ok]
        cases d <;> first | rfl | exact absurd rfl (hni _)
      · simp at hb
    · simp at h
  case makeFunc fn first captured =>
    obtain ⟨hb, h⟩ := cond_some h
    simp only [Option.some.injEq] at h; subst h
    refine ⟨.func fn (first.map ρ') (captured.map ρ'), by simp [execOp, hop, Instr.makeFunc], ?_⟩
    have h1 : LR m (first.toList.map ρ) (first.toList.map ρ') := LR.map _ _ _ fun a ha => hρ a (by simp [Op.operands, ha])
    have h2 : LR m (captured.toList.map ρ) (captured.toList.map ρ') := LR.map _ _ _ fun a ha => hρ a (by simp [Op.operands, ha])
    have e1 : (first.map ρ').toList = first.toList.map ρ' := by simp
    have e2 : (captured.map ρ').toList = captured.toList.map ρ' := by simp
    rw [← e1] at h1
    rw [← e2] at h2
    exact .func (by cases fn <;> simp_all [fnRel, noYield]) h1.1 h1.2 h2.1 h2.2
  case slice t x lo hi mx =>
    obtain ⟨v', hr, hv⟩ := sliceA_sim (w := w) (hρ x (by simp [Op.operands])) (optR_map fun y hy => hρ y (by simp [Op.operands, hy]))
      (optR_map fun y hy => hρ y (by simp [Op.operands, hy])) (optR_map fun y hy => hρ y (by simp [Op.operands, hy])) h
    exact ⟨v', by simp only [execOp, hop, Sem.run_bind, hr]; rfl, hv⟩
  case fieldAddr t x f =>
    obtain ⟨v', hr, hv⟩ := fieldAddrA_sim (w := w) (hρ x (by simp [Op.operands])) h
    exact ⟨v', by simp only [execOp, hop, Sem.run_bind, hr]; rfl, hv⟩
  case field t x f =>
    obtain ⟨v', hr, hv⟩ := fieldA_sim (w := w) (hρ x (by simp [Op.operands])) h
    exact ⟨v', by simp only [execOp, hop, Sem.run_bind, hr]; rfl, hv⟩
  case indexAddr t x i =>
    obtain ⟨v', hr, hv⟩ := indexAddrA_sim (w := w) (hρ x (by simp [Op.operands])) (hρ i (by simp [Op.operands])) h
    exact ⟨v', by simp only [execOp, hop, Sem.run_bind, hr]; rfl, hv⟩
  case index t x i =>
    obtain ⟨v', hr, hv⟩ := indexA_sim (w := w) (hρ x (by simp [Op.operands])) (hρ i (by simp [Op.operands])) h
    exact ⟨v', by simp only [execOp, hop, Sem.run_bind, hr]; rfl, hv⟩
  case typeAssert x xt asserted ok =>
    obtain ⟨v', hr, hv⟩ := assertA_sim (w := w) (xt := xt) (hρ x (by simp [Op.operands])) h
    exact ⟨v', by simp only [execOp, hop, Sem.run_bind, hr]; rfl, hv⟩
  case extract t i =>
    obtain ⟨v', hr, hv⟩ := extractA_sim (P := P) (w := w) (hρ t (by simp [Op.operands])) h
    exact ⟨v', by simp only [execOp, hop, Sem.run_bind, hr]; rfl, hv⟩
  case call c =>
    obtain ⟨callee, args, argTypes⟩ := c
    cases callee with
    | value f => simp at h
    | invoke r name => simp at h
    | builtin b =>
      have hargs : LR m (args.toList.map ρ) (args.map ρ').toList := by
        rw [Array.toList_map]
        exact LR.map _ _ _ fun a ha => hρ a (by simp [Op.operands, Call.operands, ha])
      have hrun : ∀ (r : Sem Value) (v' : Value), r.run P w = .ok v' w → (do pure (Next.value (← r)) : Sem Next).run P w = .ok (.value v') w := by
        intro r v' hr; simp [hr]
      cases b <;> simp only [reduceCtorEq] at h
      case len =>
        split at h
        · rename_i t x ht hx
          obtain ⟨x', hx', hxr⟩ := hargs.getElem? (i := 0) (v := ρ x) (by simp [hx])
          obtain ⟨hr, hl⟩ := lenA_sim (w := w) (u := o.type) ht hx' hxr h
          exact ⟨v, by simp only [execOp, hop, resolve, pure_bind, invoke, builtin]; exact hrun _ _ hr, .leaf hl⟩
        · simp at h
      case cap =>
        split at h
        · rename_i t x ht hx
          obtain ⟨x', hx', hxr⟩ := hargs.getElem? (i := 0) (v := ρ x) (by simp [hx])
          obtain ⟨hr, hl⟩ := capA_sim (w := w) (u := o.type) ht hx' hxr h
          exact ⟨v, by simp only [execOp, hop, resolve, pure_bind, invoke, builtin]; exact hrun _ _ hr, .leaf hl⟩
        · simp at h
      case max =>
        obtain ⟨v', hr, hv⟩ := maxA_sim (w := w) (P := P) (ts := argTypes) (u := o.type) hargs h
        exact ⟨v', by simp only [execOp, hop, resolve, pure_bind, invoke, builtin]; exact hrun _ _ hr, hv⟩
      case min =>
        obtain ⟨v', hr, hv⟩ := minA_sim (w := w) (P := P) (ts := argTypes) (u := o.type) hargs h
        exact ⟨v', by simp only [execOp, hop, resolve, pure_bind, invoke, builtin]; exact hrun _ _ hr, hv⟩
  all_goals simp at h
end
end Go.Sv

/- Operations that read memory and leave it as it is. -/
namespace Go.Sv
open Go.RowKit (Below)

section
variable {P : Program} {ok : Cx} {w : World} {m : Mu} {B : Nat} {s : S}

theorem cell_heap {b o : Nat} {c : Array Value} {e : TypeId} {fz : Nat × Nat} (h : w.heap[b]? = some (.cells c e fz)) : w.cell? ⟨b, o, none⟩ = c[o]? := by
  simp [World.cell?, h]

theorem SR.cells {b rb ro z : Nat} {c : List Value} {rdo : Bool} (h : SR P ok m B s w) (hm : m b = some (rb, ro, z)) (hg : s.get b = some (.cells c rdo)) :
    ∃ c' e fz, w.heap[rb]? = some (.cells c' e fz) ∧ c'.size = z ∧ (∀ (i : Nat) v, c[i]? = some v → ∃ v', c'[ro + i]? = some v' ∧ VR m v v') ∧
      (rdo = false → ∀ j, j < z → ¬(fz.1 ≤ j ∧ j < fz.2)) :=
  h.blk _ _ _ _ _ hm hg

theorem load1_sim {b o rb ro z : Nat} {v : Value} (h : SR P ok m B s w) (hm : m b = some (rb, ro, z)) (hl : load1 s b o = some v) :
    ∃ v', w.cell? ⟨rb, ro + o, none⟩ = some v' ∧ VR m v v' := by
  unfold load1 at hl
  split at hl
  · rename_i c rdo hg
    obtain ⟨c', e, fz, h1, h2, h3, h4⟩ := h.cells hm hg
    obtain ⟨v', hv', hr⟩ := h3 o v hl
    exact ⟨v', by rw [cell_heap h1]; exact hv', hr⟩
  · simp at hl

theorem loadN_sim {b o n rb ro z : Nat} {l : List Value} (h : SR P ok m B s w) (hm : m b = some (rb, ro, z)) (hl : loadN s b o n = some l) :
    ∃ l', LR m l l' ∧ l.length = n ∧ ∀ (j : Nat) v, l'[j]? = some v → w.cell? ⟨rb, ro + o + j, none⟩ = some v := by
  unfold loadN at hl
  split at hl
  · rename_i c rdo hg
    obtain ⟨hb, hl⟩ := cond_some hl
    rw [Nat.ble_eq] at hb
    simp only [Option.some.injEq] at hl; subst hl
    obtain ⟨c', e, fz, h1, h2, h3, h4⟩ := h.cells hm hg
    have hlen : ((c.drop o).take n).length = n := by simp; omega
    refine ⟨(List.range n).map fun j => (c'[ro + o + j]?).getD undef, LR.of_getElem? (by simp; omega) ?_, hlen, ?_⟩
    · intro i v v' hv hv'
      rw [List.getElem?_take] at hv
      split at hv
      · rename_i hin
        rw [List.getElem?_drop] at hv
        obtain ⟨u, hu, hr⟩ := h3 _ _ hv
        simp only [List.getElem?_map, List.getElem?_range hin, Option.map_some, Option.some.injEq] at hv'
        subst hv'
        rw [← Nat.add_assoc] at hu
        rw [hu]; exact hr
      · simp at hv
    · intro j v hj
      simp only [List.getElem?_map, Option.map_eq_some_iff] at hj
      obtain ⟨i, hi, rfl⟩ := hj
      have hin : j < n := by
        rcases Nat.lt_or_ge j n with h | h
        · exact h
        · rw [List.getElem?_eq_none (by simpa using h)] at hi; cases hi
      rw [List.getElem?_range hin, Option.some.injEq] at hi
      subst hi
      have hc : c[o + j]? = some c[o + j] := List.getElem?_eq_getElem (by omega)
      obtain ⟨u, hu, hr⟩ := h3 _ _ hc
      rw [cell_heap h1, ← Nat.add_assoc] at *
      rw [hu]; rfl
  · simp at hl

theorem run_loadCells' {rb o : Nat} {l' : List Value} {n : Nat} (hn : l'.length = n) (hc : ∀ (j : Nat) v, l'[j]? = some v → w.cell? ⟨rb, o + j, none⟩ = some v) :
    (loadCells ⟨rb, o, none⟩ n).run P w = .ok l'.toArray w := by
  subst hn
  exact run_loadCells_list w ⟨rb, o, none⟩ l' (fun j v hj => by rw [addr_add]; exact hc j v hj)

theorem loadA_sim {t : TypeId} {a a' v : Value} (h : SR P ok m B s w) (ha : VR m a a') (hl : loadA P s t a = some v) :
    ∃ v', (Instr.loadAt t a').run P w = .ok v' w ∧ VR m v v' := by
  unfold loadA at hl
  split at hl
  · rename_i b o
    obtain ⟨hk, hl⟩ := cond_some hl
    obtain ⟨b', o', rb, ro, z, he, hm, rfl⟩ := ha.ptr_inv
    cases he
    cases hag : aggB P t with
    | true =>
      rw [hag, cond_true] at hl
      split at hl
      · rename_i l hl'
        simp only [Option.some.injEq] at hl; subst hl
        obtain ⟨l', hlr, hlen, hc⟩ := loadN_sim h hm hl'
        refine ⟨.agg l'.toArray, ?_, LR.agg (by simpa using hlr)⟩
        have := run_loadCells' (P := P) (n := szOf P t) (by rw [← hlr.1]; exact hlen) hc
        simp [Instr.loadAt, Instr.sureAddr, loadVar, run_isAgg hk, hag, run_sizeOf hk, this]
      · simp at hl
    | false =>
      rw [hag, cond_false] at hl
      obtain ⟨v', hv', hr⟩ := load1_sim h hm hl
      exact ⟨v', by simp [Instr.loadAt, Instr.sureAddr, loadVar, run_isAgg hk, hag, hv'], hr⟩
  · simp at hl

/-! #### Maps -/

theorem keyKind_some {t : TypeId} {d : TypeDesc} (h : keyKind P t = some d) : P.underlying t = some d ∧ ((∃ k, d = .int k) ∨ d = .string ∨ d = .bool) := by
  unfold keyKind at h
  split at h <;> simp at h <;> subst h <;> rename_i hu
  · exact ⟨hu, .inl ⟨_, rfl⟩⟩
  · exact ⟨hu, .inr (.inl rfl)⟩
  · exact ⟨hu, .inr (.inr rfl)⟩

theorem checkKey_run {t : TypeId} {d : TypeDesc} {e : Bool} {k : Value} (n : Nat) (h : keyKind P t = some d) : (Instr.checkKey e (n + 1) t k).run P w = .ok () w := by
  obtain ⟨hu, hd⟩ := keyKind_some h
  rcases hd with ⟨j, rfl⟩ | rfl | rfl <;> simp only [Instr.checkKey, Sem.run_bind, run_underlying hu, Result.andThen_ok] <;> cases k <;> rfl

theorem findNow_sim {d : TypeDesc} {k k' : Value} (hk : k' = k) : ∀ (es es' : List MapEntry) (i : Nat) (r : Option (Nat × Value)), EntsR m es es' →
    Instr.findNow d k es i = some r →
    (r = none ∧ Instr.findNow d k' es' i = some none) ∨ ∃ j v v', r = some (j, v) ∧ Instr.findNow d k' es' i = some (some (j, v')) ∧ VR m v v' ∧ i ≤ j ∧ j < i + es.length
  | [], es', i, r, he, h => by
    have : es' = [] := by have := he.1; simpa using this.symm
    subst this
    simp only [Instr.findNow, Option.some.injEq] at h; subst h
    exact .inl ⟨rfl, rfl⟩
  | e :: es, es', i, r, he, h => by
    cases es' with
    | nil => have := he.1; simp at this
    | cons e' es' =>
      have h0 := he.2 0 (by simp) (by simp)
      simp only [List.getElem_cons_zero] at h0
      have hr : EntsR m es es' := ⟨by have := he.1; simpa using this, fun j a b => he.2 (j + 1) (by simpa using a) (by simpa using b)⟩
      simp only [Instr.findNow] at h ⊢
      rw [h0.key, hk]
      split at h
      · rename_i hs
        simp only [Option.some.injEq] at h; subst h
        exact .inr ⟨i, e.val, e'.val, rfl, by simp, h0.val, Nat.le_refl _, by simp⟩
      · rename_i hs
        have ih := findNow_sim (k := k) (k' := k) rfl es es' (i + 1) r hr h
        rcases ih with ⟨h1, h2⟩ | ⟨j, v, v', h1, h2, h3, h4, h5⟩
        · exact .inl ⟨h1, by simp [h2]⟩
        · exact .inr ⟨j, v, v', h1, by simp [h2], h3, by omega, by simp; omega⟩
      · simp at h

theorem findNow_leaf {d : TypeDesc} {k : Value} : ∀ (es : List MapEntry) (i : Nat) (r : Option (Nat × Value)), es ≠ [] → Instr.findNow d k es i = some r → isLeaf k = true
  | [], _, _, h, _ => absurd rfl h
  | e :: es, i, r, _, h => by
    simp only [Instr.findNow] at h
    cases k <;> simp [Instr.sameNow, isLeaf] at h ⊢

theorem SR.mapAt {r r' : Nat} {es : List MapEntry} {clock : Nat} (h : SR P ok m B s w) (hm : objAt m r r') (hg : s.get r = some (.map es clock)) :
    ∃ es', w.heap[r']? = some (.map es' clock) ∧ EntsR m es es'.toList := by
  obtain ⟨z, hz⟩ := hm
  obtain ⟨_, es', h1, h2⟩ := h.blk _ _ _ _ _ hz hg
  exact ⟨es', h1, h2⟩

theorem run_getObj {r : Nat} {o : Obj} (h : w.heap[r]? = some o) (hc : ∀ c e f, o ≠ .cells c e f) : (getObj r).run P w = .ok o w := by
  cases o <;> first | (simp only [getObj, Sem.run, h]; done) | exact absurd rfl (hc _ _ _)

theorem lookupA_sim {t : TypeId} {x x' i i' v : Value} {co : Bool} (h : SR P ok m B s w) (hx : VR m x x') (hi : VR m i i') (hl : lookupA P s t x i co = some v) :
    ∃ v', (Instr.lookup t x' i' co).run P w = .ok v' w ∧ VR m v v' := by
  unfold lookupA at hl
  split at hl
  · rename_i key elem hu
    split at hl
    · rename_i kind es hkind hes
      have hke := (keyKind_some hkind).1
      -- the rest of the operation, whatever the entries
      have htail : ∀ es' : List MapEntry, EntsR m es es' → ∃ v', VR m v v' ∧ ∀ b,
          (do
            Instr.checkKey b 10000 key i'
            let (v, ok) ← match ← Instr.findKey key i' es' with
              | some (_, v) => pure (v, true)
              | none => pure (← zeroValue elem, false)
            pure (if co then .tuple #[v, .bool ok] else v) : Sem Value).run P w = .ok v' w := by
        intro es' her
        have hck : ∀ b, (Instr.checkKey b 10000 key i').run P w = .ok () w := fun b => checkKey_run 9999 hkind
        split at hl
        · rename_i j v0 z hfn hz
          simp only [Option.some.injEq] at hl
          have hlf : isLeaf i = true := by
            refine findNow_leaf es 0 _ ?_ hfn
            rintro rfl
            simp [Instr.findNow] at hfn
          have hii := hi.of_isLeaf hlf
          rcases findNow_sim (m := m) hii es es' 0 _ her hfn with ⟨hn, _⟩ | ⟨j', v1, v1', h1, h2, h3, _⟩
          · simp at hn
          · simp only [Option.some.injEq, Prod.mk.injEq] at h1
            obtain ⟨rfl, rfl⟩ := h1
            subst hl
            cases co with
            | true =>
              refine ⟨.tuple #[v1', .bool true], LR.tuple (.cons h3 (.one (.leaf rfl))), fun b => ?_⟩
              simp only [Sem.run_bind, Result.andThen_ok, hck, Instr.findKey, run_underlying hke, h2, Sem.run_pure]
              rfl
            | false =>
              refine ⟨v1', h3, fun b => ?_⟩
              simp only [Sem.run_bind, Result.andThen_ok, hck, Instr.findKey, run_underlying hke, h2, Sem.run_pure]
              rfl
        · rename_i z hfn hz
          simp only [Option.some.injEq] at hl
          have h2 : Instr.findNow kind i' es' 0 = some none := by
            by_cases hne : es = []
            · subst hne
              have : es' = [] := by have := her.1; simpa using this.symm
              rw [this]; rfl
            · have hii := hi.of_isLeaf (findNow_leaf es 0 _ hne hfn)
              rcases findNow_sim (m := m) hii es es' 0 _ her hfn with ⟨_, h2⟩ | ⟨j', v1, v1', h1, _⟩
              · exact h2
              · simp at h1
          subst hl
          cases co with
          | true =>
            refine ⟨.tuple #[z, .bool false], LR.tuple (.cons (zero_VR hz) (.one (.leaf rfl))), fun b => ?_⟩
            simp only [Sem.run_bind, Result.andThen_ok, hck, Instr.findKey, run_underlying hke, h2, Sem.run_pure, run_zeroValue hz]
            rfl
          | false =>
            refine ⟨z, zero_VR hz, fun b => ?_⟩
            simp only [Sem.run_bind, Result.andThen_ok, hck, Instr.findKey, run_underlying hke, h2, Sem.run_pure, run_zeroValue hz]
            rfl
        · simp at hl
      split at hes
      · simp only [Option.some.injEq] at hes; subst hes
        cases hx.of_isLeaf rfl
        obtain ⟨v', hv, hr⟩ := htail [] ⟨rfl, fun i a _ => by simp at a⟩
        refine ⟨v', ?_, hv⟩
        have := hr true
        simp only [Instr.lookup, Sem.run_bind, run_underlying hu, Result.andThen_ok] at this ⊢
        exact this
      · rename_i r
        split at hes
        · rename_i es2 clock hg
          simp only [Option.some.injEq] at hes; subst hes
          obtain ⟨r', rfl, hr⟩ := hx.map_inv
          obtain ⟨es', h1, h2⟩ := h.mapAt hr hg
          obtain ⟨v', hv, hr⟩ := htail es'.toList h2
          refine ⟨v', ?_, hv⟩
          have := hr es'.isEmpty
          simp only [Instr.lookup, Sem.run_bind, run_underlying hu, Result.andThen_ok, run_getObj h1 (by simp)] at this ⊢
          exact this
        · simp at hes
      · simp at hes
    · simp at hl
  · simp at hl

theorem bytes_of_cells : ∀ (l : List Value) (bs : List UInt8), bytesOfCells l = some bs →
    ∃ ns : List Int, l = ns.map (Value.int .u8) ∧ ∀ s : ByteArray, ns.foldl (fun r n => r.push (UInt8.ofNat n.toNat)) s = ⟨⟨s.data.toList ++ bs⟩⟩
  | [], bs, h => by
    simp only [bytesOfCells, Option.some.injEq] at h; subst h
    exact ⟨[], rfl, fun s => by simp⟩
  | v :: r, bs, h => by
    unfold bytesOfCells at h
    split at h
    · rename_i he; cases he
    · rename_i n r' he
      cases he
      split at h
      · rename_i l hl
        simp only [Option.some.injEq] at h; subst h
        obtain ⟨ns, h1, h2⟩ := bytes_of_cells _ _ hl
        refine ⟨n :: ns, by simp [h1], fun s => ?_⟩
        simp only [List.foldl_cons, h2]
        simp [ByteArray.push]
      · simp at h
    · simp at h

theorem toStringA_sim {src dst : TypeId} {x x' v : Value} (h : SR P ok m B s w) (hx : VR m x x') (hl : toStringA P s src dst x = some v) :
    ∃ v', (convert src dst x').run P w = .ok v' w ∧ VR m v v' := by
  unfold toStringA at hl
  split at hl
  · rename_i e hs hd
    split at hl
    · rename_i a b he
      simp only [Option.some.injEq] at hl; subst hl
      cases hx.of_isLeaf rfl
      exact ⟨.string .empty, by rw [run_convert_bytes_string w src dst e _ _ _ hs he hd]; rfl, .leaf rfl⟩
    · rename_i b o len cap he
      split at hl
      · rename_i l hl2
        split at hl
        · rename_i bs hbs
          simp only [Option.some.injEq] at hl; subst hl
          obtain ⟨b', o1, rb, ro, z, o', cap', hab, hm, rfl, hcap, ho⟩ := hx.slice_inv
          cases hab
          obtain ⟨ns, h1, h2⟩ := bytes_of_cells _ _ hbs
          refine ⟨.string ⟨⟨bs⟩⟩, ?_, .leaf rfl⟩
          rw [run_convert_bytes_string w src dst e _ _ _ hs he hd]
          by_cases h0 : len = 0
          · subst h0
            have hnil : l = [] := by
              obtain ⟨l', hlr, hlen, hc⟩ := loadN_sim h hm hl2
              exact List.length_eq_zero_iff.1 hlen
            subst hnil
            simp only [bytesOfCells, Option.some.injEq] at hbs; subst hbs
            rfl
          · have ho' : o' = ro + o := ho.resolve_right (by have := hcap.1; omega)
            subst ho'
            obtain ⟨l', hlr, hlen, hc⟩ := loadN_sim h hm hl2
            have hleaf : l.all isLeaf = true := by
              rw [h1, List.all_map, List.all_eq_true]; intro a _; rfl
            have hll : l' = l := VR.of_leaf_list hlr hleaf
            subst hll
            have hrun := run_loadCells' (P := P) hlen hc
            rw [h1] at hrun
            rw [run_bytesToString w _ len cap' ns hrun, h2]
            simp
        · simp at hl
      · simp at hl
    · simp at hl
  · simp at hl

theorem entryA_sim {x x' v : Value} (h : SR P ok m B s w) (hx : VR m x x') (hl : entryA s x = some v) :
    ∃ v', (Instr.entry x').run P w = .ok v' w ∧ VR m v v' := by
  unfold entryA at hl
  split at hl
  · rename_i r
    obtain ⟨b', o', rb, ro, z, hab, hm, rfl⟩ := hx.ptr_inv
    cases hab
    split at hl
    · rename_i mb since seen stepped hg
      obtain ⟨hro, mp', h1, h2⟩ := h.blk _ _ _ _ _ hm hg
      subst hro
      split at hl
      · rename_i stamp es clock hst hg2
        obtain ⟨hb, hl2⟩ := cond_some hl
        clear hl
        rw [Nat.beq_eq] at hb
        subst hb
        split at hl2
        · rename_i e he
          simp only [Option.some.injEq] at hl2; subst hl2
          cases mp' with
          | none => exact h2.elim
          | some mb' =>
            obtain ⟨es', h3, h4⟩ := h.mapAt h2 hg2
            -- the entry with that stamp
            have hfind : ∀ (es es' : List MapEntry), EntsR m es es' → ∀ e, es.find? (·.born == stamp) = some e →
                ∃ e', es'.find? (·.born == stamp) = some e' ∧ EntR m e e' := by
              intro es
              induction es with
              | nil => intro es' _ e he; simp at he
              | cons a es ih =>
                intro es' hr e he
                cases es' with
                | nil => have := hr.1; simp at this
                | cons a' es' =>
                  have h0 := hr.2 0 (by simp) (by simp)
                  simp only [List.getElem_cons_zero] at h0
                  have hr' : EntsR m es es' := ⟨by have := hr.1; simpa using this, fun j p q => hr.2 (j + 1) (by simpa using p) (by simpa using q)⟩
                  simp only [List.find?_cons] at he ⊢
                  rw [h0.born]
                  cases hb : (a.born == stamp) with
                  | true =>
                    simp only [hb, Option.some.injEq] at he
                    subst he
                    exact ⟨a', rfl, h0⟩
                  | false =>
                    simp only [hb] at he
                    exact ih es' hr' e he
            obtain ⟨e', he', hee⟩ := hfind _ _ h4 e he
            have he2 : es'.find? (·.born == stamp) = some e' := by rw [← Array.find?_toList]; exact he'
            refine ⟨.tuple #[e'.key, e'.val], ?_, LR.tuple (.cons (by rw [hee.key]; exact .leaf hee.leaf) (.one hee.val))⟩
            simp [Instr.entry, run_getObj h1 (by simp), hst, run_getObj h3 (by simp), he2]
        · simp at hl2
      · simp at hl
    · simp at hl
  · simp at hl

/-- ALL OF THEM: what reads memory. -/
theorem read_sim {ρ ρ' : Operand → Value} {o : Oper} {v : Value} (h : SR P ok m B s w) (hρ : ∀ x ∈ o.op.operands.toList, VR m (ρ x) (ρ' x))
    (hl : readA P ρ s o.op = some v) : ∃ v', (execOp ρ' o).run P w = .ok (.value v') w ∧ VR m v v' := by
  cases hop : o.op <;> rw [hop] at hl hρ <;> simp only [readA] at hl
  case load t a =>
    obtain ⟨v', hr, hv⟩ := loadA_sim h (hρ a (by simp [Op.operands])) hl
    exact ⟨v', by simp only [execOp, hop, Sem.run_bind, hr]; rfl, hv⟩
  case convert src dst x =>
    obtain ⟨v', hr, hv⟩ := toStringA_sim h (hρ x (by simp [Op.operands])) hl
    exact ⟨v', by simp only [execOp, hop, Sem.run_bind, hr]; rfl, hv⟩
  case lookup t x i co =>
    obtain ⟨v', hr, hv⟩ := lookupA_sim h (hρ x (by simp [Op.operands])) (hρ i (by simp [Op.operands])) hl
    exact ⟨v', by simp only [execOp, hop, Sem.run_bind, hr]; rfl, hv⟩
  case entry x =>
    obtain ⟨v', hr, hv⟩ := entryA_sim (P := P) h (hρ x (by simp [Op.operands])) hl
    exact ⟨v', by simp only [execOp, hop, Sem.run_bind, hr]; rfl, hv⟩
  case call c =>
    obtain ⟨callee, args, argTypes⟩ := c
    cases callee with
    | value f => simp at hl
    | invoke r name => simp at hl
    | builtin b =>
      cases b <;> simp only [reduceCtorEq] at hl
      case len =>
        split at hl
        · rename_i t x ht hx
          split at hl
          · rename_i k e r hu hrx
            split at hl
            · rename_i es clock hg
              simp only [Option.some.injEq] at hl; subst hl
              have hxr := hρ x (by simp only [Op.operands, Call.operands]; simp [List.mem_of_getElem? hx])
              rw [hrx] at hxr
              obtain ⟨r', hr', hro⟩ := hxr.map_inv
              obtain ⟨es', h1, h2⟩ := h.mapAt hro hg
              have ht' : argTypes[0]? = some t := by simpa using ht
              have hx' : (args.map ρ')[0]? = some (.map (some r')) := by
                have : args[0]? = some x := by simpa using hx
                simp [this, hr']
              have hsz : es'.size = es.length := by have := h2.1; simpa using this.symm
              refine ⟨_, ?_, .leaf rfl⟩
              simp only [execOp, hop, resolve, pure_bind, invoke, builtin, Builtin.len_, ht', hx', Sem.run_bind, run_underlying hu, Result.andThen_ok, run_getObj h1 (by simp)]
              simp [goInt, hsz]
            · simp at hl
          · simp at hl
        · simp at hl
  all_goals simp at hl
end
end Go.Sv
