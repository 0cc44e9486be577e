/- The evaluator is sound: code, regions that draw their order, whole programs: theorem sound. -/
import Derived.Test.YteialihbechmoaaGreatDoorE04
import Derived.Orders

/- Operations in a region, in the order of the text. -/
namespace Go.Sv
open Go.RowKit (Below)

section
variable {P : Program} {ok : Cx} {w w' : World} {m m' : Mu} {B : Nat} {s : S}

theorem yieldedA_eq {ops : Array Oper} {fr : Fr} {b : Frame} {a : Act} (hf : FrR P m fr b a) (j : Nat) : yielded ops a.tmps j = yieldedA ops.toList fr j := by
  unfold yielded yieldedA dstAt
  have e1 : ops.toList[j]? = ops[j]? := by simp
  rw [e1]
  cases ho : ops[j]? with
  | none => rfl
  | some o =>
    cases hd : o.dst with
    | none => simp [hd]
    | some d =>
      have hv := hf.env.2 d
      have e2 : a.tmps.getD d undef = (a.tmps[d]?).getD undef := by rw [Array.getD_eq_getD_getElem?]
      simp only [Option.bind_some, hd]
      cases ht : a.tmps[d]? with
      | none =>
        rw [e2, ht] at hv
        generalize envLook fr.env d = x at hv
        cases x <;> first | rfl | (cases hv.of_isLeaf rfl)
      | some u =>
        rw [e2, ht] at hv
        simp only [Option.getD_some] at hv
        generalize envLook fr.env d = x at hv
        cases hv with
        | leaf h => cases u <;> rfl
        | _ => rfl

theorem wantedA_eq {ops : Array Oper} {fr : Fr} {b : Frame} {a : Act} (hf : FrR P m fr b a) (o : Oper) : Region.wanted o (yielded ops a.tmps) = wantedA ops.toList o fr := by
  unfold Region.wanted wantedA
  cases o.guard with
  | none => rfl
  | some g =>
    obtain ⟨j, want⟩ := g
    simp only [yieldedA_eq hf j]
    cases yieldedA ops.toList fr j with
    | none => rfl
    | some b => cases b <;> cases want <;> rfl

/-- What an operation comes to. -/
def OpR (P : Program) (ok : Cx) (m : Mu) (B : Nat) (M : Machine) (b : Frame) (a : Act) (todo : List Item) (cs : List Frame) (w : World) : ORes → Prop
  | .done fr' s' => ∃ m' w' a', m.le m' ∧ SR P ok m' B s' w' ∧ Below B w w' ∧ FrR P m' fr' b a' ∧ Steps P M (lone (b.atR a' todo) cs w')
  | .pan chain fr' s' => ∃ m' w', m.le m' ∧ SR P ok m' B s' w' ∧ Below B w w' ∧ (∃ env n, FrR P m' { fr' with env := env, n := n } b a) ∧ ∃ chain' td, ChainR m' chain chain' ∧ noCall td = true ∧ Steps P M (lone { b.atR a td with mode := .panicking chain' } cs w')

/-- The same, where the evaluator's frame 'fr' and the one that the machine's is related to, 'fm', differ in temporaries that the operation doesn't look at. -/
def OpR2 (P : Program) (ok : Cx) (m : Mu) (B : Nat) (M : Machine) (b : Frame) (a : Act) (todo : List Item) (cs : List Frame) (w : World) (fr fm : Fr) (dst : Option Tmp) : ORes → Prop
  | .done fr' s' => ∃ v, fr' = fr.put dst v ∧ ∃ m' w' a', m.le m' ∧ SR P ok m' B s' w' ∧ Below B w w' ∧ FrR P m' (fm.put dst v) b a' ∧ Steps P M (lone (b.atR a' todo) cs w')
  | .pan chain fr' s' => fr' = fr ∧ ∃ m' w', m.le m' ∧ SR P ok m' B s' w' ∧ Below B w w' ∧ FrR P m' fm b a ∧ ∃ chain' td, ChainR m' chain chain' ∧ noCall td = true ∧ Steps P M (lone { b.atR a td with mode := .panicking chain' } cs w')

theorem OpR2.same {M : Machine} {b : Frame} {a : Act} {todo : List Item} {cs : List Frame} {fr : Fr} {dst : Option Tmp} {r : ORes} (h : OpR2 P ok m B M b a todo cs w fr fr dst r) : OpR P ok m B M b a todo cs w r := by
  cases r with
  | done fr' s' =>
    obtain ⟨v, rfl, m', w', a', h1, h2, h3, h4, h5⟩ := h
    exact ⟨m', w', a', h1, h2, h3, h4, h5⟩
  | pan ch fr' s' =>
    obtain ⟨rfl, m', w', h1, h2, h3, h4, h5⟩ := h
    exact ⟨m', w', h1, h2, h3, ⟨fr'.env, fr'.n, h4⟩, h5⟩

theorem resA_sim {sem : Sem Next} {fr fm : Fr} {b : Frame} {a : Act} {ops : Array Oper} {i : Nat} {rest : List Nat} {k : List Item} {cs : List Frame} {o : Oper} {c : Option (CRes × S)} {r : ORes} {M : Machine}
    (ho : ops[i]? = some o) (hf : FrR P m fm b a) (h : resA fr o.dst c = some r)
    (hc : ∀ x s', c = some (x, s') → Inv P ok B m sem w x s') (hb : Begins P M (b.atR a (.inRegion ops (i :: rest) :: k)) cs sem w) :
    OpR2 P ok m B M b a (.inRegion ops rest :: k) cs w fr fm o.dst r := by
  have hw : Waits (b.atR a (.inRegion ops (i :: rest) :: k)) := ⟨rfl, hf.kind, .inl ⟨_, _, _, rfl⟩⟩
  unfold resA at h
  split at h
  · rename_i v s1
    simp only [Option.some.injEq] at h; subst h
    obtain ⟨m', w', h1, h2, h3, v', hv, h4⟩ := hc _ _ rfl _ _ _ hw hb
    rw [Frame.finish_atR, ho] at h4
    exact ⟨v, rfl, m', w', _, h1, h2, h3, (hf.mono h1).put o.dst hv, h4⟩
  · rename_i ch s1
    simp only [Option.some.injEq] at h; subst h
    obtain ⟨m', w', h1, h2, h3, ch', hch, h4⟩ := hc _ _ rfl _ _ _ hw hb
    exact ⟨rfl, m', w', h1, h2, h3, hf.mono h1, ch', _, hch, rfl, h4⟩
  · simp at h

theorem invoke_method (x : Value) (y c : Array Value) (name : String) : invoke (.fn (.method name) c) (#[x] ++ y) = callMethod x name y := by
  have e0 : ((#[x] ++ y : Array Value)[0]? : Option Value) = some x := by rw [Array.getElem?_append_left (by rw [List.size_toArray]; exact Nat.one_pos)]; rfl
  have e1 : (#[x] ++ y).extract 1 (#[x] ++ y).size = y := by apply Array.ext'; rw [Array.toList_extract]; simp only [List.extract]; simp only [Array.toList_append, Array.size_append, List.size_toArray, List.length_singleton, List.cons_append, List.nil_append, List.drop_succ_cons, List.drop_zero]; rw [List.take_of_length_le]; simp
  simp only [invoke, e0, e1]

theorem execA_sim2 {e : Ev} (he : Sound P ok B e) {fr fm : Fr} {b : Frame} {a : Act} {ops : Array Oper} {i : Nat} {rest : List Nat} {k : List Item} {cs : List Frame} {o : Oper} {r : ORes}
    (ho : ops[i]? = some o) (hρ : ∀ x ∈ o.op.operands.toList, VR m (fr.ev x) (a.eval x)) (hwd : Region.wanted o (yielded ops a.tmps) = true) (hs : SR P ok m B s w) (hB : B ≤ w.heap.size) (hf : FrR P m fm b a) (h : execA P e o fr s = some r) :
    OpR2 P ok m B (lone (b.atR a (.inRegion ops (i :: rest) :: k)) cs w) b a (.inRegion ops rest :: k) cs w fr fm o.dst r := by
  have hbeg : (∀ c, o.op ≠ .defer c) → Begins P (lone (b.atR a (.inRegion ops (i :: rest) :: k)) cs w) (b.atR a (.inRegion ops (i :: rest) :: k)) cs (execOp a.eval o) w := by
    intro hnd fr' cs' w' hx
    refine step_lone_go ?_
    rw [stepGR_op ho hwd, Oper.semAt_eq _ _ _ hnd]
    exact hx
  unfold execA at h
  split at h
  · rename_i f args argTypes hopc
    have hargs : ∀ x ∈ args.toList, VR m (fr.ev x) (a.eval x) := fun x hx => hρ x (by rw [hopc]; simp [Op.operands, Call.operands]; exact .inr (by simpa using hx))
    have hfv : VR m (fr.ev f) (a.eval f) := hρ f (by rw [hopc]; simp [Op.operands, Call.operands])
    refine resA_sim ho hf h (fun x s' hc => ?_) (hbeg (by rw [hopc]; simp))
    have hla : LR m (args.toList.map fr.ev) (args.map a.eval).toList := by
      rw [Array.toList_map]; exact LR.map _ _ _ hargs
    have := callV_sim he hc hs hB hfv hla
    simpa only [execOp, hopc, resolve] using this
  · rename_i rc name args argTypes hopc
    have hargs : ∀ x ∈ args.toList, VR m (fr.ev x) (a.eval x) := fun x hx => hρ x (by rw [hopc]; simp [Op.operands, Call.operands]; exact .inr (by simpa using hx))
    have hfv : VR m (fr.ev rc) (a.eval rc) := hρ rc (by rw [hopc]; simp [Op.operands, Call.operands])
    refine resA_sim ho hf h (fun x s' hc => ?_) (hbeg (by rw [hopc]; simp))
    have hla : LR m (args.toList.map fr.ev) (args.map a.eval).toList := by
      rw [Array.toList_map]; exact LR.map _ _ _ hargs
    refine (invokeA_sim he hc hs hB hfv hla).congr ?_
    simp only [execOp, hopc, resolve, pure_bind]
    rw [invoke_method]
  · rename_i x hopc
    have hx := hρ x (by rw [hopc]; simp [Op.operands])
    split at h
    · rename_i t v hv
      simp only [Option.some.injEq] at h; subst h
      rw [hv] at hx
      obtain ⟨v', hv', hvr⟩ := hx.iface_inv
      refine ⟨rfl, m, w, Mu.le.refl m, hs, Below.refl B w, hf, [{ v := .iface t v', recovered := false }], .inRegion ops (i :: rest) :: k, .cons (.iface hvr) rfl rfl .nil, rfl, .one ?_⟩
      refine begins_panic (fr := b.atR a (.inRegion ops (i :: rest) :: k)) rfl (hbeg (by rw [hopc]; simp)) ?_
      simp [execOp, hopc, hv', Instr.panic, goPanic, Sem.run]
    · simp at h
  · rename_i hn1 hn2 hn3
    split at h
    · rename_i v s1 hx
      simp only [Option.some.injEq] at h; subst h
      have hnd : ∀ c, o.op ≠ .defer c := by
        intro c hc
        rw [hc] at hx
        simp [exec1, cls] at hx
      obtain ⟨m', v', w', nx, h1, h2, h3, h4, h5, h6⟩ := exec1_sim hs hB hρ hx
      have hstep : step P (lone (b.atR a (.inRegion ops (i :: rest) :: k)) cs w) = .next (lone (b.atR (a.put o.dst v') (.inRegion ops rest :: k)) cs w') := by
        have e1 := Frame.finish_atR b a ops i rest k v'
        rw [ho] at e1
        rcases h2 with rfl | ⟨rfl, rfl⟩
        · rw [begins_value (hbeg hnd) h1, e1]; rfl
        · rw [begins_skip (hbeg hnd) h1, e1]; rfl
      exact ⟨v, rfl, m', w', _, h3, h5, h6, (hf.mono h3).put o.dst h4, .one hstep⟩
    · simp at h

theorem execA_sim {e : Ev} (he : Sound P ok B e) {fr : Fr} {b : Frame} {a : Act} {ops : Array Oper} {i : Nat} {rest : List Nat} {k : List Item} {cs : List Frame} {o : Oper} {r : ORes}
    (ho : ops[i]? = some o) (hop : operOK P o = true) (hwd : Region.wanted o (yielded ops a.tmps) = true) (hs : SR P ok m B s w) (hB : B ≤ w.heap.size) (hf : FrR P m fr b a) (h : execA P e o fr s = some r) :
    OpR P ok m B (lone (b.atR a (.inRegion ops (i :: rest) :: k)) cs w) b a (.inRegion ops rest :: k) cs w r :=
  (execA_sim2 he ho (fun x hx => hf.ev hs.glob (List.all_eq_true.1 hop x hx)) hwd hs hB hf h).same

theorem oneA_sim {e : Ev} (he : Sound P ok B e) {fr : Fr} {b : Frame} {a : Act} {ops : Array Oper} {i : Nat} {rest : List Nat} {k : List Item} {cs : List Frame} {o : Oper} {r : ORes}
    (ho : ops[i]? = some o) (hop : operOK P o = true) (hs : SR P ok m B s w) (hB : B ≤ w.heap.size) (hf : FrR P m fr b a) (h : oneA P e ops.toList o fr s = some r) :
    OpR P ok m B (lone (b.atR a (.inRegion ops (i :: rest) :: k)) cs w) b a (.inRegion ops rest :: k) cs w r := by
  unfold oneA at h
  cases hw : wantedA ops.toList o fr with
  | true =>
    rw [hw, cond_true] at h
    exact execA_sim he ho hop (by rw [wantedA_eq hf, hw]) hs hB hf h
  | false =>
    rw [hw, cond_false] at h
    simp only [Option.some.injEq] at h; subst h
    refine ⟨m, w, _, Mu.le.refl m, hs, Below.refl B w, hf.put o.dst (VR.undef m), .one ?_⟩
    have := stepR_op_skip (P := P) (b := b) (a := a) (k := k) (cs := cs) (w := w) (ops := ops) (i := i) (rest := rest) (by rw [ho]; simp [wantedA_eq hf, hw])
    rw [ho] at this
    exact this

theorem OpR.of_steps {M M1 : Machine} {b : Frame} {a : Act} {todo : List Item} {cs : List Frame} {w0 : World} {m0 : Mu} {a0 : Act} {r : ORes} (hst : Steps P M M1) (hm : m0.le m) (hw : Below B w0 w)
    (ha : ∀ ch fr s, r ≠ .pan ch fr s) (h : OpR P ok m B M1 b a todo cs w r) : OpR P ok m0 B M b a0 todo cs w0 r := by
  cases r with
  | done fr s =>
    obtain ⟨m', w', a', h1, h2, h3, h4, h5⟩ := h
    exact ⟨m', w', a', hm.trans h1, h2, hw.trans h3, h4, hst.trans h5⟩
  | pan ch fr s => exact absurd rfl (ha ch fr s)

/-- Several operations: where they end. -/
def RegR (P : Program) (ok : Cx) (m : Mu) (B : Nat) (M : Machine) (b : Frame) (todo : List Item) (cs : List Frame) (w : World) (r : ORes) : Prop := ∃ a, OpR P ok m B M b a todo cs w r

theorem RegR.of_steps {M M1 : Machine} {b : Frame} {todo : List Item} {cs : List Frame} {w0 : World} {m0 : Mu} {r : ORes} (hst : Steps P M M1) (hm : m0.le m) (hw : Below B w0 w)
    (h : RegR P ok m B M1 b todo cs w r) : RegR P ok m0 B M b todo cs w0 r := by
  obtain ⟨a, h⟩ := h
  refine ⟨a, ?_⟩
  cases r with
  | done fr s =>
    obtain ⟨m', w', a', h1, h2, h3, h4, h5⟩ := h
    exact ⟨m', w', a', hm.trans h1, h2, hw.trans h3, h4, hst.trans h5⟩
  | pan ch fr s =>
    obtain ⟨m', w', h1, h2, h3, h4, ch', td, h5, h7, h6⟩ := h
    exact ⟨m', w', hm.trans h1, h2, hw.trans h3, h4, ch', td, h5, h7, hst.trans h6⟩

theorem textA_sim {e : Ev} (he : Sound P ok B e) {b : Frame} {ops : Array Oper} (hops : ops.toList.all (operOK P) = true) {k : List Item} {cs : List Frame} {r : ORes} : ∀ (rest pre : List Oper) {fr : Fr} {a : Act} {s : S} {w : World} {m : Mu},
    ops.toList = pre ++ rest → SR P ok m B s w → B ≤ w.heap.size → FrR P m fr b a → textA P e ops.toList rest fr s = some r →
    RegR P ok m B (lone (b.atR a (.inRegion ops (List.range' pre.length rest.length) :: k)) cs w) b (.inRegion ops [] :: k) cs w r
  | [], pre, fr, a, s, w, m, _, hs, hB, hf, h => by
    simp only [textA, Option.some.injEq] at h; subst h
    exact ⟨a, m, w, a, Mu.le.refl m, hs, Below.refl B w, hf, Steps.refl _ _⟩
  | o :: rest, pre, fr, a, s, w, m, hpre, hs, hB, hf, h => by
    simp only [textA] at h
    have ho : ops[pre.length]? = some o := by
      rw [← Array.getElem?_toList, hpre]; simp
    have hop : operOK P o = true := List.all_eq_true.1 hops o (by rw [hpre]; simp)
    have hrange : List.range' pre.length (o :: rest).length = pre.length :: List.range' (pre ++ [o]).length rest.length := by
      simp [List.range'_succ]
    rw [hrange]
    split at h
    · rename_i fr1 s1 h1
      obtain ⟨m1, w1, a1, g1, g2, g3, g4, g5⟩ := oneA_sim he (rest := List.range' (pre ++ [o]).length rest.length) (k := k) (cs := cs) ho hop hs hB hf h1
      have := textA_sim he hops (k := k) (cs := cs) rest (pre ++ [o]) (by simp [hpre]) g2 (Nat.le_trans hB g3.size) g4 h
      exact this.of_steps g5 g1 g3
    · rename_i r1 hne
      cases hr : oneA P e ops.toList o fr s with
      | none => rw [hr] at h; simp at h
      | some x =>
        rw [hr] at h
        cases x with
        | done fr1 s1 => exact absurd hr (hne fr1 s1)
        | pan ch fr1 s1 =>
          simp only [Option.some.injEq] at h; subst h
          have := oneA_sim he (rest := List.range' (pre ++ [o]).length rest.length) (k := k) (cs := cs) ho hop hs hB hf hr
          exact ⟨a, this⟩
end
end Go.Sv

/- Code, as the machine carries it out. -/
namespace Go.Sv
open Go.RowKit (Below)

section
variable {P : Program} {ok : Cx} {w w' : World} {m m' : Mu} {B : Nat} {s : S}

/-- What is asked of regions whose order is drawn. -/
def DrawS (P : Program) (ok : Cx) (B : Nat) : Prop :=
  ∀ e, (∀ ok' : Cx, ok'.ok = ok.ok → Sound P ok' B e) → ∀ {i ops fr s r}, ok (.region i ops true) → drawA P e ops.toList (masksOf ops) (canon P ops) [] fr s = some r →
    ∀ {m w b a k cs}, SR P ok m B s w → B ≤ w.heap.size → FrR P m fr b a → RegR P ok m B (lone (b.atR a (.code (.region i ops true) :: k)) cs w) b (.inRegion ops [] :: k) cs w r

/-- What a piece of code comes to. -/
def CodeR (P : Program) (ok : Cx) (m : Mu) (B : Nat) (M : Machine) (b : Frame) (k : List Item) (cs : List Frame) (w : World) (ex : Exit) (fr' : Fr) (s' : S) : Prop :=
  ∃ m' w' a', m.le m' ∧ SR P ok m' B s' w' ∧ Below B w w' ∧ FrE P m' ex fr' b a' ∧ ArrR P m' M b k cs a' w' ex

theorem CodeR.of_steps {M M1 : Machine} {b : Frame} {k : List Item} {cs : List Frame} {w0 : World} {m0 : Mu} {ex : Exit} {fr' : Fr} {s' : S} (hst : Steps P M M1) (hm : m0.le m) (hw : Below B w0 w)
    (h : CodeR P ok m B M1 b k cs w ex fr' s') : CodeR P ok m0 B M b k cs w0 ex fr' s' := by
  obtain ⟨m', w', a', h1, h2, h3, h4, h5⟩ := h
  exact ⟨m', w', a', hm.trans h1, h2, hw.trans h3, h4, h5.of_steps hst⟩

theorem CodeR.pass {M : Machine} {b : Frame} {k k' : List Item} {cs : List Frame} {ex : Exit} {fr' : Fr} {s' : S} (hn : ex ≠ .normal)
    (hk : ∀ id, ex = .exit id → exitTo id k' = exitTo id k) (h : CodeR P ok m B M b k' cs w ex fr' s') : CodeR P ok m B M b k cs w ex fr' s' := by
  obtain ⟨m', w', a', h1, h2, h3, h4, h5⟩ := h
  exact ⟨m', w', a', h1, h2, h3, h4, h5.pass hn hk⟩

theorem thenA_some {r : Option (Exit × Fr × S)} {f : Fr → S → Option (Exit × Fr × S)} {ex : Exit} {fr' : Fr} {s' : S} (h : thenA r f = some (ex, fr', s')) :
    (∃ fr1 s1, r = some (.normal, fr1, s1) ∧ f fr1 s1 = some (ex, fr', s')) ∨ (ex ≠ .normal ∧ r = some (ex, fr', s')) := by
  unfold thenA at h
  split at h
  · exact .inl ⟨_, _, rfl, h⟩
  · rename_i hn
    refine .inr ⟨?_, h⟩
    rintro rfl
    exact hn _ _ h

/-- Code behind code. -/
theorem then_sim {e : Ev} (he : Sound P ok B e) {c d : Code} {x : Item} {fr fr' : Fr} {s' : S} {ex : Exit} {b : Frame} {a : Act} {k t : List Item} {cs : List Frame}
    (hc : ok c) (hd : ok d) (ht : Starts c (x :: k) t) (hx : ∀ id, exitTo id (x :: k) = exitTo id k) (hxs : Starts d k (x :: k))
    (hs : SR P ok m B s w) (hB : B ≤ w.heap.size) (hf : FrR P m fr b a)
    (h : thenA (e.code c fr s) (e.code d) = some (ex, fr', s')) : CodeR P ok m B (lone (b.atR a t) cs w) b k cs w ex fr' s' := by
  rcases thenA_some h with ⟨fr1, s1, h1, h2⟩ | ⟨hn, h1⟩
  · obtain ⟨m1, w1, a1, g1, g2, g3, g4, g5⟩ := he.code h1 hc hs hB hf (k := x :: k) (cs := cs) ht
    have := he.code h2 hd g2 (Nat.le_trans hB g3.size) g4 (k := k) (cs := cs) hxs
    exact CodeR.of_steps g5 g1 g3 this
  · have := he.code h1 hc hs hB hf (k := x :: k) (cs := cs) ht
    exact CodeR.pass hn (fun id _ => hx id) this

theorem outA_sim {ops : Array Oper} {b : Frame} {k : List Item} {cs : List Frame} {M : Machine} {r : Option ORes} {ex : Exit} {fr' : Fr} {s' : S} (h : outA r = some (ex, fr', s'))
    (hr : ∀ x, r = some x → RegR P ok m B M b (.inRegion ops [] :: k) cs w x) : CodeR P ok m B M b k cs w ex fr' s' := by
  unfold outA at h
  split at h
  · simp only [Option.some.injEq, Prod.mk.injEq] at h
    obtain ⟨rfl, rfl, rfl⟩ := h
    obtain ⟨_, m', w', a', h1, h2, h3, h4, h5⟩ := hr _ rfl
    exact ⟨m', w', a', h1, h2, h3, h4, h5.trans (.one stepR_region_end)⟩
  · simp only [Option.some.injEq, Prod.mk.injEq] at h
    obtain ⟨rfl, rfl, rfl⟩ := h
    obtain ⟨a, m', w', h1, h2, h3, h4, h5⟩ := hr _ rfl
    exact ⟨m', w', a, h1, h2, h3, h4, h5⟩
  · simp at h

theorem regionA_sim (hP : ProgOK P ok) (hD : DrawS P ok B) {e : Ev} (hall : ∀ ok' : Cx, ok'.ok = ok.ok → Sound P ok' B e) {i : Nat} {ops : Array Oper} {draw : Bool} {fr fr' : Fr} {s' : S} {ex : Exit} {b : Frame} {a : Act} {k : List Item} {cs : List Frame}
    (hok : ok (.region i ops draw)) (hs : SR P ok m B s w) (hB : B ≤ w.heap.size) (hf : FrR P m fr b a) (h : regionA P e ops draw fr s = some (ex, fr', s')) :
    CodeR P ok m B (lone (b.atR a (.code (.region i ops draw) :: k)) cs w) b k cs w ex fr' s' := by
  have he := hall ok rfl
  unfold regionA at h
  split at h
  · refine outA_sim (ops := ops) h fun x hx => ?_
    have := textA_sim he (b := b) (hP.region hok) (k := k) (cs := cs) ops.toList [] rfl hs hB hf hx
    refine this.of_steps (.one ?_) (Mu.le.refl m) (Below.refl B w)
    have h1 := stepR_region (P := P) (b := b) (a := a) (k := k) (cs := cs) (w := w) (ops := ops) (id := i)
    rw [List.range_eq_range'] at h1
    simpa using h1
  · refine outA_sim (ops := ops) h fun x hx => ?_
    exact hD e hall hok hx hs hB hf

theorem stepCode_sim (hP : ProgOK P ok) (hD : DrawS P ok B) {e : Ev} (hall : ∀ ok' : Cx, ok'.ok = ok.ok → Sound P ok' B e)
    (hrange : ∀ {f params assign body fr s ex fr' s'}, rangeA P e f params assign body fr s = some (ex, fr', s') → ok (.rangeFunc f params assign body) → ∀ {m w b a k cs}, SR P ok m B s w → B ≤ w.heap.size →
      FrR P m fr b a → CodeR P ok m B (lone (b.atR a (.code (.rangeFunc f params assign body) :: k)) cs w) b k cs w ex fr' s')
    {c : Code} {fr fr' : Fr} {s' : S} {ex : Exit} {b : Frame} {a : Act} {k t : List Item} {cs : List Frame}
    (h : stepCode P e c fr s = some (ex, fr', s')) (hok : ok c) (hs : SR P ok m B s w) (hB : B ≤ w.heap.size) (hf : FrR P m fr b a) (ht : Starts c k t) :
    CodeR P ok m B (lone (b.atR a t) cs w) b k cs w ex fr' s' := by
  have he := hall ok rfl
  have hone : ∀ {k'}, step P (lone (b.atR a t) cs w) = .next (lone (b.atR a k') cs w) → Steps P (lone (b.atR a t) cs w) (lone (b.atR a k') cs w) := fun h => .one h
  cases c with
  | skip =>
    rcases ht with rfl | ⟨_, hc, _⟩
    · simp only [stepCode, Option.some.injEq, Prod.mk.injEq] at h
      obtain ⟨rfl, rfl, rfl⟩ := h
      exact ⟨m, w, a, Mu.le.refl m, hs, Below.refl B w, hf, .one stepR_skip⟩
    · cases hc
  | label l =>
    rcases ht with rfl | ⟨_, hc, _⟩
    · simp only [stepCode, Option.some.injEq, Prod.mk.injEq] at h
      obtain ⟨rfl, rfl, rfl⟩ := h
      exact ⟨m, w, a, Mu.le.refl m, hs, Below.refl B w, hf, .one stepR_label⟩
    · cases hc
  | seq c d =>
    rcases ht with rfl | ⟨_, hc, _⟩
    · simp only [stepCode] at h
      obtain ⟨h1, h2⟩ := hP.seq hok
      have := then_sim he h1 h2 (k := k) (cs := cs) (.inl rfl) (fun _ => rfl) (.inl rfl) hs hB hf h
      exact this.of_steps (.one stepR_seq) (Mu.le.refl m) (Below.refl B w)
    · cases hc
  | cond x c d =>
    rcases ht with rfl | ⟨_, hc, _⟩
    · obtain ⟨hx, h1, h2⟩ := hP.cond hok
      have hv := hf.ev hs.glob hx
      simp only [stepCode] at h
      split at h
      · rename_i hx'
        rw [hx'] at hv
        have := he.code h h1 hs hB hf (k := k) (cs := cs) (.inl rfl)
        refine CodeR.of_steps (.one (stepR_cond (t := true) (hv.of_isLeaf rfl))) (Mu.le.refl m) (Below.refl B w) this
      · rename_i hx'
        rw [hx'] at hv
        have := he.code h h2 hs hB hf (k := k) (cs := cs) (.inl rfl)
        refine CodeR.of_steps (.one (stepR_cond (t := false) (hv.of_isLeaf rfl))) (Mu.le.refl m) (Below.refl B w) this
      · simp at h
    · cases hc
  | block id c =>
    rcases ht with rfl | ⟨_, hc, _⟩
    · simp only [stepCode, blockA] at h
      have h1 := hP.block hok
      split at h
      · rename_i j fr1 s1 he1
        have hin := he.code he1 h1 hs hB hf (k := .inBlock id :: k) (cs := cs) (.inl rfl)
        have hin := CodeR.of_steps (.one (stepR_block (id := id))) (Mu.le.refl m) (Below.refl B w) hin
        cases hj : Nat.beq j id with
        | true =>
          have := Nat.eq_of_beq_eq_true hj
          subst this
          rw [hj, cond_true] at h
          simp only [Option.some.injEq, Prod.mk.injEq] at h
          obtain ⟨rfl, rfl, rfl⟩ := h
          obtain ⟨m', w', a', g1, g2, g3, g4, k0, g5, g6⟩ := hin
          refine ⟨m', w', a', g1, g2, g3, g4, g6.trans (.one (stepR_exit ?_))⟩
          rw [g5]; simp [exitTo]
        | false =>
          rw [hj, cond_false] at h
          simp only [Option.some.injEq, Prod.mk.injEq] at h
          obtain ⟨rfl, rfl, rfl⟩ := h
          refine hin.pass (by simp) fun id2 hid => ?_
          simp only [Exit.exit.injEq] at hid; subst hid
          have : (id == j) = false := by
            rw [nat_beq] at hj
            simp only [decide_eq_false_iff_not] at hj
            simpa using fun e => hj e.symm
          simp [exitTo, this]
      · rename_i hn
        have hin := he.code h h1 hs hB hf (k := .inBlock id :: k) (cs := cs) (.inl rfl)
        have hin := CodeR.of_steps (.one (stepR_block (id := id))) (Mu.le.refl m) (Below.refl B w) hin
        by_cases hx : ex = .normal
        · subst hx
          obtain ⟨m', w', a', g1, g2, g3, g4, g5⟩ := hin
          exact ⟨m', w', a', g1, g2, g3, g4, Steps.trans g5 (.one stepR_inBlock)⟩
        · refine hin.pass hx fun id2 hid => ?_
          subst hid
          exact absurd h (hn _ _ _)
    · cases hc
  | loop c =>
    simp only [stepCode] at h
    have h1 := hP.loop hok
    have := then_sim he h1 hok (k := k) (cs := cs) (x := .inLoop c) (.inl rfl) (fun _ => rfl) (.inr ⟨c, rfl, rfl⟩) hs hB hf h
    rcases ht with rfl | ⟨_, hc, rfl⟩
    · exact this.of_steps (.one stepR_loop) (Mu.le.refl m) (Below.refl B w)
    · cases hc
      exact this.of_steps (.one stepR_inLoop) (Mu.le.refl m) (Below.refl B w)
  | scope c =>
    rcases ht with rfl | ⟨_, hc, _⟩
    · simp only [stepCode] at h
      have hin := he.code h (hP.scope hok) hs hB hf (k := .inScope c :: k) (cs := cs) (.inl rfl)
      have hin := CodeR.of_steps (.one stepR_scope) (Mu.le.refl m) (Below.refl B w) hin
      by_cases hx : ex = .normal
      · subst hx
        obtain ⟨m', w', a', g1, g2, g3, g4, g5⟩ := hin
        exact ⟨m', w', a', g1, g2, g3, g4, Steps.trans g5 (.one stepR_inScope)⟩
      · exact CodeR.pass (k' := .inScope c :: k) hx (fun _ _ => rfl) hin
    · cases hc
  | exit id =>
    rcases ht with rfl | ⟨_, hc, _⟩
    · simp only [stepCode, Option.some.injEq, Prod.mk.injEq] at h
      obtain ⟨rfl, rfl, rfl⟩ := h
      exact ⟨m, w, a, Mu.le.refl m, hs, Below.refl B w, hf, k, rfl, Steps.refl _ _⟩
    · cases hc
  | ret =>
    rcases ht with rfl | ⟨_, hc, _⟩
    · simp only [stepCode, Option.some.injEq, Prod.mk.injEq] at h
      obtain ⟨rfl, rfl, rfl⟩ := h
      exact ⟨m, w, a, Mu.le.refl m, hs, Below.refl B w, hf, k, Steps.refl _ _⟩
    · cases hc
  | region i ops draw =>
    rcases ht with rfl | ⟨_, hc, _⟩
    · exact regionA_sim hP hD hall hok hs hB hf h
    · cases hc
  | rangeFunc f params assign body =>
    rcases ht with rfl | ⟨_, hc, _⟩
    · exact hrange h hok hs hB hf
    · cases hc
  | goto l => simp [stepCode] at h
  | refuse y => simp [stepCode] at h
end
end Go.Sv

/- Ranges over functions, as the machine carries them out. -/
namespace Go.Sv
open Go.RowKit (Below)

section
variable {P : Program} {ok : Cx} {w w' : World} {m m' : Mu} {B : Nat} {s : S}

theorem stepR_range {f : Operand} {params : Array Tmp} {assign body : Code} {b : Frame} {a : Act} {k : List Item} {cs : List Frame} {l : Nat} {mark : List Deferred}
    (hr : (Instr.enterLoop b.fn a.tmps params assign body b.roundOf).run P w = .ok (l, mark) w') :
    Begins P (lone (b.atR a (.code (.rangeFunc f params assign body) :: k)) cs w) (b.atR { a with defers := mark ++ a.defers } (.inRangeFunc l :: k)) cs
      (do let d ← Deferred.ofValue (a.eval f) #[.func (.yield l) #[] #[]]; invoke d.target d.args) w' := by
  intro fr' cs' w2 hx
  refine step_lone_go ?_
  have hev := congrFun (Frame.eval_atR b { a with defers := mark ++ a.defers } (.inRangeFunc l :: k)) f
  have he2 : ({ a with defers := mark ++ a.defers } : Act).eval f = a.eval f := by cases f <;> rfl
  rw [he2] at hev
  simp only [Frame.atR] at hev hx
  simp only [stepG, stepG.exec, Frame.atR, Sem.runT_eq, hr, GStep.bare_after]
  rw [← hx]
  congr 1
  simp only [resolve, List.map_toArray, List.map_cons, List.map_nil, hev]
  rfl

theorem stepR_endRange {b : Frame} {a : Act} {k : List Item} {cs : List Frame} {l : Nat} {jump : Option Code} (hr : (Instr.endLoop l).run P w = .ok jump w') :
    step P (lone (b.atR a (.endRangeFunc l :: k)) cs w) = .next (lone (b.atR a ((jump.map Item.code).toList ++ k)) cs w') :=
  step_lone_go (by simp only [stepG, stepG.exec, Frame.atR, Sem.runT_eq, hr, GStep.bare_after]; simp)

theorem SR.loopAt {l l' : Nat} {r : ALoop} (h : SR P ok m B s w) (hl : objAt m l l') (hg : s.get l = some (.loop r)) : ∃ r' z, m l = some (l', 0, z) ∧ w.heap[l']? = some (.loop r') ∧ LoopR m ok r r' := by
  obtain ⟨z, hz⟩ := hl
  obtain ⟨_, r', h1, h2⟩ := h.blk _ _ _ _ _ hz hg
  exact ⟨r', z, hz, h1, h2⟩

theorem run_getLoop {l : Nat} {r : Loop} (h : w.heap[l]? = some (.loop r)) : (Instr.getLoop l).run P w = .ok r w := by
  simp only [Instr.getLoop, Sem.run_bind, run_getObj h (by simp), Result.andThen_ok, Sem.run_pure]

theorem endLoopA_sim {e : Ev} (he : Sound P ok B e) {l l' : Nat} {fr fr' : Fr} {s' : S} {ex : Exit} {b : Frame} {a : Act} {k : List Item} {cs : List Frame}
    (h : endLoopA e l fr s = some (ex, fr', s')) (hs : SR P ok m B s w) (hB : B ≤ w.heap.size) (hf : FrR P m fr b a) (hl : objAt m l l') :
    CodeR P ok m B (lone (b.atR a (.endRangeFunc l' :: k)) cs w) b k cs w ex fr' s' := by
  unfold endLoopA at h
  split at h
  · rename_i r hg
    obtain ⟨r', z, hz, h1, h2⟩ := hs.loopAt hl hg
    have hst := h2.state
    have hbusy : r.state ≠ .busy → (Instr.endLoop l').run P w = .ok r'.pending { w with heap := w.heap.setIfInBounds l' (.loop { r' with state := .exhausted }) } := by
      intro hb
      have : (r'.state == .busy) = false := by
        rw [hst]; cases hr : r.state <;> simp_all
      simp only [Instr.endLoop, Sem.run_bind, run_getLoop h1, Result.andThen_ok, this, Bool.false_eq_true, if_false, run_setObj h1 (by simp), Sem.run_pure]
    have hput := hs.put (o2 := .loop { r with state := .exhausted }) hz hg rfl (wrote_set w l' (.loop { r' with state := .exhausted }))
      ⟨rfl, _, rfl, ⟨rfl, h2.pending, h2.fn, h2.env, h2.params, h2.assign, h2.body, h2.defers, h2.okA, h2.okB, h2.okP⟩⟩
    split at h
    · simp at h
    · rename_i hnb
      have hnb' : r.state ≠ .busy := fun e => hnb e
      have hrun := hbusy hnb'
      split at h
      · rename_i hp
        simp only [Option.some.injEq, Prod.mk.injEq] at h
        obtain ⟨rfl, rfl, rfl⟩ := h
        have hp' : r'.pending = none := by rw [h2.pending, hp]
        have hst := stepR_endRange (b := b) (a := a) (k := k) (cs := cs) hrun
        have e1 : (r'.pending.map Item.code).toList = [] := by rw [hp']; rfl
        rw [e1] at hst
        exact ⟨m, _, a, Mu.le.refl m, hput.1, hput.2, hf, .one hst⟩
      · rename_i jump hp
        have hp' : r'.pending = some jump := by rw [h2.pending, hp]
        have hst := stepR_endRange (b := b) (a := a) (k := k) (cs := cs) hrun
        have e1 : (r'.pending.map Item.code).toList = [.code jump] := by rw [hp']; rfl
        rw [e1] at hst
        have := he.code h (h2.okP _ hp) hput.1 (Nat.le_trans hB hput.2.size) hf (k := k) (cs := cs) (.inl rfl)
        exact CodeR.of_steps (.one hst) (Mu.le.refl m) hput.2 this
  · simp at h

theorem none_next (h : SR P ok m B s w) : m s.next = none := by
  cases hmm : m s.next with
  | none => rfl
  | some y => obtain ⟨rb, ro, z⟩ := y; have := (h.dom _ _ _ _ hmm).1; omega

theorem rangeInA_sim {e : Ev} (he : Sound P ok B e) {f : Operand} {params : Array Tmp} {assign body : Code} {d : Nat} {fr fr' : Fr} {s' : S} {ex : Exit} {b : Frame} {a : Act} {k : List Item} {cs : List Frame}
    {w0 : World} {m0 : Mu} {a0 : Act} {mark : List Deferred}
    (h : rangeInA P e f params assign body d fr s = some (ex, fr', s')) (hof : opdOK P f = true) (hA : ok assign) (hBd : ok body) (hm : m0.le m) (hw : Below B w0 w)
    (hs : SR P ok m B s w) (hB : B ≤ w.heap.size) (hf : FrR P m fr b a) (ha : a = { a0 with defers := mark ++ a0.defers }) (d' : Nat) (hd : objAt m d d')
    (hr : (Instr.enterLoop b.fn a0.tmps params assign body b.roundOf).run P w0 = .ok (w.heap.size, mark) { w with heap := w.heap.push (.loop { state := .ready, pending := none, fn := b.fn, tmps := a0.tmps, params, assign, body, defers := d' }) }) :
    CodeR P ok m0 B (lone (b.atR a0 (.code (.rangeFunc f params assign body) :: k)) cs w0) b k cs w0 ex fr' s' := by
  have hm0 := none_next hs
  let lp : ALoop := { state := .ready, pending := none, fn := fr.fn, env := fr.env, n := fr.n, params, assign, body, defers := d }
  let lp' : Loop := { state := .ready, pending := none, fn := b.fn, tmps := a0.tmps, params, assign, body, defers := d' }
  have htm : a0.tmps = a.tmps := by rw [ha]
  have hgrew := grew_push w (.loop lp')
  have hs2 := (hs.new (.loop lp)).grew (z := 0) (o := .loop lp) hgrew hB hm0 hs.res_next (Nat.lt_succ_self _) (by rw [S.get_new, if_pos rfl])
    ⟨rfl, lp', rfl, ⟨rfl, rfl, hf.fn, by rw [show lp'.tmps = a.tmps from htm]; exact hf.env, rfl, rfl, rfl, hd, hA, hBd, by simp [lp]⟩⟩
  have hle : m.le (m.ins s.next (w.heap.size, 0, 0)) := Mu.le_ins hm0
  have hf2 := hf.mono hle
  have hB2 : B ≤ ({ w with heap := w.heap.push (.loop lp') } : World).heap.size := by simp; omega
  have hl : objAt (m.ins s.next (w.heap.size, 0, 0)) s.next w.heap.size := ⟨0, Mu.ins_same m _ _⟩
  have hfv := hf2.ev hs2.glob hof
  have hae : a.eval f = a0.eval f := by rw [ha]; cases f <;> rfl
  rw [hae] at hfv
  have hyv : VR (m.ins s.next (w.heap.size, 0, 0)) (.func (.yield s.next) #[] #[]) (.func (.yield w.heap.size) #[] #[]) :=
    .func hl rfl (fun i h _ => by simp at h) rfl (fun i h _ => by simp at h)
  have hbeg := stepR_range (P := P) (f := f) (k := k) (cs := cs) hr
  rw [← ha] at hbeg
  have hwt : Waits (b.atR a (.inRangeFunc w.heap.size :: k)) := ⟨rfl, hf.kind, .inr ⟨_, _, rfl⟩⟩
  have hbel := hgrew.below hB
  unfold rangeInA at h
  split at h
  · rename_i v s1 hc
    obtain ⟨m1, w1, g1, g2, g3, v', hv', g4⟩ := callV_sim he hc hs2 hB2 hfv (args' := #[.func (.yield w.heap.size) #[] #[]]) ((LR.nil _).cons hyv) _ _ _ hwt hbeg
    have hfin : (b.atR a (.inRangeFunc w.heap.size :: k)).finish v' = b.atR a (.endRangeFunc w.heap.size :: k) := rfl
    rw [hfin] at g4
    have := endLoopA_sim he h g2 (Nat.le_trans hB2 g3.size) (hf2.mono g1) (k := k) (cs := cs) (hl.mono g1)
    exact this.of_steps g4 ((hm.trans hle).trans g1) ((hw.trans hbel).trans g3)
  · rename_i chain s1 hc
    simp only [Option.some.injEq, Prod.mk.injEq] at h
    obtain ⟨rfl, rfl, rfl⟩ := h
    obtain ⟨m1, w1, g1, g2, g3, ch', hch, g4⟩ := callV_sim he hc hs2 hB2 hfv (args' := #[.func (.yield w.heap.size) #[] #[]]) ((LR.nil _).cons hyv) _ _ _ hwt hbeg
    exact ⟨m1, w1, a, (hm.trans hle).trans g1, g2, (hw.trans hbel).trans g3, (hf2.mono g1).frE, ch', _, hch, rfl, g4⟩
  · simp at h

theorem rangeA_sim (hP : ProgOK P ok) {e : Ev} (he : Sound P ok B e) {f : Operand} {params : Array Tmp} {assign body : Code} {fr fr' : Fr} {s' : S} {ex : Exit} {b : Frame} {a : Act} {k : List Item} {cs : List Frame}
    (h : rangeA P e f params assign body fr s = some (ex, fr', s')) (hok : ok (.rangeFunc f params assign body)) (hs : SR P ok m B s w) (hB : B ≤ w.heap.size) (hf : FrR P m fr b a) :
    CodeR P ok m B (lone (b.atR a (.code (.rangeFunc f params assign body) :: k)) cs w) b k cs w ex fr' s' := by
  obtain ⟨hof, hA, hBd⟩ := hP.range hok
  unfold rangeA at h
  split at h
  · rename_i l hl
    split at h
    · rename_i r hg
      have hround := hf.round
      rw [hl] at hround
      cases hbr : b.roundOf with
      | none => rw [hbr] at hround; exact hround.elim
      | some l' =>
        rw [hbr] at hround
        obtain ⟨r', z, hz, h1, h2⟩ := hs.loopAt hround hg
        refine rangeInA_sim he h hof hA hBd (Mu.le.refl m) (Below.refl B w) hs hB hf (a0 := a) (mark := []) (by simp) r'.defers h2.defers ?_
        simp only [hbr, Instr.enterLoop, Sem.run_bind, run_getLoop h1, Result.andThen_ok, Sem.run_pure, run_newObj]
    · simp at h
  · rename_i hl
    have hround := hf.round
    rw [hl] at hround
    cases hbr : b.roundOf with
    | some l' => rw [hbr] at hround; exact hround.elim
    | none =>
      have hm0 := none_next hs
      have hgrew := grew_push w (.deferred (some []))
      have hs2 := (hs.new (.defd true)).grew (z := 0) (o := .defd true) hgrew hB hm0 hs.res_next (Nat.lt_succ_self _) (by rw [S.get_new, if_pos rfl]) ⟨rfl, rfl⟩
      have hle : m.le (m.ins s.next (w.heap.size, 0, 0)) := Mu.le_ins hm0
      have hd : objAt (m.ins s.next (w.heap.size, 0, 0)) s.next w.heap.size := ⟨0, Mu.ins_same m _ _⟩
      have hf1 := hf.mono hle
      have hf2 : FrR P (m.ins s.next (w.heap.size, 0, 0)) { fr with defs := s.next :: fr.defs } b { a with defers := [{ target := .collected w.heap.size, args := #[] }] ++ a.defers } :=
        ⟨hf1.env, ⟨⟨_, hd, rfl⟩, hf1.defs⟩, hf1.fn, hf1.round, hf1.kind⟩
      refine rangeInA_sim he h hof hA hBd hle (hgrew.below hB) hs2 (by simp; omega) hf2 (a0 := a) (mark := [{ target := .collected w.heap.size, args := #[] }]) rfl w.heap.size hd ?_
      simp only [hbr, Instr.enterLoop, Sem.run_bind, Result.andThen_ok, Sem.run_pure, run_newObj]

theorem bindA_env {n : Nat} : ∀ (ps : List Tmp) (vs vs' : List Value) (env : M Value) (tmps : Array Value), EnvR m env n tmps → LR m vs vs' →
    EnvR m (bindA n ps vs env) n ((ps.zip vs').foldl (fun tmps (t, a) => tmps.setIfInBounds t a) tmps)
  | [], vs, vs', env, tmps, h, _ => by
    cases vs <;> simpa [bindA] using h
  | p :: ps, [], vs', env, tmps, h, hv => by
    have := hv.nil_inv
    subst this
    simpa [bindA] using h
  | p :: ps, v :: vs, vs', env, tmps, h, hv => by
    obtain ⟨v', r', rfl, h1, h2⟩ := hv.cons_inv
    simp only [bindA, List.zip_cons_cons, List.foldl_cons]
    exact bindA_env ps vs r' _ _ (h.put h1) h2

theorem stepR_raise {b c : Frame} {a : Act} {todo : List Item} {cs : List Frame} {ch : List PanicEntry} (hd : a.defers = []) (hn : noCall todo = true) :
    step P (lone { b.atR a todo with mode := .panicking ch } (c :: cs) w) = .next (lone (c.raise ch) cs w) := by
  refine step_lone_go ?_
  have hc : ∀ x : Frame, x.todo = todo → x.catches P = false := by
    intro x hx
    unfold Frame.catches
    rw [hx]
    cases todo with
    | nil => cases P.funcs[x.fn]? <;> rfl
    | cons i t => cases i <;> first | (simp [noCall] at hn; done) | (cases P.funcs[x.fn]? <;> rfl)
  simp only [stepG, unwind, Frame.atR, hd]
  rw [hc _ rfl]
  rfl

theorem endRound_run {l' : Nat} {r' : Loop} {jump : Option Code} (h : w.heap[l']? = some (.loop r')) :
    (Instr.endRound l' jump).run P w = .ok (.bool jump.isNone) { w with heap := w.heap.setIfInBounds l' (.loop { r' with state := if jump.isNone then .ready else .done, pending := jump }) } := by
  simp only [Instr.endRound, Sem.run_bind, run_getLoop h, Result.andThen_ok, run_setObj h (by simp), Sem.run_pure]

theorem stepYield_sim (hP : ProgOK P ok) {e : Ev} (he : Sound P ok B e) {l l' : Nat} {args : List Value} {args' : Array Value} {r : CRes} {s' : S}
    (h : stepYield e l args s = some (r, s')) (hs : SR P ok m B s w) (hB : B ≤ w.heap.size) (ha : LR m args args'.toList) (hl : objAt m l l') :
    Inv P ok B m (Instr.yield l' args') w r s' := by
  unfold stepYield at h
  split at h
  · rename_i r0 hg
    obtain ⟨r0', z, hz, h1, h2⟩ := hs.loopAt hl hg
    obtain ⟨hn, h⟩ := cond_some h
    rw [Nat.beq_eq] at hn
    intro M fr0 cs hwt hb
    have hargs : args'.size = r0'.params.size := by
      rw [h2.params]
      have := ha.1
      simp at this hn
      omega
    let b : Frame := { fn := r0'.fn, tmps := #[], todo := [], defers := [], mode := .run, kind := .normal, roundOf := some l' }
    let tmps := (r0'.params.zip args').foldl (fun tmps (t, a) => tmps.setIfInBounds t a) r0'.tmps
    have hyr : (Instr.yield l' args').run P w = .ok (.round l' r0'.fn tmps r0'.assign r0'.body) w := by
      simp only [Instr.yield, Sem.run_bind, run_getLoop h1, Result.andThen_ok, ne_eq, hargs, not_true_eq_false, if_false, Sem.run_pure]
      rfl
    have hstep := hwt.rounds hb hyr
    have hfr0 : Frame.round l' r0'.fn tmps r0'.assign r0'.body .normal = b.atR ⟨tmps, []⟩ [.code r0'.assign, .beginRound, .code r0'.body] := rfl
    rw [hfr0] at hstep
    have htm : EnvR m (bindA r0.n r0.params.toList args r0.env) r0.n tmps := by
      have := bindA_env r0.params.toList args args'.toList r0.env r0'.tmps h2.env ha
      have e1 : tmps = ((r0.params.toList.zip args'.toList).foldl (fun tmps (t, a) => tmps.setIfInBounds t a) r0'.tmps) := by
        show (r0'.params.zip args').foldl _ r0'.tmps = _
        rw [h2.params, ← Array.foldl_toList, Array.toList_zip]
      rw [e1]; exact this
    have hfr : FrR P m ⟨bindA r0.n r0.params.toList args r0.env, r0.n, [], r0.fn, some l⟩ b ⟨tmps, []⟩ := ⟨htm, trivial, h2.fn, hl, rfl⟩
    split at h
    · rename_i fr1 s1 hc1
      obtain ⟨m1, w1, a1, g1, g2, g3, g4, g5⟩ := he.code hc1 h2.okA hs hB hfr (k := [.beginRound, .code r0'.body]) (cs := fr0 :: cs) (.inl rfl)
      split at h
      · rename_i r2 hg2
        split at h
        · rename_i hready
          obtain ⟨r2', z2, hz2, k1, k2⟩ := g2.loopAt (hl.mono g1) hg2
          have hbr : (Instr.beginRound l').run P w1 = .ok () { w1 with heap := w1.heap.setIfInBounds l' (.loop { r2' with state := .busy }) } := by
            have : r2'.state = .ready := by rw [k2.state, hready]
            simp only [Instr.beginRound, Sem.run_bind, run_getLoop k1, Result.andThen_ok, run_setObj k1 (by simp), this, Sem.run_pure]
          obtain ⟨p1, p2⟩ := g2.put (o2 := .loop { r2 with state := .busy }) hz2 hg2 rfl (wrote_set w1 l' (.loop { r2' with state := .busy }))
            ⟨rfl, _, rfl, ⟨rfl, k2.pending, k2.fn, k2.env, k2.params, k2.assign, k2.body, k2.defers, k2.okA, k2.okB, k2.okP⟩⟩
          have hB1 : B ≤ w1.heap.size := Nat.le_trans hB g3.size
          have hst2 := stepR_beginRound (P := P) (b := b) (a := a1) (k := [.code r0'.body]) (cs := fr0 :: cs) (l := l') rfl hbr
          rw [h2.assign] at hstep
          rw [h2.body] at hst2 g5 hstep
          split at h
          · rename_i ex fr' s2 hc2
            split at h
            · rename_i hdefs
              obtain ⟨m2, w2, a2, q1, q2, q3, q4, q5⟩ := he.code hc2 h2.okB p1 (Nat.le_trans hB1 p2.size) g4 (k := []) (cs := fr0 :: cs) (.inl rfl)
              have had : a2.defers = [] := by
                have := FrE.defs q4
                rw [hdefs] at this
                cases hda : a2.defers with
                | nil => rfl
                | cons d ds => rw [hda] at this; exact this.elim
              have hpre : Steps P M (lone (b.atR a1 [.code r0.body]) (fr0 :: cs) _) := .head hstep (g5.trans (.one hst2))
              have hle2 : m.le m2 := g1.trans q1
              have hbel2 : Below B w w2 := (g3.trans p2).trans q3
              have hm0 : fr0.mode = .run := hwt.1
              unfold endRoundA at h
              split at h
              · rename_i chain
                simp only [Option.some.injEq, Prod.mk.injEq] at h
                obtain ⟨rfl, rfl⟩ := h
                obtain ⟨ch', todo, hch, hnc, q5⟩ := q5
                refine ⟨m2, w2, hle2, q2, hbel2, ch', hch, hpre.trans (q5.trans (.one ?_))⟩
                rw [stepR_raise had hnc]
                simp [Frame.raise, hm0]
              · rename_i hnp
                split at h
                · rename_i jump r3 hj hg3
                  obtain ⟨r3', z3, hz3, j1, j2⟩ := q2.loopAt (hl.mono hle2) hg3
                  simp only [Option.some.injEq, Prod.mk.injEq] at h
                  obtain ⟨rfl, rfl⟩ := h
                  have hjok : ∀ c, jump = some c → ok c := by
                    intro c hc
                    subst hc
                    cases ex <;> simp [jumpOf] at hj
                    · subst hj; exact hP.exit
                    · subst hj; exact hP.ret
                  obtain ⟨t1, t2⟩ := q2.put (o2 := .loop { r3 with state := if jump.isNone then .ready else .done, pending := jump }) hz3 hg3 rfl
                    (wrote_set w2 l' (.loop { r3' with state := if jump.isNone then .ready else .done, pending := jump }))
                    ⟨rfl, _, rfl, ⟨rfl, rfl, j2.fn, j2.env, j2.params, j2.assign, j2.body, j2.defers, j2.okA, j2.okB, hjok⟩⟩
                  have hrun := endRound_run (P := P) (jump := jump) j1
                  refine ⟨m2, _, hle2, t1, hbel2.trans t2, .bool jump.isNone, .leaf rfl, hpre.trans ?_⟩
                  cases ex <;> simp [jumpOf] at hj
                  · subst hj
                    exact Steps.trans q5 (.one (stepR_round_end rfl rfl hrun))
                  · subst hj
                    obtain ⟨k0, e1, q5⟩ := q5
                    exact q5.trans (.one (stepR_round_exit rfl rfl (by rw [e1]; rfl) hrun))
                  · subst hj
                    obtain ⟨k0, q5⟩ := q5
                    exact q5.trans (.one (stepR_round_ret rfl rfl hrun))
                · simp at h
            · simp at h
          · simp at h
        · simp at h
      · simp at h
    · simp at h
  · simp at h
end
end Go.Sv

/- Regions whose order is drawn: what is asked of them once, and what every drawn order is like. -/
namespace Go.Sv

section
variable {P : Program} {ops : Array Oper} {masks : List Nat}

/-- None comes ahead of one that it must follow. -/
def VS (masks : List Nat) : List Nat → Prop
  | [] => True
  | i :: r => (∀ j, (masks.getD i 0).testBit j = true → j ∉ i :: r) ∧ i ∉ r ∧ VS masks r
def vsB (masks : List Nat) : List Nat → Bool
  | [] => true
  | i :: r => (i :: r).all (fun j => !(masks.getD i 0).testBit j) && !r.contains i && vsB masks r
theorem vsB_spec : ∀ {l : List Nat}, vsB masks l = true → VS masks l
  | [], _ => trivial
  | i :: r, h => by
    simp only [vsB, Bool.and_eq_true, List.all_eq_true, Bool.not_eq_true'] at h
    refine ⟨fun j hj hm => ?_, by simpa using h.1.2, vsB_spec h.2⟩
    rw [h.1.1 j hm] at hj; cases hj

def actAt (P : Program) (ops : Array Oper) (i : Nat) : Bool :=
  match ops[i]? with
  | some o => isAct P o
  | none => false

/-- An operation that writes a temporary which one ahead of it looks at. -/
def lw (ops : Array Oper) (masks : List Nat) (j : Nat) : Bool :=
  match ops[j]? with
  | some o => match o.dst with
    | some t => (List.range ops.size).any fun i => (Nat.beq i j || (masks.getD j 0).testBit i) && (match ops[i]? with
      | some oi => (oi.looksAt ops).contains t
      | none => false)
    | none => false
  | none => false
/-- One before which the others of its stage are done. -/
def stopAt (P : Program) (ops : Array Oper) (masks : List Nat) (i : Nat) : Bool := actAt P ops i || lw ops masks i

/-- Each follows the last such one ahead of it. -/
def ckB (P : Program) (ops : Array Oper) (masks : List Nat) : Option Nat → List Nat → Bool
  | _, [] => true
  | last, i :: r => (match last with
    | none => true
    | some e => (masks.getD i 0).testBit e) && ckB P ops masks (bif stopAt P ops masks i then some i else last) r

theorem ckB_mem : ∀ {l : List Nat} {e : Nat}, ckB P ops masks (some e) l = true → ∀ i ∈ l, ∃ e' ∈ e :: l, (masks.getD i 0).testBit e' = true
  | [], _, _, i, hi => by cases hi
  | x :: r, e, h, i, hi => by
    simp only [ckB, Bool.and_eq_true] at h
    obtain ⟨h1, h2⟩ := h
    rcases List.mem_cons.1 hi with rfl | hi
    · exact ⟨e, by simp, h1⟩
    · cases ha : stopAt P ops masks x with
      | true =>
        rw [ha, cond_true] at h2
        obtain ⟨e', h3, h4⟩ := ckB_mem h2 i hi
        exact ⟨e', List.mem_cons_of_mem _ h3, h4⟩
      | false =>
        rw [ha, cond_false] at h2
        obtain ⟨e', h3, h4⟩ := ckB_mem h2 i hi
        refine ⟨e', ?_, h4⟩
        rcases List.mem_cons.1 h3 with rfl | h3
        · simp
        · exact List.mem_cons_of_mem _ (List.mem_cons_of_mem _ h3)

def maskOf (masks : List Nat) (o : Oper) : Nat := o.after.toList.foldl (fun s e => bif Region.binds .any e then s ||| 2 ^ e.on ||| masks.getD e.on 0 else s) 0

theorem maskFold_bit (j : Nat) : ∀ (es : List Edge) (s : Nat), (es.foldl (fun s e => bif Region.binds .any e then s ||| 2 ^ e.on ||| masks.getD e.on 0 else s) s).testBit j = true ↔
    s.testBit j = true ∨ ∃ e ∈ es, Region.binds .any e = true ∧ (j = e.on ∨ (masks.getD e.on 0).testBit j = true)
  | [], s => by simp
  | e :: es, s => by
    rw [List.foldl_cons, maskFold_bit j es]
    cases hb : Region.binds .any e with
    | true =>
      simp only [cond_true, Nat.testBit_or, Bool.or_eq_true, Nat.testBit_two_pow, decide_eq_true_eq]
      constructor
      · rintro (((h | h) | h) | ⟨e', h1, h2⟩)
        · exact .inl h
        · exact .inr ⟨e, by simp, hb, .inl h.symm⟩
        · exact .inr ⟨e, by simp, hb, .inr h⟩
        · exact .inr ⟨e', List.mem_cons_of_mem _ h1, h2⟩
      · rintro (h | ⟨e', h1, h2, h3⟩)
        · exact .inl (.inl (.inl h))
        · rcases List.mem_cons.1 h1 with rfl | h1
          · rcases h3 with h3 | h3
            · exact .inl (.inl (.inr h3.symm))
            · exact .inl (.inr h3)
          · exact .inr ⟨e', h1, h2, h3⟩
    | false =>
      simp only [cond_false]
      constructor
      · rintro (h | ⟨e', h1, h2⟩)
        · exact .inl h
        · exact .inr ⟨e', List.mem_cons_of_mem _ h1, h2⟩
      · rintro (h | ⟨e', h1, h2, h3⟩)
        · exact .inl h
        · rcases List.mem_cons.1 h1 with rfl | h1
          · rw [hb] at h2; cases h2
          · exact .inr ⟨e', h1, h2, h3⟩

def allIdx (f : Nat → Oper → Bool) : Nat → List Oper → Bool
  | _, [] => true
  | i, o :: r => f i o && allIdx f (i + 1) r
theorem allIdx_spec {f : Nat → Oper → Bool} : ∀ {l : List Oper} {k : Nat}, allIdx f k l = true → ∀ (i : Nat) o, l[i]? = some o → f (k + i) o = true
  | [], _, _, i, o, h => by simp at h
  | x :: r, k, h, i, o, hi => by
    simp only [allIdx, Bool.and_eq_true] at h
    cases i with
    | zero => simp only [List.getElem?_cons_zero, Option.some.injEq] at hi; subst hi; exact h.1
    | succ i =>
      have := allIdx_spec h.2 i o (by simpa using hi)
      rw [show k + (i + 1) = k + 1 + i by omega]; exact this

/-- The check of one region, once for all. -/
def drawChk (P : Program) (ops : Array Oper) (masks cn : List Nat) : Bool :=
  allIdx (fun i o => Nat.beq (masks.getD i 0) (maskOf masks o) && o.after.toList.all (fun e => !Region.binds .any e || Nat.blt e.on ops.size) &&
      (o.looksAt ops).all (fun t => allIdx (fun j oj => (match oj.dst with | some d => !Nat.beq d t | none => true) || ((masks.getD i 0).testBit j || (lw ops masks j && (Nat.beq i j || (masks.getD j 0).testBit i)))) 0 ops.toList) &&
      (!lw ops masks i || decide (cls P o.op = .pure_)) &&
      (match o.dst with
       | some d => allIdx (fun j oj => (match oj.dst with | some d' => !Nat.beq d d' | none => true) || Nat.beq i j) 0 ops.toList
       | none => true)) 0 ops.toList &&
  (vsB masks cn && (ckB P ops masks none cn && (allIdx (fun i _ => cn.contains i) 0 ops.toList && cn.all (Nat.blt · ops.size))))

structure DrawOK (P : Program) (ops : Array Oper) (masks cn : List Nat) : Prop where
  mask : ∀ (i : Nat) o, ops[i]? = some o → masks.getD i 0 = maskOf masks o
  on : ∀ (i : Nat) o, ops[i]? = some o → ∀ e ∈ o.after, Region.binds .any e = true → e.on < ops.size
  looks : ∀ (i : Nat) o, ops[i]? = some o → ∀ t ∈ o.looksAt ops, ∀ (j : Nat) oj, ops[j]? = some oj → oj.dst = some t → (masks.getD i 0).testBit j = true ∨ (lw ops masks j = true ∧ (i = j ∨ (masks.getD j 0).testBit i = true))
  lwp : ∀ (j : Nat) o, ops[j]? = some o → lw ops masks j = true → cls P o.op = .pure_
  dst : ∀ (i j : Nat) oi oj d, ops[i]? = some oi → ops[j]? = some oj → oi.dst = some d → oj.dst = some d → i = j
  vs : VS masks cn
  ck : ckB P ops masks none cn = true
  mem : ∀ i, i ∈ cn ↔ i < ops.size

theorem drawChk_spec {cn : List Nat} (h : drawChk P ops masks cn = true) : DrawOK P ops masks cn := by
  simp only [drawChk, Bool.and_eq_true] at h
  obtain ⟨h1, h2, h3, h4, h5⟩ := h
  have hi : ∀ (i : Nat) o, ops[i]? = some o → _ := fun i o ho => allIdx_spec h1 i o (by simpa using ho)
  simp only [Nat.zero_add, Bool.and_eq_true] at hi
  refine ⟨fun i o ho => Nat.eq_of_beq_eq_true (hi i o ho).1.1.1.1, fun i o ho e he hb => ?_, fun i o ho t ht j oj hj hd => ?_, fun i o ho hl => ?_, fun i j oi oj d hoi hoj hdi hdj => ?_, vsB_spec h2, h3, fun i => ⟨fun hm => ?_, fun hlt => ?_⟩⟩
  · have := List.all_eq_true.1 (hi i o ho).1.1.1.2 e (by simpa using he)
    rw [hb] at this
    simpa [blt_true] using this
  · have := List.all_eq_true.1 (hi i o ho).1.1.2 t ht
    have := allIdx_spec this j oj (by simpa using hj)
    rw [hd] at this
    simpa [nat_beq] using this
  · have := (hi i o ho).1.2
    rw [hl] at this
    simpa using this
  · have := (hi i oi hoi).2
    rw [hdi] at this
    have := allIdx_spec this j oj (by simpa using hoj)
    rw [hdj] at this
    simpa [nat_beq] using this
  · exact blt_true.1 (List.all_eq_true.1 h5 i hm)
  · have := allIdx_spec h4 i ops[i] (by simp [hlt])
    simpa using this

/-- The bits of a mask: what must come ahead, and what must come ahead of that. -/
theorem DrawOK.bit {cn : List Nat} (h : DrawOK P ops masks cn) {i : Nat} {o : Oper} (ho : ops[i]? = some o) (j : Nat) :
    (masks.getD i 0).testBit j = true ↔ ∃ e ∈ o.after, Region.binds .any e = true ∧ (j = e.on ∨ (masks.getD e.on 0).testBit j = true) := by
  rw [h.mask i o ho, maskOf, maskFold_bit]
  simp

/-- How many have not come up yet. -/
def unl (n : Nat) (listed : Array Bool) : Nat := ((List.range n).filter fun i => !listed.getD i true).length

theorem filter_length_lt {l : List Nat} {p q : Nat → Bool} (h : ∀ i, q i = true → p i = true) {x : Nat} (hx : x ∈ l) (hp : p x = true) (hq : q x = false) :
    (l.filter q).length < (l.filter p).length := by
  induction l with
  | nil => cases hx
  | cons a l ih =>
    have hle : (l.filter q).length ≤ (l.filter p).length := by
      clear ih hx
      induction l with
      | nil => simp
      | cons b l ih =>
        rw [List.filter_cons, List.filter_cons]
        by_cases hb : q b = true
        · rw [if_pos hb, if_pos (h b hb)]; simpa using ih
        · rw [if_neg hb]
          split
          · simp only [List.length_cons]; omega
          · exact ih
    rw [List.filter_cons, List.filter_cons]
    rcases List.mem_cons.1 hx with rfl | hx
    · rw [if_neg (by simp [hq]), if_pos hp]; simp only [List.length_cons]; omega
    · have := ih hx
      by_cases hb : q a = true
      · rw [if_pos hb, if_pos (h a hb)]; simp only [List.length_cons]; omega
      · rw [if_neg hb]
        split
        · simp only [List.length_cons]; omega
        · exact this

theorem first_of {l : List Nat} {p : Nat → Bool} {x : Nat} (hx : x ∈ l) (hp : p x = true) : ∃ a i c, l = a ++ i :: c ∧ p i = true ∧ ∀ j ∈ a, p j = false := by
  induction l with
  | nil => cases hx
  | cons y l ih =>
    by_cases hy : p y = true
    · exact ⟨[], y, l, rfl, hy, fun j hj => by cases hj⟩
    · rcases List.mem_cons.1 hx with rfl | hx
      · exact absurd hp hy
      · obtain ⟨a, i, c, rfl, h2, h3⟩ := ih hx
        refine ⟨y :: a, i, c, rfl, h2, fun j hj => ?_⟩
        rcases List.mem_cons.1 hj with rfl | hj
        · simpa using hy
        · exact h3 j hj

theorem VS.split : ∀ {a : List Nat} {i : Nat} {c : List Nat}, VS masks (a ++ i :: c) → ∀ j, (masks.getD i 0).testBit j = true → j ∉ i :: c
  | [], _, _, h => h.1
  | _ :: a, _, _, h => VS.split (a := a) h.2.2

theorem getD_true_lt {listed : Array Bool} {i : Nat} (h : listed.getD i true = false) : i < listed.size := by
  rcases Nat.lt_or_ge i listed.size with h' | h'
  · exact h'
  · simp [Array.getElem?_eq_none h'] at h
theorem getD_or {listed : Array Bool} {i : Nat} (hlt : i < listed.size) : listed.getD i true = listed.getD i false := by simp [hlt]

theorem sched_go {cn : List Nat} (h : DrawOK P ops masks cn) : ∀ (fuel t : Nat) (listed : Array Bool), listed.size = ops.size →
    (∀ i, listed.getD i false = true → ∀ j, (masks.getD i 0).testBit j = true → listed.getD j false = true) → unl ops.size listed ≤ fuel →
    VS masks (Region.linearise.go .any ops fuel t listed []) ∧ ∀ i, i ∈ Region.linearise.go .any ops fuel t listed [] ↔ listed.getD i true = false
  | 0, t, listed, hsz, hcl, hu => by
    refine ⟨trivial, fun i => ⟨fun hi => by simp [Region.linearise.go] at hi, fun hi => ?_⟩⟩
    exfalso
    have hlt := getD_true_lt hi
    have : i ∈ (List.range ops.size).filter fun i => !listed.getD i true := by
      rw [List.mem_filter, List.mem_range]; exact ⟨by omega, by simpa using hi⟩
    have := List.length_pos_of_mem this
    unfold unl at hu; omega
  | fuel + 1, t, listed, hsz, hcl, hu => by
    simp only [Region.linearise.go]
    change VS masks (match (Region.ready .any ops listed)[t % (Region.ready .any ops listed).length]? with
      | some i => Region.linearise.go .any ops fuel (t / (Region.ready .any ops listed).length) (listed.setIfInBounds i true) [i]
      | none => [].reverse) ∧ ∀ i, i ∈ (match (Region.ready .any ops listed)[t % (Region.ready .any ops listed).length]? with
      | some i => Region.linearise.go .any ops fuel (t / (Region.ready .any ops listed).length) (listed.setIfInBounds i true) [i]
      | none => [].reverse) ↔ listed.getD i true = false
    cases hi : (Region.ready .any ops listed)[t % (Region.ready .any ops listed).length]? with
    | none =>
      have hnil : Region.ready .any ops listed = [] := by
        cases hr : Region.ready .any ops listed with
        | nil => rfl
        | cons x xs =>
          rw [hr] at hi
          have hlt : t % (x :: xs).length < (x :: xs).length := Nat.mod_lt _ (by simp)
          simp at hi
          simp at hlt
          omega
      refine ⟨trivial, fun i => ⟨fun hm => by simp at hm, fun hun => ?_⟩⟩
      exfalso
      have hlt := getD_true_lt hun
      obtain ⟨a, x, c, hcn, hx, ha⟩ := first_of (p := fun i => !listed.getD i true) ((h.mem i).2 (by omega)) (by simpa using hun)
      have hxun : listed.getD x true = false := by simpa using hx
      have hxlt := getD_true_lt hxun
      have hox : ops[x]? = some ops[x] := by simp [show x < ops.size by omega]
      have : x ∈ Region.ready .any ops listed := by
        rw [mem_ready]
        refine ⟨hxun, _, hox, fun e he hb => ?_⟩
        have hbit : (masks.getD x 0).testBit e.on = true := (h.bit hox e.on).2 ⟨e, he, hb, .inl rfl⟩
        have hvs := h.vs
        rw [hcn] at hvs
        have hnot := VS.split hvs e.on hbit
        have hon := h.on x _ hox e he hb
        have hmem : e.on ∈ cn := (h.mem _).2 hon
        rw [hcn] at hmem
        rcases List.mem_append.1 hmem with hm | hm
        · have := ha _ hm
          rw [← getD_or (by omega)]
          simpa using this
        · exact absurd hm hnot
      rw [hnil] at this; cases this
    | some i =>
      simp only []
      rw [linearise_go_acc, List.reverse_singleton, List.singleton_append]
      have hir := mem_ready.1 (List.mem_of_getElem? hi)
      obtain ⟨hun, o, ho, hall⟩ := hir
      have hilt := getD_true_lt hun
      have hcl' : ∀ x, (listed.setIfInBounds i true).getD x false = true → ∀ j, (masks.getD x 0).testBit j = true → (listed.setIfInBounds i true).getD j false = true := by
        intro x hx j hj
        by_cases hxi : x = i
        · subst hxi
          obtain ⟨e, he, hb, hor⟩ := (h.bit ho j).1 hj
          have hl := hall e he hb
          rcases hor with rfl | hor
          · exact getD_set_true hl
          · exact getD_set_true (hcl _ hl j hor)
        · rw [getD_set_ne false (Ne.symm hxi)] at hx
          exact getD_set_true (hcl _ hx j hj)
      have hu' : unl ops.size (listed.setIfInBounds i true) ≤ fuel := by
        have : unl ops.size (listed.setIfInBounds i true) < unl ops.size listed := by
          unfold unl
          refine filter_length_lt (x := i) (fun x hx => ?_) (by simp; omega) (by simpa using hun) ?_
          · by_cases hxi : i = x
            · subst hxi; simp [hilt] at hx
            · rw [getD_set_ne true hxi] at hx; exact hx
          · simp [hilt]
        omega
      obtain ⟨h1, h2⟩ := sched_go h fuel (t / (Region.ready .any ops listed).length) (listed.setIfInBounds i true) (by simpa using hsz) hcl' hu'
      have hi2 : ∀ x, (listed.setIfInBounds i true).getD x true = false ↔ listed.getD x true = false ∧ x ≠ i := by
        intro x
        by_cases hxi : i = x
        · subst hxi; simp [hilt]
        · rw [getD_set_ne true hxi]; simp [Ne.symm hxi]
      refine ⟨⟨fun j hj hm => ?_, fun hm => ?_, h1⟩, fun x => ?_⟩
      · have hlj : listed.getD j false = true := by
          obtain ⟨e, he, hb, hor⟩ := (h.bit ho j).1 hj
          have hl := hall e he hb
          rcases hor with rfl | hor
          · exact hl
          · exact hcl _ hl j hor
        have hju : listed.getD j true = false := by
          rcases List.mem_cons.1 hm with rfl | hm
          · exact hun
          · exact ((hi2 j).1 ((h2 j).1 hm)).1
        rw [getD_or (getD_true_lt hju), hlj] at hju; cases hju
      · exact ((hi2 i).1 ((h2 i).1 hm)).2 rfl
      · rw [List.mem_cons, h2, hi2]
        by_cases hxi : x = i
        · subst hxi; simp [hun]
        · simp [hxi]

/-- Every order that may be drawn. -/
theorem sched_spec {cn : List Nat} (h : DrawOK P ops masks cn) (hm : P.follows .mixedOrders = true) (t : Nat) :
    VS masks (Region.schedule (P.follows .mixedOrders) ops t) ∧ ∀ i, i ∈ Region.schedule (P.follows .mixedOrders) ops t ↔ i < ops.size := by
  have h0 : ∀ i, (Array.replicate ops.size false).getD i false = false := by
    intro i
    rw [Array.getD_eq_getD_getElem?, Array.getElem?_replicate]
    split <;> rfl
  have h1 : ∀ i, (Array.replicate ops.size false).getD i true = false ↔ i < ops.size := by
    intro i
    rw [Array.getD_eq_getD_getElem?, Array.getElem?_replicate]
    split <;> simp_all
  have := sched_go h ops.size t (Array.replicate ops.size false) (by simp) (fun i hi => by rw [h0] at hi; cases hi) (by
    unfold unl
    exact Nat.le_trans (List.length_filter_le _ _) (by simp))
  simp only [Region.schedule, hm, Bool.true_or, if_true, Region.linearise]
  refine ⟨this.1, fun i => ?_⟩
  rw [this.2, h1]
end
end Go.Sv

/- What is read stays the same where the blocks looked at stay the same. -/
namespace Go.Sv

section
variable {P : Program} {s s' : S}

/-- A place that is as it was. -/
def Same (s s' : S) (w : Nat × Nat × Nat) : Prop :=
  (∀ x, s.get w.1 = some x → s'.get w.1 = some x) ∨ (0 < w.2.2 ∧ loadN s' w.1 w.2.1 w.2.2 = loadN s w.1 w.2.1 w.2.2)

theorem Same.loadN {b o n : Nat} {l : List Value} (h : Same s s' (b, o, n)) (hl : loadN s b o n = some l) : Sv.loadN s' b o n = some l := by
  rcases h with h | ⟨_, h⟩
  · unfold Sv.loadN at hl ⊢
    split at hl
    · rename_i c rd hg
      rw [h _ hg]
      exact hl
    · simp at hl
  · rw [h]; exact hl

theorem Same.load1 {b o : Nat} {v : Value} (h : Same s s' (b, o, 1)) (hl : load1 s b o = some v) : Sv.load1 s' b o = some v := by
  rcases h with h | ⟨_, h⟩
  · unfold Sv.load1 at hl ⊢
    split at hl
    · rename_i c rd hg
      rw [h _ hg]
      exact hl
    · simp at hl
  · unfold Sv.load1 at hl
    split at hl
    · rename_i c rd hg
      have hlt : o < c.length := by
        rw [List.getElem?_eq_some_iff] at hl
        exact hl.1
      have hsrc : Sv.loadN s b o 1 = some ((c.drop o).take 1) := by
        unfold Sv.loadN
        rw [hg]
        simp only
        rw [show Nat.ble (o + 1) c.length = true by rw [Nat.ble_eq]; omega, cond_true]
      simp only at h
      rw [hsrc] at h
      unfold Sv.loadN at h
      unfold Sv.load1
      split at h
      · rename_i c' rd' hg'
        obtain ⟨hb, h⟩ := cond_some h
        rw [Nat.ble_eq] at hb
        simp only [Option.some.injEq] at h
        have h0 := congrArg (fun l => l[0]?) h
        simp only [List.getElem?_take, List.getElem?_drop] at h0
        simp only [Nat.lt_one_iff, if_true, Nat.add_zero] at h0
        show c'[o]? = some v
        rw [h0, hl]
      · simp at h
    · simp at hl

theorem Same.get0 {b o : Nat} {x : AO} (h : Same s s' (b, o, 0)) (hg : s.get b = some x) : s'.get b = some x := by
  rcases h with h | ⟨h, _⟩
  · exact h _ hg
  · simp at h

theorem readA_same {ρ : Operand → Value} {op : Op} {v : Value} (h : readA P ρ s op = some v) (hw : ∀ x ∈ seenBy P ρ s op, Same s s' x) :
    readA P ρ s' op = some v ∧ seenBy P ρ s' op = seenBy P ρ s op := by
  cases op <;> simp only [readA] at h ⊢ <;> try (simp at h; done)
  case load t a =>
    refine ⟨?_, rfl⟩
    unfold loadA at h ⊢
    split at h
    · rename_i b o ha
      simp only [seenBy, ha, List.mem_singleton, forall_eq] at hw
      obtain ⟨hk, h⟩ := cond_some h
      rw [hk, cond_true]
      cases hag : aggB P t with
      | true =>
        rw [hag, cond_true] at h hw
        rw [cond_true]
        split at h
        · rename_i l hl
          rw [hw.loadN hl]
          exact h
        · simp at h
      | false =>
        rw [hag, cond_false] at h hw
        rw [cond_false]
        exact hw.load1 h
    · simp at h
  case lookup t x i ok =>
    refine ⟨?_, rfl⟩
    unfold lookupA at h ⊢
    split at h
    · rename_i key elem hu
      try simp only [hu]
      cases hx : ρ x with
      | map r =>
        cases r with
        | none => rw [hx] at h; exact h
        | some r =>
          simp only [seenBy, hx, List.mem_singleton, forall_eq] at hw
          rw [hx] at h
          simp only at h ⊢
          cases hg : s.get r with
          | none =>
            rw [hg] at h
            cases hkk : keyKind P key <;> rw [hkk] at h <;> simp at h
          | some o =>
            rw [hw.get0 hg]
            rw [hg] at h
            exact h
      | _ => rw [hx] at h; exact h
    · simp at h
  case convert src dst x =>
    refine ⟨?_, rfl⟩
    unfold toStringA at h ⊢
    split at h
    · rename_i e hs hd
      try simp only [hs, hd]
      split at h
      · rename_i he hx
        try simp only [he, hx]
        exact h
      · rename_i b o len cap he hx
        try simp only [he, hx]
        simp only [seenBy, hx, List.mem_singleton, forall_eq] at hw
        split at h
        · rename_i l hl
          have : Same s s' (b, o, len) := by
            refine .inl fun y hy => ?_
            exact hw.get0 hy
          rw [this.loadN hl]
          exact h
        · simp at h
      · simp at h
    · simp at h
  case entry x =>
    unfold entryA at h ⊢
    split at h
    · rename_i r hx
      split at h
      · rename_i mb since seen stepped hg
        have hsn : seenBy P ρ s (.entry x) = [(r, 0, 0), (mb, 0, 0)] := by simp only [seenBy, hx, hg]
        rw [hsn] at hw
        have h1 : s'.get r = _ := (hw (r, 0, 0) (by simp)).get0 hg
        have hsn' : seenBy P ρ s' (.entry x) = [(r, 0, 0), (mb, 0, 0)] := by simp only [seenBy, hx, h1]
        refine ⟨?_, by rw [hsn, hsn']⟩
        simp only [h1]
        split at h
        · rename_i stamp es clock hst hgm
          have h2 : s'.get mb = _ := (hw (mb, 0, 0) (by simp)).get0 hgm
          try simp only [hst, h2]
          exact h
        · simp at h
      · simp at h
    · simp at h
  case call c =>
    obtain ⟨callee, args, argTypes⟩ := c
    refine ⟨?_, rfl⟩
    cases callee with
    | value f => simp at h
    | invoke r n => simp at h
    | builtin bi =>
      cases bi <;> dsimp only at h ⊢ <;> try (simp at h; done)
      split at h
      · rename_i t x ht hx
        try simp only [ht, hx]
        split at h
        · rename_i k e r hu hr
          try simp only [hu, hr]
          simp only [seenBy, hx, hr, List.mem_singleton, forall_eq] at hw
          split at h
          · rename_i es clock hg
            rw [hw.get0 hg]
            exact h
          · simp at h
        · simp at h
      · simp at h

theorem sameV_eq {a b : Value} (h : sameV a b = true) : a = b := by
  unfold sameV at h
  split at h <;> first | (simp only [Bool.and_eq_true, decide_eq_true_eq, beq_iff_eq, Nat.beq_eq] at h; simp_all; done) | rfl | (simp at h; done)

theorem sameVs_eq : ∀ {a b : List Value}, sameVs a b = true → a = b
  | [], [], _ => rfl
  | [], _ :: _, h => by simp [sameVs] at h
  | _ :: _, [], h => by simp [sameVs] at h
  | a :: x, b :: y, h => by
    simp only [sameVs, Bool.and_eq_true] at h
    rw [sameV_eq h.1, sameVs_eq h.2]

/-- Equal stamps, behind a run that began at 's': the very same block. -/
theorem watchOk_same {w : Nat × Nat × Nat} (hent : ∀ b x, s.heap.get b = some x → x.st < s.clk) (hold : ∀ b x, s'.heap.get b = some x → x.st < s.clk → s.heap.get b = some x)
    (h : watchOk s s' w = true) : Same s s' w := by
  unfold watchOk at h
  split at h
  · rename_i x y hx hy
    rw [Bool.or_eq_true] at h
    rcases h with h | h
    · have := Nat.eq_of_beq_eq_true h
      subst this
      left
      intro o ho
      unfold stampOf at hx hy
      split at hx
      · rename_i bx hbx
        split at hy
        · rename_i by' hby
          simp only [Option.some.injEq] at hx hy
          have hlt := hent _ _ hbx
          have := hold _ _ hby (by omega)
          rw [hbx, Option.some.injEq] at this
          subst this
          unfold S.get at ho ⊢
          rw [hbx] at ho
          rw [hby]
          exact ho
        · simp at hy
      · simp at hx
    · rw [Bool.and_eq_true, blt_true] at h
      obtain ⟨h1, h2⟩ := h
      right
      refine ⟨h1, ?_⟩
      split at h2
      · rename_i a b ha hb
        rw [ha, hb, sameVs_eq h2]
      · simp at h2
  · simp at h

theorem watchesOk_mem : ∀ {ws : List (Nat × Nat × Nat)}, watchesOk s s' ws = true → ∀ w ∈ ws, watchOk s s' w = true
  | [], _, w, hw => by cases hw
  | x :: r, h, w, hw => by
    simp only [watchesOk, Bool.and_eq_true] at h
    rcases List.mem_cons.1 hw with rfl | hw
    · exact h.1
    · exact watchesOk_mem h.2 w hw
theorem pendOk_mem : ∀ {ps : List (Nat × List (Nat × Nat × Nat))}, pendOk s s' ps = true → ∀ p ∈ ps, watchesOk s s' p.2 = true
  | [], _, w, hw => by cases hw
  | x :: r, h, w, hw => by
    simp only [pendOk, Bool.and_eq_true] at h
    rcases List.mem_cons.1 hw with rfl | hw
    · exact h.1
    · exact pendOk_mem h.2 w hw
end
end Go.Sv

/- Regions whose order is drawn, as the machine carries them out: the invariant, and single steps. -/
namespace Go.Sv
open Go.RowKit (Below)

section
variable {P : Program} {ok : Cx} {w w' : World} {m m' : Mu} {B : Nat} {s s' : S} {ops : Array Oper} {masks : List Nat}

theorem SR.recx {ok' : Cx} (h : SR P ok m B s w) (e : ok'.ok = ok.ok) (hr : ∀ b, ok'.res b → m b = none ∧ b < s.next)
    (ho : ok'.c0 ≤ s.clk ∧ ∀ b x, s.heap.get b = some x → x.st < ok'.c0 → ok'.snap b = some x) : SR P ok' m B s w :=
  ⟨h.dom, fun b rb ro z o hm hg => by rw [e]; exact h.blk b rb ro z o hm hg, h.own, h.inj, h.glob, hr, h.ent, ho⟩

theorem VR.undef_inv {v : Value} (h : VR m v Go.undef) : v = Go.undef := by
  unfold Go.undef at h
  cases h with
  | leaf h => rfl
  | @tuple x x' hx _ =>
    have : x = #[] := by
      apply Array.ext'
      simpa using hx
    subst this; rfl

theorem EnvR.big {env : M Value} {n : Nat} {tmps : Array Value} (h : EnvR m env n tmps) (t : Nat) (ht : n ≤ t) : envLook env t = undef := by
  have := h.2 t
  have e1 : tmps.getD t undef = undef := by
    rw [Array.getD_eq_getD_getElem?, Array.getElem?_eq_none (by rw [h.1]; exact ht)]; rfl
  rw [e1] at this
  exact this.undef_inv

/-! ### What an operation looks at -/

theorem mem_looks {o : Oper} {t : Tmp} (h : Operand.tmp t ∈ o.op.operands.toList) : t ∈ o.looksAt ops :=
  List.mem_append_left _ (List.mem_filterMap.2 ⟨.tmp t, h, rfl⟩)

theorem agree_ev {o : Oper} {fr : Fr} {env1 : M Value} (h : ∀ t ∈ o.looksAt ops, envLook env1 t = envLook fr.env t) :
    (∀ x ∈ o.op.operands.toList, ({ fr with env := env1 } : Fr).ev x = fr.ev x) ∧ wantedA ops.toList o { fr with env := env1 } = wantedA ops.toList o fr := by
  refine ⟨fun x hx => ?_, ?_⟩
  · cases x with
    | tmp t => exact h t (mem_looks hx)
    | _ => rfl
  · unfold wantedA
    cases hg : o.guard with
    | none => rfl
    | some g =>
      obtain ⟨j, want⟩ := g
      simp only
      have : yieldedA ops.toList { fr with env := env1 } j = yieldedA ops.toList fr j := by
        unfold yieldedA dstAt
        have e1 : ops.toList[j]? = ops[j]? := by simp
        rw [e1]
        cases ho : ops[j]? with
        | none => rfl
        | some oj =>
          cases hd : oj.dst with
          | none => simp [hd]
          | some d =>
            have hm : d ∈ o.looksAt ops := by
              refine List.mem_append_right _ ?_
              simp [hg, ho, hd]
            simp only [hd, h d hm]
      rw [this]

theorem put_env (fr : Fr) (dst : Option Tmp) (v : Value) : fr.put dst v = { fr with env := (fr.put dst v).env } := by
  cases dst <;> rfl
theorem put_look {fr : Fr} {dst : Option Tmp} {v : Value} {t : Tmp} (h : dst ≠ some t) : envLook (fr.put dst v).env t = envLook fr.env t := by
  cases dst with
  | none => rfl
  | some d =>
    show envLook (envPut fr.env fr.n d v) t = _
    rw [envLook_put, if_neg (by rintro ⟨_, rfl⟩; exact h rfl)]
theorem put_n (fr : Fr) (dst : Option Tmp) (v : Value) : (fr.put dst v).n = fr.n := by cases dst <;> rfl

theorem put_ev {o : Oper} {fr : Fr} {dst : Option Tmp} {v : Value} (h : ∀ t ∈ o.looksAt ops, dst ≠ some t) :
    (∀ x ∈ o.op.operands.toList, (fr.put dst v).ev x = fr.ev x) ∧ wantedA ops.toList o (fr.put dst v) = wantedA ops.toList o fr := by
  rw [put_env]
  exact agree_ev fun t ht => put_look (h t ht)

/-! ### The invariant -/

def resD (ok : Cx) (D : List (Nat × Option Nat)) : Cx := { ok with res := fun b => ok.res b ∨ ∃ i, (i, some b) ∈ D }

def AgreeOff (ops : Array Oper) (D : List (Nat × Option Nat)) (fr : Fr) (env1 : M Value) : Prop :=
  ∀ t, (∀ i ob o, (i, ob) ∈ D → ops[i]? = some o → o.dst ≠ some t) → envLook env1 t = envLook fr.env t

/-- An operation that the evaluator has behind it and the machine has not. -/
def Pd (P : Program) (ops : Array Oper) (masks : List Nat) (rest : List Nat) (pend : List (Nat × List (Nat × Nat × Nat))) (fr : Fr) (s : S) (i : Nat) (ob : Option Nat) : Prop :=
  ∃ o v ρ, ops[i]? = some o ∧ (∀ d, o.dst = some d → d < fr.n → envLook fr.env d = v) ∧ (∀ j, (masks.getD i 0).testBit j = true → j ∉ rest) ∧
    (∀ x ∈ o.op.operands.toList, ρ x = fr.ev x) ∧ (∀ c, o.op ≠ .defer c) ∧
    ((wantedA ops.toList o fr = false ∧ v = undef ∧ ob = none) ∨
     (wantedA ops.toList o fr = true ∧
       ((pureA P ρ o.op = some v ∧ ob = none) ∨
        (readA P ρ s o.op = some v ∧ (i, seenBy P ρ s o.op) ∈ pend ∧ ob = none) ∨
        (∃ o' f b, newA P ρ o.op = some (o', f) ∧ v = f b ∧ s.get b = some o' ∧ b < s.next ∧ (i, [(b, 0, 0)]) ∈ pend ∧ ob = some b))))

structure J (P : Program) (ok : Cx) (B : Nat) (ops : Array Oper) (masks : List Nat) (b : Frame) (σ : List Nat) (D : List (Nat × Option Nat)) (rest : List Nat) (last : Option Nat)
    (pend : List (Nat × List (Nat × Nat × Nat))) (fr : Fr) (s : S) (m : Mu) (w : World) (a : Act) : Prop where
  vsS : VS masks σ
  vsR : VS masks rest
  ck : ckB P ops masks last rest = true
  mem : ∀ i, i ∈ σ ↔ (∃ ob, (i, ob) ∈ D) ∨ i ∈ rest
  dis : ∀ i ob, (i, ob) ∈ D → i ∉ rest
  pd : ∀ i ob, (i, ob) ∈ D → Pd P ops masks rest pend fr s i ob
  inj : ∀ i j x, (i, some x) ∈ D → (j, some x) ∈ D → i = j
  nores : ∀ i x, (i, some x) ∈ D → ¬ ok.res x
  sr : SR P (resD ok D) m B s w
  hB : B ≤ w.heap.size
  big : ∀ t, fr.n ≤ t → envLook fr.env t = undef
  env : ∃ env1, AgreeOff ops D fr env1 ∧ FrR P m { fr with env := env1 } b a
  lt : ∀ i ∈ σ, i < ops.size
  nl : ∀ i ob, (i, ob) ∈ D → lw ops masks i = false

theorem big_put {fr : Fr} {dst : Option Tmp} {v : Value} (h : ∀ t, fr.n ≤ t → envLook fr.env t = undef) : ∀ t, (fr.put dst v).n ≤ t → envLook (fr.put dst v).env t = undef := by
  intro t ht
  rw [put_n] at ht
  cases dst with
  | none => exact h t ht
  | some d =>
    show envLook (envPut fr.env fr.n d v) t = _
    rw [envLook_put, if_neg (by rintro ⟨h1, rfl⟩; exact absurd h1 (Nat.not_lt.2 ht))]
    exact h t ht

/-- A pending operation, behind another one of the evaluator's. -/
theorem Pd.next {cn : List Nat} (hok : DrawOK P ops masks cn) {i e : Nat} {ob : Option Nat} {rest : List Nat} {pend pend' : List (Nat × List (Nat × Nat × Nat))} {fr : Fr} {oe : Oper} {v : Value}
    (h : Pd P ops masks (e :: rest) pend fr s i ob) (hi : i ≠ e) (hnl : lw ops masks e = true → (masks.getD e 0).testBit i = false) (he : ops[e]? = some oe)
    (hp : ∀ ws, (i, ws) ∈ pend → (i, ws) ∈ pend')
    (hsame : ∀ ws, (i, ws) ∈ pend → ∀ x ∈ ws, Same s s' x) (hent : ∀ b x, s'.get b = some x → b < s'.next) :
    Pd P ops masks rest pend' (fr.put oe.dst v) s' i ob := by
  obtain ⟨o, u, ρ, ho, hd, hm, hρ, hnd, hc⟩ := h
  have hl : ∀ t ∈ o.looksAt ops, oe.dst ≠ some t := by
    intro t ht hdt
    rcases hok.looks i o ho t ht e oe he hdt with h | h
    · exact hm e h (by simp)
    · rcases h with ⟨h1, h2 | h2⟩
      · exact hi h2
      · rw [hnl h1] at h2; cases h2
  obtain ⟨h1, h2⟩ := put_ev (fr := fr) (v := v) hl
  refine ⟨o, u, ρ, ho, fun d hdd hlt => ?_, fun j hj hmem => hm j hj (List.mem_cons_of_mem _ hmem), fun x hx => by rw [hρ x hx, h1 x hx], hnd, ?_⟩
  · rw [put_n] at hlt
    rw [put_look (fun hx => hi (hok.dst i e o oe d ho he hdd hx))]
    exact hd d hdd hlt
  · rw [h2]
    rcases hc with hc | ⟨hw, hc | ⟨hc, hpe, hob⟩ | ⟨o', f, b, hn, hv, hg, hb, hpe, hob⟩⟩
    · exact .inl hc
    · exact .inr ⟨hw, .inl hc⟩
    · obtain ⟨g1, g2⟩ := readA_same hc (hsame _ hpe)
      exact .inr ⟨hw, .inr (.inl ⟨g1, by rw [g2]; exact hp _ hpe, hob⟩)⟩
    · have hg' := (hsame _ hpe (b, 0, 0) (by simp)).get0 hg
      exact .inr ⟨hw, .inr (.inr ⟨o', f, b, hn, hv, hg', hent _ _ hg', hp _ hpe, hob⟩)⟩

theorem execA_plain {e : Ev} {o : Oper} {fr : Fr} (hc : cls P o.op ≠ .call) : execA P e o fr s = (match exec1 P fr.ev s o.op with
    | some (v, s) => some (.done (fr.put o.dst v) s)
    | none => none) := by
  unfold execA
  split
  · rename_i ho; rw [ho] at hc; simp [cls] at hc
  · rename_i ho; rw [ho] at hc; simp [cls] at hc
  · rename_i ho; rw [ho] at hc; simp [cls] at hc
  · rfl

theorem AgreeOff.put {cn : List Nat} (_hok : DrawOK P ops masks cn) {D D' : List (Nat × Option Nat)} {fr : Fr} {env1 : M Value} {e : Nat} {oe : Oper} {v : Value} (he : ops[e]? = some oe)
    (h : AgreeOff ops D fr env1) (hD : ∀ i ob, (i, ob) ∈ D → i ≠ e → (i, ob) ∈ D') (hDe : ∀ t, oe.dst = some t → (∃ ob, (e, ob) ∈ D') ∨ False) : AgreeOff ops D' (fr.put oe.dst v) env1 := by
  intro t ht
  have hne : oe.dst ≠ some t := by
    intro hd
    rcases hDe t hd with ⟨ob, hm⟩ | h
    · exact ht e ob oe hm he hd
    · exact h
  rw [put_look hne]
  refine h t fun i ob o hm ho hd => ?_
  by_cases hie : i = e
  · subst hie
    rw [he, Option.some.injEq] at ho
    subst ho
    exact hne hd
  · exact ht i ob o (hD i ob hm hie) ho hd

/-- The evaluator goes on to the next operation that acts. -/
theorem adv {cn : List Nat} (hok : DrawOK P ops masks cn) {e : Ev} {b : Frame} {σ : List Nat} {a : Act} {r : ORes} : ∀ (rest : List Nat) (last : Option Nat) (D : List (Nat × Option Nat))
    (pend : List (Nat × List (Nat × Nat × Nat))) (fr : Fr) (s : S), J P ok B ops masks b σ D rest last pend fr s m w a → drawA P e ops.toList masks rest pend fr s = some r →
    ∃ D' rest' last' pend' fr' s', J P ok B ops masks b σ D' rest' last' pend' fr' s' m w a ∧ drawA P e ops.toList masks rest' pend' fr' s' = some r ∧ (∀ i r', rest' = i :: r' → stopAt P ops masks i = true)
  | [], last, D, pend, fr, s, hj, h => ⟨D, [], last, pend, fr, s, hj, h, fun i r' h => by cases h⟩
  | i :: rest, last, D, pend, fr, s, hj, h => by
    cases hstop : stopAt P ops masks i with
    | true => exact ⟨D, i :: rest, last, pend, fr, s, hj, h, fun j r' e => by cases e; exact hstop⟩
    | false =>
      have hact : actAt P ops i = false := by
        unfold stopAt at hstop; rw [Bool.or_eq_false_iff] at hstop; exact hstop.1
      have hlate : lw ops masks i = false := by
        unfold stopAt at hstop; rw [Bool.or_eq_false_iff] at hstop; exact hstop.2
      have h0 := h
      simp only [drawA] at h
      have hsame0 : ops.toList[i]? = ops[i]? := by simp
      rw [hsame0] at h
      cases ho : ops[i]? with
      | none => rw [ho] at h; simp at h
      | some o =>
        rw [ho] at h
        simp only at h
        have hia : isAct P o = false := by simpa [actAt, ho] using hact
        have hck := hj.ck
        simp only [ckB, Bool.and_eq_true, hstop, cond_false] at hck
        have hidis : ∀ j ob, (j, ob) ∈ D → j ≠ i := fun j ob hm e => hj.dis j ob hm (by rw [e]; simp)
        have hvsR := hj.vsR
        have hnd : ∀ c, o.op ≠ .defer c := by
          intro c hc
          simp [isAct, hc, cls] at hia
        -- what is the same for each kind
        have mk : ∀ (v : Value) (s1 : S) (ob : Option Nat) (pend1 : List (Nat × List (Nat × Nat × Nat))), (∀ p ∈ pend, p ∈ pend1) →
            (∀ x y, s.get x = some y → s1.get x = some y) → (∀ x y, s1.get x = some y → x < s1.next) → SR P (resD ok ((i, ob) :: D)) m B s1 w → (∀ x, ob = some x → ¬ ok.res x ∧ ∀ j, (j, some x) ∉ D) →
            Pd P ops masks rest pend1 (fr.put o.dst v) s1 i ob →
            J P ok B ops masks b σ ((i, ob) :: D) rest last pend1 (fr.put o.dst v) s1 m w a := by
          intro v s1 ob pend1 hpend hget hent hsr hob hpd
          refine ⟨hj.vsS, hvsR.2.2, hck.2, fun j => ?_, fun j ob' hm => ?_, fun j ob' hm => ?_, fun j k x h1 h2 => ?_, fun j x hm => ?_, hsr, hj.hB, big_put hj.big, ?_, hj.lt, fun j ob' hm => ?_⟩
          · rw [hj.mem]
            constructor
            · rintro (⟨ob', hm⟩ | hm)
              · exact .inl ⟨ob', List.mem_cons_of_mem _ hm⟩
              · rcases List.mem_cons.1 hm with rfl | hm
                · exact .inl ⟨ob, by simp⟩
                · exact .inr hm
            · rintro (⟨ob', hm⟩ | hm)
              · rcases List.mem_cons.1 hm with hm | hm
                · cases hm; exact .inr (by simp)
                · exact .inl ⟨ob', hm⟩
              · exact .inr (List.mem_cons_of_mem _ hm)
          · rcases List.mem_cons.1 hm with hm | hm
            · cases hm; exact hvsR.2.1
            · exact fun hr => hj.dis j ob' hm (List.mem_cons_of_mem _ hr)
          · rcases List.mem_cons.1 hm with hm | hm
            · cases hm; exact hpd
            · exact (hj.pd j ob' hm).next hok (hidis j ob' hm) (fun hl => by rw [hlate] at hl; cases hl) ho (fun ws hw => hpend _ hw) (fun ws hw x hx => .inl fun y hy => hget _ _ hy) hent
          · rcases List.mem_cons.1 h1 with g1 | g1 <;> rcases List.mem_cons.1 h2 with g2 | g2
            · cases g1; cases g2; rfl
            · cases g1; exact absurd g2 ((hob x rfl).2 k)
            · cases g2; exact absurd g1 ((hob x rfl).2 j)
            · exact hj.inj j k x g1 g2
          · rcases List.mem_cons.1 hm with hm | hm
            · cases hm; exact (hob x rfl).1
            · exact hj.nores j x hm
          · obtain ⟨env1, h1, h2⟩ := hj.env
            refine ⟨env1, AgreeOff.put hok ho h1 (fun k ob' hm _ => List.mem_cons_of_mem _ hm) (fun t _ => .inl ⟨ob, by simp⟩), ?_⟩
            have e1 : ({ fr.put o.dst v with env := env1 } : Fr) = { fr with env := env1 } := by cases o.dst <;> rfl
            rw [e1]; exact h2
          · rcases List.mem_cons.1 hm with hm | hm
            · cases hm; exact hlate
            · exact hj.nl j ob' hm
        have hdval : ∀ v, ∀ d, o.dst = some d → d < (fr.put o.dst v).n → envLook (fr.put o.dst v).env d = v := by
          intro v d hd hlt
          rw [put_n] at hlt
          rw [hd]
          show envLook (envPut fr.env fr.n d v) d = v
          rw [envLook_put, if_pos ⟨hlt, rfl⟩]
        have hlooks : ∀ t ∈ o.looksAt ops, o.dst ≠ some t := fun t ht hd => by
          rcases hok.looks i o ho t ht i o ho hd with h | h
          · exact hvsR.1 i h (by simp)
          · rw [hlate] at h; cases h.1
        have hmask : ∀ j, (masks.getD i 0).testBit j = true → j ∉ rest := fun j hj' hm => hvsR.1 j hj' (List.mem_cons_of_mem _ hm)
        have hsrNone : SR P (resD ok ((i, none) :: D)) m B s w := by
          refine hj.sr.recx rfl (fun x hx => hj.sr.res x ?_) hj.sr.old
          rcases hx with hx | ⟨j, hx⟩
          · exact .inl hx
          · rcases List.mem_cons.1 hx with hx | hx
            · cases hx
            · exact .inr ⟨j, hx⟩
        have hentS : ∀ x y, s.get x = some y → x < s.next := by
          intro x y hy
          unfold S.get at hy
          split at hy
          · rename_i z hz; exact (hj.sr.ent _ _ hz).1
          · simp at hy
        cases hw : wantedA ops.toList o fr with
        | false =>
          simp only [oneA, hw, cond_false] at h
          have := mk undef s none pend (fun _ hp => hp) (fun _ _ h => h) hentS hsrNone (fun x hx => by cases hx)
            ⟨o, undef, (fr.put o.dst undef).ev, ho, hdval undef, hmask, fun _ _ => rfl, hnd, .inl ⟨by rw [(put_ev hlooks).2, hw], rfl, rfl⟩⟩
          exact adv hok rest last _ _ _ _ this h
        | true =>
          have hcall : cls P o.op ≠ .call := by
            intro hc; simp [isAct, hc] at hia
          simp only [oneA, hw, cond_true, execA_plain hcall] at h
          have hw' : ∀ v, wantedA ops.toList o (fr.put o.dst v) = true := fun v => by rw [(put_ev hlooks).2, hw]
          have hρ : ∀ v, ∀ x ∈ o.op.operands.toList, fr.ev x = (fr.put o.dst v).ev x := fun v x hx => ((put_ev hlooks).1 x hx).symm
          cases hcls : cls P o.op with
          | call => exact absurd hcls hcall
          | act => simp [isAct, hcls] at hia
          | pure_ =>
            simp only [exec1, hcls] at h
            cases hp : pureA P fr.ev o.op with
            | none => rw [hp] at h; simp at h
            | some v =>
              rw [hp] at h
              simp only at h
              have := mk v s none pend (fun _ hp => hp) (fun _ _ h => h) hentS hsrNone (fun x hx => by cases hx)
                ⟨o, v, fr.ev, ho, hdval v, hmask, hρ v, hnd, .inr ⟨hw' v, .inl ⟨hp, rfl⟩⟩⟩
              exact adv hok rest last _ _ _ _ this h
          | read =>
            simp only [exec1, hcls] at h
            cases hp : readA P fr.ev s o.op with
            | none => rw [hp] at h; simp at h
            | some v =>
              rw [hp] at h
              simp only at h
              have := mk v s none ((i, seenBy P fr.ev s o.op) :: pend) (fun _ hp => List.mem_cons_of_mem _ hp) (fun _ _ h => h) hentS hsrNone (fun x hx => by cases hx)
                ⟨o, v, fr.ev, ho, hdval v, hmask, hρ v, hnd, .inr ⟨hw' v, .inr (.inl ⟨hp, by simp, rfl⟩)⟩⟩
              exact adv hok rest last _ _ _ _ this h
          | new =>
            simp only [exec1, hcls] at h
            cases hp : newA P fr.ev o.op with
            | none => rw [hp] at h; simp at h
            | some q =>
              obtain ⟨o', f⟩ := q
              rw [hp] at h
              simp only at h
              have hsr1 : SR P (resD ok ((i, some s.next) :: D)) m B (s.new o') w := by
                refine (hj.sr.new o').recx rfl (fun x hx => ?_) (hj.sr.new o').old
                rcases hx with hx | ⟨j, hx⟩
                · exact (hj.sr.new o').res x (.inl hx)
                · rcases List.mem_cons.1 hx with hx | hx
                  · cases hx; exact ⟨hj.sr.none_next, Nat.lt_succ_self _⟩
                  · exact (hj.sr.new o').res x (.inr ⟨j, hx⟩)
              have hget : ∀ x y, s.get x = some y → (s.new o').get x = some y := by
                intro x y hy
                rw [S.get_new, if_neg (by have := hentS x y hy; omega)]
                exact hy
              have hent1 : ∀ x y, (s.new o').get x = some y → x < (s.new o').next := by
                intro x y hy
                rw [S.get_new] at hy
                split at hy
                · rename_i e1; rw [e1]; exact Nat.lt_succ_self _
                · exact Nat.lt_succ_of_lt (hentS x y hy)
              have := mk (f s.next) (s.new o') (some s.next) ((i, [(s.next, 0, 0)]) :: pend) (fun _ hp => List.mem_cons_of_mem _ hp) hget hent1 hsr1
                (fun x hx => by
                  cases hx
                  exact ⟨fun hr => Nat.lt_irrefl _ (hj.sr.res _ (.inl hr)).2, fun j hm => Nat.lt_irrefl _ (hj.sr.res _ (.inr ⟨j, hm⟩)).2⟩)
                ⟨o, f s.next, fr.ev, ho, hdval _, hmask, hρ _, hnd, .inr ⟨hw' _, .inr (.inr ⟨o', f, s.next, hp, rfl, by rw [S.get_new, if_pos rfl], Nat.lt_succ_self _, by simp, rfl⟩)⟩⟩
              exact adv hok rest last _ _ _ _ this h
end
end Go.Sv

/- Regions whose order is drawn, as the machine carries them out. -/
namespace Go.Sv
open Go.RowKit (Below)

section
variable {P : Program} {ok : Cx} {w w' : World} {m m' : Mu} {B : Nat} {s s' : S} {ops : Array Oper} {masks : List Nat}

theorem op_step {b : Frame} {a : Act} {i : Nat} {rest : List Nat} {k : List Item} {cs : List Frame} {o : Oper} {v : Value} (ho : ops[i]? = some o) (hwd : Region.wanted o (yielded ops a.tmps) = true)
    (hnd : ∀ c, o.op ≠ .defer c) (hr : (execOp a.eval o).run P w = .ok (.value v) w') :
    step P (lone (b.atR a (.inRegion ops (i :: rest) :: k)) cs w) = .next (lone (b.atR (a.put o.dst v) (.inRegion ops rest :: k)) cs w') := by
  have e1 := Frame.finish_atR b a ops i rest k v
  rw [ho] at e1
  have hbeg : Begins P (lone (b.atR a (.inRegion ops (i :: rest) :: k)) cs w) (b.atR a (.inRegion ops (i :: rest) :: k)) cs (execOp a.eval o) w := by
    intro fr' cs' w' hx
    refine step_lone_go ?_
    rw [stepGR_op ho hwd, Oper.semAt_eq _ _ _ hnd]
    exact hx
  rw [begins_value hbeg hr, e1]; rfl

theorem op_skip {b : Frame} {a : Act} {i : Nat} {rest : List Nat} {k : List Item} {cs : List Frame} {o : Oper} (ho : ops[i]? = some o) (hwd : Region.wanted o (yielded ops a.tmps) = false) :
    step P (lone (b.atR a (.inRegion ops (i :: rest) :: k)) cs w) = .next (lone (b.atR (a.put o.dst undef) (.inRegion ops rest :: k)) cs w) := by
  have := stepR_op_skip (P := P) (b := b) (a := a) (k := k) (cs := cs) (w := w) (ops := ops) (i := i) (rest := rest) (by rw [ho]; simp [hwd])
  rw [ho] at this
  exact this

/-- What an operation looks at is the same in the frame that the machine's is related to. -/
theorem AgreeOff.looks {cn : List Nat} (hok : DrawOK P ops masks cn) {D : List (Nat × Option Nat)} {fr : Fr} {env1 : M Value} {i : Nat} {o : Oper} (h : AgreeOff ops D fr env1) (ho : ops[i]? = some o)
    (hD : ∀ j, (masks.getD i 0).testBit j = true → ∀ ob, (j, ob) ∉ D) (hnl : ∀ j ob, (j, ob) ∈ D → lw ops masks j = false) : ∀ t ∈ o.looksAt ops, envLook env1 t = envLook fr.env t :=
  fun t ht => h t fun j ob oj hm hoj hd => by
    rcases hok.looks i o ho t ht j oj hoj hd with h | h
    · exact hD j h ob hm
    · rw [hnl j ob hm] at h; cases h.1

theorem stepD {cn : List Nat} (hok : DrawOK P ops masks cn) (hops : ops.toList.all (operOK P) = true) {b : Frame} {i : Nat} {σ : List Nat} {D : List (Nat × Option Nat)} {rest : List Nat} {last : Option Nat}
    {pend : List (Nat × List (Nat × Nat × Nat))} {fr : Fr} {a : Act} {ob : Option Nat} {k : List Item} {cs : List Frame} (hj : J P ok B ops masks b (i :: σ) D rest last pend fr s m w a) (hi : (i, ob) ∈ D) :
    ∃ m' w' a' D', m.le m' ∧ Below B w w' ∧ Steps P (lone (b.atR a (.inRegion ops (i :: σ) :: k)) cs w) (lone (b.atR a' (.inRegion ops σ :: k)) cs w') ∧ J P ok B ops masks b σ D' rest last pend fr s m' w' a' := by
  obtain ⟨o, v, ρ, ho, hd, hm, hρ, hnd, hc⟩ := hj.pd i ob hi
  obtain ⟨env1, hag, hfr⟩ := hj.env
  have hvs := hj.vsS
  have hlk : ∀ t ∈ o.looksAt ops, envLook env1 t = envLook fr.env t := hag.looks hok ho (fun j hb ob' hm' => hvs.1 j hb ((hj.mem j).2 (.inl ⟨ob', hm'⟩))) hj.nl
  obtain ⟨hev, hwa⟩ := agree_ev (fr := fr) hlk
  have hop : operOK P o = true := List.all_eq_true.1 hops o (by rw [← Array.getElem?_toList] at ho; exact List.mem_of_getElem? ho)
  have hρv : ∀ x ∈ o.op.operands.toList, VR m (ρ x) (a.eval x) := fun x hx => by
    rw [hρ x hx, ← hev x hx]
    exact hfr.ev hj.sr.glob (List.all_eq_true.1 hop x hx)
  -- the list without it
  let D' := D.filter fun p => !Nat.beq p.1 i
  have hD' : ∀ p, p ∈ D' ↔ p ∈ D ∧ p.1 ≠ i := by
    intro p
    show p ∈ D.filter _ ↔ _
    rw [List.mem_filter]; simp [nat_beq]
  have hmem : ∀ j, j ∈ σ ↔ (∃ ob, (j, ob) ∈ D') ∨ j ∈ rest := by
    intro j
    have h1 := hj.mem j
    rw [List.mem_cons] at h1
    constructor
    · intro hjs
      have hji : j ≠ i := fun e => hvs.2.1 (e ▸ hjs)
      rcases h1.1 (.inr hjs) with ⟨ob', h⟩ | h
      · exact .inl ⟨ob', (hD' _).2 ⟨h, hji⟩⟩
      · exact .inr h
    · rintro (⟨ob', h⟩ | h)
      · have := (hD' _).1 h
        exact (h1.2 (.inl ⟨ob', this.1⟩)).resolve_left this.2
      · refine (h1.2 (.inr h)).resolve_left fun e => ?_
        exact hj.dis i ob hi (e ▸ h)
  have hagree : ∀ v', (∀ d, o.dst = some d → d < fr.n → envLook fr.env d = v') → AgreeOff ops D' fr (({ fr with env := env1 } : Fr).put o.dst v').env := by
    intro v' hv' t ht
    by_cases hdt : o.dst = some t
    · rw [hdt]
      show envLook (envPut env1 fr.n t v') t = _
      rw [envLook_put]
      by_cases hlt : t < fr.n
      · rw [if_pos ⟨hlt, rfl⟩, hv' t hdt hlt]
      · rw [if_neg (fun hh => hlt hh.1), hj.big t (Nat.not_lt.1 hlt)]
        exact hfr.env.big t (Nat.not_lt.1 hlt)
    · rw [put_look hdt]
      refine hag t fun j ob' oj hm' hoj hdj => ?_
      by_cases hji : j = i
      · subst hji
        rw [ho, Option.some.injEq] at hoj
        subst hoj
        exact hdt hdj
      · exact ht j ob' oj ((hD' _).2 ⟨hm', hji⟩) hoj hdj
  have hfm : ∀ v', ({ fr with env := env1 } : Fr).put o.dst v' = { fr with env := (({ fr with env := env1 } : Fr).put o.dst v').env } := by
    intro v'; cases o.dst <;> rfl
  have hsrD : SR P (resD ok D') m B s w := hj.sr.recx rfl (fun x hx => hj.sr.res x (by
    rcases hx with hx | ⟨j, hx⟩
    · exact .inl hx
    · exact .inr ⟨j, ((hD' _).1 hx).1⟩)) hj.sr.old
  have fin : ∀ (m' : Mu) (w' : World) (v' u : Value), m.le m' → Below B w w' → SR P (resD ok D') m' B s w' → (∀ d, o.dst = some d → d < fr.n → envLook fr.env d = v') → VR m' v' u →
      J P ok B ops masks b σ D' rest last pend fr s m' w' (a.put o.dst u) := by
    intro m' w' v' u hle hbel hsr hv' hvr
    refine ⟨hvs.2.2, hj.vsR, hj.ck, hmem, fun j ob' hm' => hj.dis j ob' ((hD' _).1 hm').1, fun j ob' hm' => hj.pd j ob' ((hD' _).1 hm').1, fun x y z h1 h2 => hj.inj x y z ((hD' _).1 h1).1 ((hD' _).1 h2).1,
      fun j x hm' => hj.nores j x ((hD' _).1 hm').1, hsr, Nat.le_trans hj.hB hbel.size, hj.big, ⟨_, hagree v' hv', ?_⟩, fun j hm' => hj.lt j (List.mem_cons_of_mem _ hm'), fun j ob' hm' => hj.nl j ob' ((hD' _).1 hm').1⟩
    rw [← hfm]
    exact (hfr.mono hle).put o.dst hvr
  have hwm : Region.wanted o (yielded ops a.tmps) = wantedA ops.toList o fr := by rw [wantedA_eq hfr, hwa]
  rcases hc with ⟨hw, rfl, rfl⟩ | ⟨hw, ⟨hp, rfl⟩ | ⟨hp, hpe, rfl⟩ | ⟨o', f, bb, hn, rfl, hg, hb, hpe, rfl⟩⟩
  · exact ⟨m, w, _, D', Mu.le.refl m, Below.refl B w, .one (op_skip ho (by rw [hwm, hw])), fin m w undef undef (Mu.le.refl m) (Below.refl B w) hsrD hd (VR.undef m)⟩
  · obtain ⟨u, hr, hv⟩ := pure_sim (w := w) hρv hp
    exact ⟨m, w, _, D', Mu.le.refl m, Below.refl B w, .one (op_step ho (by rw [hwm, hw]) hnd hr), fin m w v u (Mu.le.refl m) (Below.refl B w) hsrD hd hv⟩
  · obtain ⟨u, hr, hv⟩ := read_sim hj.sr hρv hp
    exact ⟨m, w, _, D', Mu.le.refl m, Below.refl B w, .one (op_step ho (by rw [hwm, hw]) hnd hr), fin m w v u (Mu.le.refl m) (Below.refl B w) hsrD hd hv⟩
  · obtain ⟨u, w2, obj, z, hr, hgr, hbr, hv⟩ := new_sim (ok := ok) (w := w) hρv hn
    have hmb : m bb = none := (hj.sr.res bb (.inr ⟨i, hi⟩)).1
    have hnr : ¬ (resD ok D').res bb := by
      rintro (hx | ⟨j, hx⟩)
      · exact hj.nores i bb hi hx
      · have := (hD' _).1 hx
        exact this.2 (hj.inj j i bb this.1 hi)
    have hle := Mu.le_ins (x := (w.heap.size, 0, z)) hmb
    exact ⟨m.ins bb (w.heap.size, 0, z), w2, _, D', hle, hgr.below hj.hB, .one (op_step ho (by rw [hwm, hw]) hnd hr),
      fin _ w2 (f bb) u hle (hgr.below hj.hB) (hsrD.grew hgr hj.hB hmb hnr hb hg hbr) hd (hv bb hmb)⟩

/-- The context in which an acting operation is carried out: this memory is kept in mind. -/
def nowCx (ok : Cx) (D : List (Nat × Option Nat)) (s : S) : Cx := { resD ok D with c0 := s.clk, snap := s.heap.get }

theorem nowCx_sr {D : List (Nat × Option Nat)} (h : SR P (resD ok D) m B s w) : SR P (nowCx ok D s) m B s w :=
  h.recx rfl h.res ⟨Nat.le_refl _, fun _ _ hx _ => hx⟩
theorem nowCx_back {D : List (Nat × Option Nat)} (h0 : SR P (resD ok D) m B s w) (h : SR P (nowCx ok D s) m' B s' w') : SR P (resD ok D) m' B s' w' :=
  h.recx rfl h.res ⟨Nat.le_trans h0.old.1 h.old.1, fun b x hx hlt => h0.old.2 b x (h.old.2 b x hx (Nat.lt_of_lt_of_le hlt h0.old.1)) hlt⟩

theorem SR.drop {D : List (Nat × Option Nat)} (h : SR P (resD ok D) m B s w) : SR P ok m B s w :=
  h.recx rfl (fun b hb => h.res b (.inl hb)) h.old

theorem sr_get (h : SR P ok m B s w) : ∀ x y, s.get x = some y → x < s.next := by
  intro x y hy
  unfold S.get at hy
  split at hy
  · rename_i z hz; exact (h.ent _ _ hz).1
  · simp at hy

/-- Whatever order has been drawn. -/
theorem draw_run {cn : List Nat} (hok : DrawOK P ops masks cn) (hops : ops.toList.all (operOK P) = true) {e : Ev} (hall : ∀ ok' : Cx, ok'.ok = ok.ok → Sound P ok' B e) {b : Frame} {k : List Item} {cs : List Frame} {r : ORes} :
    ∀ (σ : List Nat) (D : List (Nat × Option Nat)) (rest : List Nat) (last : Option Nat) (pend : List (Nat × List (Nat × Nat × Nat))) (fr : Fr) (s : S) (m : Mu) (w : World) (a : Act),
      J P ok B ops masks b σ D rest last pend fr s m w a → drawA P e ops.toList masks rest pend fr s = some r →
      RegR P ok m B (lone (b.atR a (.inRegion ops σ :: k)) cs w) b (.inRegion ops [] :: k) cs w r
  | [], D, rest, last, pend, fr, s, m, w, a, hj, h => by
    have hrest : rest = [] := by
      cases rest with
      | nil => rfl
      | cons i r' => have := (hj.mem i).2 (.inr (by simp)); cases this
    have hD : ∀ i ob, (i, ob) ∉ D := fun i ob hm => by have := (hj.mem i).2 (.inl ⟨ob, hm⟩); cases this
    subst hrest
    simp only [drawA, Option.some.injEq] at h
    subst h
    obtain ⟨env1, hag, hfr⟩ := hj.env
    refine ⟨a, m, w, a, Mu.le.refl m, hj.sr.drop, Below.refl B w, ?_, Steps.refl _ _⟩
    refine ⟨⟨hfr.env.1, fun t => ?_⟩, hfr.defs, hfr.fn, hfr.round, hfr.kind⟩
    rw [← hag t (fun i ob _ hm => absurd hm (hD i ob))]
    exact hfr.env.2 t
  | i :: σ, D0, rest0, last0, pend0, fr0, s0, m, w, a, hj0, h0 => by
    obtain ⟨D, rest, last, pend, fr, s, hj, h, hhead⟩ := adv hok rest0 last0 D0 pend0 fr0 s0 hj0 h0
    by_cases hiD : ∃ ob, (i, ob) ∈ D
    · obtain ⟨ob, hi⟩ := hiD
      obtain ⟨m', w', a', D', h1, h2, h3, h4⟩ := stepD hok hops (k := k) (cs := cs) hj hi
      exact (draw_run hok hops hall σ D' rest last pend fr s m' w' a' h4 h).of_steps h3 h1 h2
    · have hir : i ∈ rest := ((hj.mem i).1 (by simp)).resolve_left hiD
      cases rest with
      | nil => cases hir
      | cons x rest =>
        have hact := hhead x rest rfl
        have hvs := hj.vsS
        have hvr := hj.vsR
        have hck := hj.ck
        simp only [ckB, Bool.and_eq_true] at hck
        have hix : i = x := by
          rcases List.mem_cons.1 hir with h | h
          · exact h
          · exfalso
            rw [hact, cond_true] at hck
            obtain ⟨e', h1, h2⟩ := ckB_mem hck.2 i h
            exact hvs.1 e' h2 ((hj.mem e').2 (.inr h1))
        subst hix
        have hilt : i < ops.size := hj.lt i (by simp)
        have ho : ops[i]? = some ops[i] := by simp [hilt]
        generalize ops[i] = o at ho
        have hop : operOK P o = true := List.all_eq_true.1 hops o (by
          have ho' := ho
          rw [← Array.getElem?_toList] at ho'; exact List.mem_of_getElem? ho')
        simp only [drawA] at h
        have ho2 : ops.toList[i]? = some o := by simpa using ho
        rw [ho2] at h
        simp only at h
        obtain ⟨env1, hag, hfr⟩ := hj.env
        have hlk : ∀ t ∈ o.looksAt ops, envLook env1 t = envLook fr.env t := hag.looks hok ho (fun j hb ob' hm' => hvs.1 j hb ((hj.mem j).2 (.inl ⟨ob', hm'⟩))) hj.nl
        obtain ⟨hev, hwa⟩ := agree_ev (fr := fr) hlk
        have hρv : ∀ y ∈ o.op.operands.toList, VR m (fr.ev y) (a.eval y) := fun y hy => by
          rw [← hev y hy]
          exact hfr.ev hj.sr.glob (List.all_eq_true.1 hop y hy)
        have hwm : Region.wanted o (yielded ops a.tmps) = wantedA ops.toList o fr := by rw [wantedA_eq hfr, hwa]
        have hDi : ∀ j ob, (j, ob) ∈ D → j ≠ i := fun j ob hm' e => hj.dis j ob hm' (by rw [e]; simp)
        have hmem' : ∀ j, j ∈ σ ↔ (∃ ob, (j, ob) ∈ D) ∨ j ∈ rest := by
          intro j
          have h1 := hj.mem j
          rw [List.mem_cons, List.mem_cons] at h1
          constructor
          · intro hjs
            have hji : j ≠ i := fun e => hvs.2.1 (e ▸ hjs)
            rcases h1.1 (.inr hjs) with h | h
            · exact .inl h
            · exact .inr (h.resolve_left hji)
          · rintro (⟨ob', h⟩ | h)
            · exact (h1.2 (.inl ⟨ob', h⟩)).resolve_left (hDi j ob' h)
            · exact (h1.2 (.inr (.inr h))).resolve_left (fun e => hvr.2.1 (e ▸ h))
        -- the invariant behind the operation
        have fin : ∀ (v : Value) (s' : S) (m' : Mu) (w' : World) (a' : Act) (pend' : List (Nat × List (Nat × Nat × Nat))), m.le m' → Below B w w' → SR P (resD ok D) m' B s' w' →
            (∀ j ob ws, (j, ob) ∈ D → (j, ws) ∈ pend → (j, ws) ∈ pend' ∧ ∀ y ∈ ws, Same s s' y) → FrR P m' (({ fr with env := env1 } : Fr).put o.dst v) b a' →
            J P ok B ops masks b σ D rest (bif stopAt P ops masks i then some i else last) pend' (fr.put o.dst v) s' m' w' a' := by
          intro v s' m' w' a' pend' hle hbel hsr hpe hfr'
          refine ⟨hvs.2.2, hvr.2.2, hck.2, hmem', fun j ob' hm' hr => hj.dis j ob' hm' (List.mem_cons_of_mem _ hr), fun j ob' hm' => ?_, hj.inj, hj.nores, hsr, Nat.le_trans hj.hB hbel.size, big_put hj.big, ?_, fun j hm' => hj.lt j (List.mem_cons_of_mem _ hm'), hj.nl⟩
          · refine (hj.pd j ob' hm').next hok (hDi j ob' hm') ?_ ho (fun ws hw => (hpe j ob' ws hm' hw).1) (fun ws hw => (hpe j ob' ws hm' hw).2) (sr_get hsr)
            intro _
            cases hb : (masks.getD i 0).testBit j with
            | false => rfl
            | true => exact absurd ((hj.mem j).2 (.inl ⟨ob', hm'⟩)) (hvs.1 j hb)
          · refine ⟨(({ fr with env := env1 } : Fr).put o.dst v).env, fun t ht => ?_, ?_⟩
            · by_cases hdt : o.dst = some t
              · rw [hdt]
                show envLook (envPut env1 fr.n t v) t = envLook (envPut fr.env fr.n t v) t
                rw [envLook_put, envLook_put]
                by_cases hlt : t < fr.n
                · rw [if_pos ⟨hlt, rfl⟩, if_pos ⟨hlt, rfl⟩]
                · rw [if_neg (fun hh => hlt hh.1), if_neg (fun hh => hlt hh.1), hj.big t (Nat.not_lt.1 hlt)]
                  exact hfr.env.big t (Nat.not_lt.1 hlt)
              · rw [put_look hdt, put_look hdt]
                exact hag t ht
            · have e1 : ({ fr.put o.dst v with env := (({ fr with env := env1 } : Fr).put o.dst v).env } : Fr) = ({ fr with env := env1 } : Fr).put o.dst v := by cases o.dst <;> rfl
              rw [e1]; exact hfr'
        cases hw : wantedA ops.toList o fr with
        | false =>
          simp only [oneA, hw, cond_false] at h
          have hj' := fin undef s m w (a.put o.dst undef) pend (Mu.le.refl m) (Below.refl B w) hj.sr (fun j ob ws _ hp => ⟨hp, fun y _ => .inl fun _ h => h⟩) (hfr.put o.dst (VR.undef m))
          exact (draw_run hok hops hall σ D rest _ pend _ s m w _ hj' h).of_steps (.one (op_skip ho (by rw [hwm, hw]))) (Mu.le.refl m) (Below.refl B w)
        | true =>
          simp only [oneA, hw, cond_true] at h
          have he := hall (nowCx ok D s) rfl
          cases hx : execA P e o fr s with
          | none => rw [hx] at h; simp at h
          | some x =>
            rw [hx] at h
            have hop2 := execA_sim2 he (fm := { fr with env := env1 }) (b := b) (a := a) (rest := σ) (k := k) (cs := cs) ho hρv (by rw [hwm, hw]) (nowCx_sr hj.sr) hj.hB hfr hx
            cases x with
            | pan ch fr' s' =>
              simp only [Option.some.injEq] at h
              subst h
              obtain ⟨rfl, m', w', g1, g2, g3, g4, g5⟩ := hop2
              exact ⟨a, m', w', g1, (nowCx_back hj.sr g2).drop, g3, ⟨env1, fr'.n, g4⟩, g5⟩
            | done fr' s' =>
              obtain ⟨v, rfl, m', w', a', g1, g2, g3, g4, g5⟩ := hop2
              by_cases hcls : cls P o.op = .act ∨ cls P o.op = .call
              case neg =>
                have hia : isAct P o = false := by
                  unfold isAct
                  split
                  · rename_i h; exact absurd (.inl h) hcls
                  · rename_i h; exact absurd (.inr h) hcls
                  · rfl
                have hlw : lw ops masks i = true := by
                  unfold stopAt at hact
                  rw [Bool.or_eq_true] at hact
                  exact hact.resolve_left (by simp [actAt, ho, hia])
                have hpure := hok.lwp i o ho hlw
                simp only [hpure] at h
                have hss : s' = s := by
                  rw [execA_plain (by rw [hpure]; simp)] at hx
                  simp only [exec1, hpure] at hx
                  cases hp : pureA P fr.ev o.op with
                  | none => rw [hp] at hx; simp at hx
                  | some v0 =>
                    rw [hp] at hx
                    simp only [Option.some.injEq, ORes.done.injEq] at hx
                    exact hx.2.symm
                have hj' := fin v s' m' w' a' pend g1 g3 (nowCx_back hj.sr g2) (fun j ob ws _ hp => ⟨hp, fun y _ => .inl fun z hz => by rw [hss]; exact hz⟩) g4
                exact (draw_run hok hops hall σ D rest _ pend _ s' m' w' a' hj' h).of_steps g5 g1 g3
              have h' : (bif pendOk s s' (pend.filter fun p => !(masks.getD i 0).testBit p.1) then drawA P e ops.toList masks rest (pend.filter fun p => !(masks.getD i 0).testBit p.1) (fr.put o.dst v) s' else none) = some r := by
                rcases hcls with hcls | hcls
                · simpa only [hcls] using h
                · simpa only [hcls] using h
              obtain ⟨hpo, h'⟩ := cond_some h'
              have hj' := fin v s' m' w' a' (pend.filter fun p => !(masks.getD i 0).testBit p.1) g1 g3 (nowCx_back hj.sr g2) (fun j ob ws hm' hp => by
                have hin : (j, ws) ∈ pend.filter fun p => !(masks.getD i 0).testBit p.1 := by
                  rw [List.mem_filter]
                  refine ⟨hp, ?_⟩
                  cases hb : (masks.getD i 0).testBit j with
                  | false => simp
                  | true => exact absurd ((hj.mem j).2 (.inl ⟨ob, hm'⟩)) (hvs.1 j hb)
                refine ⟨hin, fun y hy => ?_⟩
                exact watchOk_same (fun x z hz => (hj.sr.ent x z hz).2) (fun x z hz hlt => g2.old.2 x z hz hlt) (watchesOk_mem (pendOk_mem hpo _ hin) y hy)) g4
              exact (draw_run hok hops hall σ D rest _ _ _ s' m' w' a' hj' h').of_steps g5 g1 g3

/-- Regions whose order is drawn. -/
theorem drawS (hP : ProgOK P ok) (hm : P.follows .mixedOrders = true) (hchk : ∀ {i ops}, ok (.region i ops true) → drawChk P ops (masksOf ops) (canon P ops) = true) : DrawS P ok B := by
  intro e hall i ops fr s r hok h m w b a k cs hs hB hf
  have hdc := drawChk_spec (hchk hok)
  obtain ⟨h1, h2⟩ := sched_spec (P := P) hdc hm (w.tape w.drawn (.order b.fn i))
  have hs' : SR P ok m B s { w with drawn := w.drawn + 1 } := hs.of_heap rfl
  have hj : J P ok B ops (masksOf ops) b (Region.schedule (P.follows .mixedOrders) ops (w.tape w.drawn (.order b.fn i))) [] (canon P ops) none [] fr s m { w with drawn := w.drawn + 1 } a :=
    ⟨h1, hdc.vs, hdc.ck, (fun j => by rw [h2, ← hdc.mem]; simp), (fun _ _ h => by cases h), (fun _ _ h => by cases h), (fun _ _ _ h => by cases h), (fun _ _ h => by cases h),
      hs'.recx rfl (fun x hx => hs'.res x (by
        rcases hx with hx | ⟨_, hx⟩
        · exact hx
        · cases hx)) hs'.old, hB, (fun t ht => hf.env.big t ht), ⟨fr.env, (fun _ _ => rfl), hf⟩, (fun j hm => (h2 j).1 hm), (fun _ _ h => by cases h)⟩
  have := draw_run hdc (hP.region hok) hall (k := k) (cs := cs) _ _ _ _ _ _ _ _ _ _ hj h
  have hbel : Below B w { w with drawn := w.drawn + 1 } := ⟨rfl, rfl, rfl, Nat.le_refl _, fun _ _ => rfl⟩
  exact this.of_steps (.one stepR_region_draw) (Mu.le.refl m) hbel
end
end Go.Sv

/- The evaluator is sound: what it comes to, the machine comes to, whatever the tape says. -/
namespace Go.Sv
open Go.RowKit (Below)

/-- What is asked of a region. -/
def regB (P : Program) (ops : Array Oper) (draw : Bool) : Bool := !draw || drawChk P ops (masksOf ops) (canon P ops)

def okC (P : Program) (c : Code) : Prop := codeOK P (regB P) c = true

/-- What is asked of the program, once. -/
def funOK (P : Program) (fn : Func) : Bool := !(fn.name == "runtime.NumGoroutine") && (match fn.body with
  | some c => codeOK P (regB P) c
  | none => true)
def progOK (P : Program) : Bool := P.funcs.toList.all (funOK P)

/-- The context at the beginning. -/
def baseCx (P : Program) : Cx := ⟨okC P, fun _ => False, 0, fun _ => none⟩

theorem progOK_spec {P : Program} (h : progOK P = true) : ProgOK P (baseCx P) where
  seq h := by simpa [baseCx, okC, codeOK] using h
  cond h := by simpa [baseCx, okC, codeOK] using h
  block h := h
  loop h := h
  scope h := h
  range h := by simpa [baseCx, okC, codeOK] using h
  region h := by
    simp only [baseCx, okC, codeOK, Bool.and_eq_true] at h
    exact h.1
  ret := rfl
  exit := rfl
  body := fun {f fn c} hf hc => by
    have := List.all_eq_true.1 h fn (by rw [← Array.getElem?_toList] at hf; exact List.mem_of_getElem? hf)
    simp only [funOK, hc, Bool.and_eq_true] at this
    exact this.2
  name := fun {f fn} hf => by
    have := List.all_eq_true.1 h fn (by rw [← Array.getElem?_toList] at hf; exact List.mem_of_getElem? hf)
    simp only [funOK, Bool.and_eq_true, Bool.not_eq_true'] at this
    exact this.1

theorem ProgOK.of_eq {P : Program} {ok ok' : Cx} (h : ProgOK P ok) (e : ok'.ok = ok.ok) : ProgOK P ok' := by
  obtain ⟨a, r, c, d⟩ := ok
  obtain ⟨a', r', c', d'⟩ := ok'
  cases e
  exact ⟨h.seq, h.cond, h.block, h.loop, h.scope, h.range, h.region, h.ret, h.exit, h.body, h.name⟩

section
variable {P : Program} {B : Nat}

theorem sound_none (ok : Cx) : Sound P ok B .none where
  code h := by simp [Ev.none] at h
  call h := by simp [Ev.none] at h
  yield h := by simp [Ev.none] at h

/-- Hooks, whatever is kept in mind. -/
def ExtOK' (P : Program) (okc : Code → Prop) (B : Nat) (ext : Ev → FuncId → List Value → S → Option (CRes × S)) : Prop :=
  ∀ e, (∀ ok : Cx, ok.ok = okc → Sound P ok B e) → ∀ {f args s r s'}, ext e f args s = some (r, s') → ∀ (ok : Cx), ok.ok = okc → ∀ {m w args'}, SR P ok m B s w → B ≤ w.heap.size → LR m args args'.toList →
    Inv P ok B m (callFunc f args') w r s'

theorem sound_next (hP : ∀ ok : Cx, ok.ok = okC P → ProgOK P ok) (hm : P.follows .mixedOrders = true) {ext : Ev → FuncId → List Value → S → Option (CRes × S)} (hext : ExtOK' P (okC P) B ext) {e : Ev}
    (he : ∀ ok : Cx, ok.ok = okC P → Sound P ok B e) : ∀ ok : Cx, ok.ok = okC P → Sound P ok B (e.next P ext) := by
  intro ok hok
  have hp := hP ok hok
  have hs := he ok hok
  have hall : ∀ ok' : Cx, ok'.ok = ok.ok → Sound P ok' B e := fun ok' h => he ok' (h.trans hok)
  have hD : DrawS P ok B := drawS hp hm (fun {i ops} h => by
    rw [hok] at h
    simp only [okC, codeOK, regB, Bool.and_eq_true, Bool.not_true, Bool.false_or] at h
    exact h.2)
  refine ⟨fun {c fr s ex fr' s'} h hc {m w b a k cs t} h1 h2 h3 h4 => ?_, fun {f args s r s'} h {m w args'} h1 h2 h3 => ?_, fun {l args s r s'} h {m w l' args'} h1 h2 h3 h4 => ?_⟩
  · exact stepCode_sim hp hD hall (fun {_ _ _ _ _ _ _ _ _} h hok {_ _ _ _ _ _} hs hB hf => rangeA_sim hp (hall ok rfl) h hok hs hB hf) h hc h1 h2 h3 h4
  · have h' : stepCall P ext e f args s = some (r, s') := h
    unfold stepCall at h'
    split at h'
    · rename_i r0 hx
      simp only [Option.some.injEq] at h'; subst h'
      exact hext e he hx ok hok h1 h2 h3
    · rename_i hx
      refine stepCall_sim (ext := fun _ _ _ _ => none) hp (fun _ _ {_ _ _ _ _} h => nomatch h) hs (r := r) (s' := s') ?_ h1 h2 h3
      unfold stepCall
      simp only
      exact h'
  · exact stepYield_sim hp hs h h1 h2 h3 h4

theorem sound (hP : progOK P = true) (hm : P.follows .mixedOrders = true) {ext : Ev → FuncId → List Value → S → Option (CRes × S)} (hext : ExtOK' P (okC P) B ext) :
    ∀ n, ∀ ok : Cx, ok.ok = okC P → Sound P ok B (ev P ext n)
  | 0, ok, _ => sound_none ok
  | n + 1, ok, hok => sound_next (fun _ h => ProgOK.of_eq (ok := baseCx P) (progOK_spec hP) h) hm hext (sound hP hm hext n) ok hok
end
end Go.Sv
