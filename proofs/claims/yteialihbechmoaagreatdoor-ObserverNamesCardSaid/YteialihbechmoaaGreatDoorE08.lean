/- The seat's closed facts, and the hook for the function that recovers a panic. -/
import Derived.Test.YteialihbechmoaaGreatDoorE07
import Derived.Test.YteialihbechmoaaGreatDoorProg
import Derived.KernelRfl
import Derived.Recover
import Derived.Tactics
import Derived.Tactics2

/- Closed facts of the seat's program: tests. -/
namespace Go.Sv
open Go.Proofs

def retIs : Option (CRes × S) → Value → Bool
  | some (.ret (.agg x), _), .agg y => sameVs x.toList y.toList
  | some (.ret v, _), r => sameV v r
  | _, _ => false

theorem retIs_spec {x : Option (CRes × S)} {r : Value} (h : retIs x r = true) : ∃ s1, x = some (.ret r, s1) := by
  unfold retIs at h
  split at h
  · rename_i a s b
    have := sameVs_eq h
    have : a = b := Array.ext' this
    subst this
    exact ⟨s, rfl⟩
  · rw [sameV_eq h]
    exact ⟨_, rfl⟩
  · cases h

def u8s (l : List Nat) : List Value := l.map fun n => .int .u8 (.ofNat n)
def u32s (l : List Nat) : List Value := l.map fun n => .int .u32 (.ofNat n)
def kL : List Nat := [0x428a2f98, 0x71374491, 0xb5c0fbcf, 0xe9b5dba5, 0x3956c25b, 0x59f111f1, 0x923f82a4, 0xab1c5ed5,
  0xd807aa98, 0x12835b01, 0x243185be, 0x550c7dc3, 0x72be5d74, 0x80deb1fe, 0x9bdc06a7, 0xc19bf174,
  0xe49b69c1, 0xefbe4786, 0x0fc19dc6, 0x240ca1cc, 0x2de92c6f, 0x4a7484aa, 0x5cb0a9dc, 0x76f988da,
  0x983e5152, 0xa831c66d, 0xb00327c8, 0xbf597fc7, 0xc6e00bf3, 0xd5a79147, 0x06ca6351, 0x14292967,
  0x27b70a85, 0x2e1b2138, 0x4d2c6dfc, 0x53380d13, 0x650a7354, 0x766a0abb, 0x81c2c92e, 0x92722c85,
  0xa2bfe8a1, 0xa81a664b, 0xc24b8b70, 0xc76c51a3, 0xd192e819, 0xd6990624, 0xf40e3585, 0x106aa070,
  0x19a4c116, 0x1e376c08, 0x2748774c, 0x34b0bcb5, 0x391c0cb3, 0x4ed8aa4a, 0x5b9cca4f, 0x682e6ff3,
  0x748f82ee, 0x78a5636f, 0x84c87814, 0x8cc70208, 0x90befffa, 0xa4506ceb, 0xbef9a3f7, 0xc67178f2]
def firstL : List Nat := [0x6a09e667, 0xbb67ae85, 0x3c6ef372, 0xa54ff53a, 0x510e527f, 0x9b05688c, 0x1f83d9ab, 0x5be0cd19]
def gl : List (Nat × List Value) := [(0, u32s firstL), (2, u32s kL)]

theorem follows : Tryz.prog.follows .mixedOrders = true := by kernel_rfl
theorem glOK_prog : glOK Tryz.prog gl = true := by kernel_rfl
end Go.Sv

/- The hook for observer's judge: a call whose panic the deferred closure turns into a judgement. -/
namespace Go.Sv
open Go.RowKit (Below)
open Go.Proofs

section
variable {P : Program} {ok : Cx} {w w' : World} {m m' : Mu} {B : Nat} {s : S}

def EndR (m : Mu) : CRes → Ending → Prop
  | .ret v, .returned v' => VR m v v'
  | .pan ch, .panicked ch' => ChainR m ch ch'
  | _, _ => False

def CallR (P : Program) (ok : Cx) (B : Nat) (m : Mu) (w : World) (r : CRes) (s' : S) (e : Ending) (w' : World) : Prop :=
  ∃ m', m.le m' ∧ SR P ok m' B s' w' ∧ Below B w w' ∧ EndR m' r e

theorem calls_of_step (hP : ProgOK P ok) {e : Ev} (he : Sound P ok B e) {f : FuncId} {args : List Value} {r : CRes} {s' : S} (h : stepCall P Ext.none e f args s = some (r, s')) {args' : Array Value}
    (hs : SR P ok m B s w) (hB : B ≤ w.heap.size) (ha : LR m args args'.toList) : Calls P f args' w (CallR P ok B m w r s') := by
  unfold stepCall at h
  simp only [Ext.none] at h
  split at h
  · rename_i fn hf
    have hf' : P.funcs[f]? = some fn := by simpa using hf
    split at h
    · rename_i c hc
      obtain ⟨hl, h⟩ := cond_some h
      rw [Nat.ble_eq] at hl
      split at h
      · rename_i ex fr s1 hcode
        intro cs
        obtain ⟨m1, w1, fr2, g1, g2, g3, g4, g5, g6⟩ := enter_sim hP he hf' hc hl hcode h hs hB ha cs
        cases r with
        | ret v => obtain ⟨v', hv, hlv⟩ := g6; exact ⟨.returned v', w1, fr2, ⟨m1, g1, g2, g3, hv⟩, g5, g4, hlv⟩
        | pan ch => obtain ⟨v', hv, hlv⟩ := g6; exact ⟨.panicked v', w1, fr2, ⟨m1, g1, g2, g3, hv⟩, g5, g4, hlv⟩
      · simp at h
    · simp at h
  · simp at h

theorem inv_of_calls (hP : ProgOK P ok) {f : FuncId} {fn : Func} {c : Code} (hf : P.funcs[f]? = some fn) (hc : fn.body = some c) {args' : Array Value} {r : CRes} {s' : S}
    (h : Calls P f args' w (CallR P ok B m w r s')) : Inv P ok B m (callFunc f args') w r s' := by
  intro M fr0 cs hw hb
  obtain ⟨e, w1, fr2, ⟨m1, g1, g2, g3, g4⟩, hst, hfn, hlv⟩ := h (fr0 :: cs)
  refine ⟨m1, w1, g1, g2, g3, ?_⟩
  have hin := hw.enters hb (callFunc_enter hP hf hc args')
  cases r with
  | ret v =>
    cases e <;> simp only [EndR] at g4
    exact ⟨_, g4, .head hin (Steps.trans hst (.one (step_leave_returned hlv)))⟩
  | pan ch =>
    cases e <;> simp only [EndR] at g4
    refine ⟨_, g4, .head hin (Steps.trans hst (.one ?_))⟩
    rw [step_leave_panicked hlv]
    simp [Frame.raise, hw.1]
end

def zeroJ : List Value := [.int .i64 0, .int .i64 0, .slice none 0 0]
/-- The judgement is laid and read. -/
def layJ (s : S) (ob : Nat) (l : List Value) : Option (CRes × S) :=
  match storeN s ob 0 l with
  | some s => match loadN s ob 0 3 with
    | some l => some (.ret (.agg ⟨l⟩), s)
    | none => none
  | none => none
def judgeRes (tW : TypeId) (b o ob : Nat) : Option (CRes × S) → Option (CRes × S)
  | some (.ret _, s) => match loadN s b o 3 with
    | some l => layJ s ob l
    | none => none
  | some (.pan [e], s) => match e.v with
    | .iface t (.int .i64 n) => bif Nat.beq t tW && !e.recovered && !e.goexit then layJ s ob [.int .i64 n, .int .i64 0, .slice none 0 0] else none
    | _ => none
  | _ => none

def judgeHook (P : Program) (fJ fW fC : FuncId) (tW : TypeId) : Ext := fun e f args s =>
  bif Nat.beq f fJ then (match args with
    | [.pointer (some ⟨b, o, .none⟩)] =>
      match store1 (s.new (.cells zeroJ false)) b o (.int .i64 (-1)) with
      | some s1 => (match stepCall P Ext.none e fW args s1 with
        | some (.ret _, s2) => judgeRes tW b o s.next (stepCall P Ext.none e fC args s2)
        | r => judgeRes tW b o s.next r)
      | .none => .none
    | _ => .none) else .none
end Go.Sv

/- The hook for observer's judge is sound. -/
namespace Go.Sv
open Go.RowKit (Below)
open Go.Proofs

section
variable {P : Program} {ops : Array Oper} {Q : Exit → Act → World → Prop} {i : Nat} {rest : List Nat} {a : Act} {w w' : World} {o : Oper}
theorem wpOps_val {v : Value} (ho : ops[i]? = some o) (hg : o.guard = none) (hr : (execOp a.eval o).run P w = .ok (.value v) w') (k : wpOps P ops Q rest (a.put o.dst v) w') : wpOps P ops Q (i :: rest) a w := by
  simp only [wpOps, ho, Region.wanted, hg, if_true]
  left
  simp only [Oper.wp, hr, Oper.upon]
  exact k
theorem wpOps_skip (ho : ops[i]? = some o) (hg : o.guard = none) (hr : (execOp a.eval o).run P w = .ok .skip w') (k : wpOps P ops Q rest (a.put o.dst undef) w') : wpOps P ops Q (i :: rest) a w := by
  simp only [wpOps, ho, Region.wanted, hg, if_true]
  left
  simp only [Oper.wp, hr, Oper.upon]
  exact k
theorem wpOps_defer {d : Deferred} (ho : ops[i]? = some o) (hg : o.guard = none) (hr : (execOp a.eval o).run P w = .ok (.defer d) w') (k : wpOps P ops Q rest ({ a with defers := d :: a.defers }.put o.dst undef) w') :
    wpOps P ops Q (i :: rest) a w := by
  simp only [wpOps, ho, Region.wanted, hg, if_true]
  left
  simp only [Oper.wp, hr, Oper.upon]
  exact k
theorem wpOps_enter {f : FuncId} {args : Array Value} {R : Ending → World → Prop} (ho : ops[i]? = some o) (hg : o.guard = none) (hr : (execOp a.eval o).run P w = .ok (.enter f args) w') (hc : Calls P f args w' R)
    (k1 : ∀ v w2, R (.returned v) w2 → wpOps P ops Q rest (a.put o.dst v) w2) (k2 : ∀ ch w2, R (.panicked ch) w2 → Q (.panic ch) a w2) (k3 : ∀ w2, ¬ R .outgrown w2) :
    wpOps P ops Q (i :: rest) a w := by
  simp only [wpOps, ho, Region.wanted, hg, if_true]
  left
  simp only [Oper.wp, hr, Oper.upon]
  refine hc.mono fun e w2 h => ?_
  cases e with
  | returned v => exact k1 v w2 h
  | panicked ch => exact k2 ch w2 h
  | outgrown => exact (k3 w2 h).elim
end

set_option maxRecDepth 20000 in
/-- The last statement of the closure: the judgement is laid. -/
theorem lays (p : Addr) (n : Int) (w w3 : World) (Q : Exit → Act → World → Prop) (x1 x3 x4 x5 x6 x7 x8 x9 x10 x11 x12 x13 x14 x15 x16 : Value)
    (hst : (Instr.storeAt 48 (.pointer (some p)) (.agg #[.int .i64 n, .int .i64 0, .slice none 0 0])).run Tryz.prog w = .ok () w3)
    (hq : Q .normal ⟨#[.pointer (some p), x1, .int .i64 n, x3, x4, x5, x6, x7, x8, x9, x10, x11, x12, x13, x14, .int .i64 n, .agg #[.int .i64 n, .int .i64 0, .slice none 0 0]], []⟩ w3) :
    (Code.region 5
              #[{ dst := some 15, op := Op.move (Operand.tmp 2), type := 107, pos := "observer.go:169", after := #[],
                  guard := none },
                { dst := some 16, op := Op.build 48 #[(0, Operand.tmp 15)], type := 48, pos := "observer.go:169",
                  after := #[{ on := 0, ground := Ground.data }], guard := none },
                { dst := none, op := Op.store 48 (Operand.tmp 0) (Operand.tmp 16), type := 0, pos := "observer.go:169",
                  after :=
                    #[{ on := 1, ground := Ground.data }, { on := 0, ground := Ground.phase },
                      { on := 1, ground := Ground.phase }],
                  guard := none }]
              false).wp Tryz.prog Q ⟨#[.pointer (some p), x1, .int .i64 n, x3, x4, x5, x6, x7, x8, x9, x10, x11, x12, x13, x14, x15, x16], []⟩ w := by
  refine wp_region ?_
  refine wpOps_val (w' := w) (v := .int .i64 n) rfl rfl (by kernel_rfl) ?_
  refine wpOps_val (w' := w) (v := .agg #[.int .i64 n, .int .i64 0, .slice none 0 0]) rfl rfl (by kernel_rfl) ?_
  refine wpOps_skip (w' := w3) rfl rfl (Eq.trans (b := Sem.run Tryz.prog (Instr.storeAt 48 (.pointer (some p)) (.agg #[.int .i64 n, .int .i64 0, .slice none 0 0]) >>= fun _ => pure Next.skip) w) (by kernel_rfl) (by rw [Sem.run_bind, hst]; rfl)) ?_
  unfold wpOps
  refine (congrArg (fun a => Q .normal a w3) ?_).mpr hq
  kernel_rfl

set_option maxRecDepth 20000 in
theorem catch_panicking (p : Addr) (n : Int) (w w3 : World) (h : (storeCells p [.int .i64 n, .int .i64 0, .slice none 0 0] 0).run Tryz.prog w = .ok () w3) :
    CallsD Tryz.prog 33 #[.pointer (some p)] (.panicking [{ v := .iface 107 (.int .i64 n), recovered := false }]) w fun e u' w' =>
      e = .returned (.tuple #[]) ∧ u' = .panicking [{ v := .iface 107 (.int .i64 n), recovered := true }] ∧ w' = w3 := by
  refine callsD_of_wpS Tryz.func33 rfl fun c₀ cs hu => ?_
  simp only [Tryz.ntmps33, List.size_toArray, List.length_cons, List.length_nil, Nat.reduceAdd, Nat.reduceSub, Array.replicate_succ,
     Array.replicate_zero, List.push_toArray, List.append_toArray, List.nil_append, List.cons_append]
  apply wpS_seq
  apply wpS_region
  simp [wpOpsS, go_sem, recoverD, hu, Exit.thenS]
  have hst : (Instr.storeAt 48 (.pointer (some p)) (.agg #[.int .i64 n, .int .i64 0, .slice none 0 0])).run Tryz.prog w = .ok () w3 := by
    simp only [Instr.storeAt, Instr.sureAddr, Sem.run_bind, Sem.run_pure, Result.andThen_ok]
    rw [storeVar_run (by kernel_rfl) (by kernel_rfl)]
    exact h
  refine wpS_of_wp ?_
  clear hu h
  have hlay := fun Q x1 x3 x4 x5 x6 x7 x8 x9 x10 x11 x12 x13 x14 x15 x16 hq => lays p n w w3 Q x1 x3 x4 x5 x6 x7 x8 x9 x10 x11 x12 x13 x14 x15 x16 hst hq
  generalize (Code.region 5 _ false) = rg at *
  clear hst
  have hta : ∀ w, (Instr.typeAssert (.iface 107 (.int .i64 n)) 20 107 true).run Tryz.prog w = .ok (.tuple #[.int .i64 n, .bool true]) w := fun _ => by kernel_rfl
  have hno : ∀ w, (Op.unary .not (.bool true)).run Tryz.prog w = .ok (.bool false) w := fun _ => rfl
  go_wp2
  refine hlay _ _ _ _ _ _ _ _ _ _ _ _ _ _ _ _ ?_
  exact ⟨rfl, _, rfl, _, results_none Tryz.results33 _ _ _, rfl, rfl, rfl⟩

theorem catch_idle (p : Addr) (w : World) :
    CallsD Tryz.prog 33 #[.pointer (some p)] .returning w fun e u' w' => e = .returned (.tuple #[]) ∧ u' = .returning ∧ w' = w := by
  refine callsD_of_wpS Tryz.func33 rfl fun c₀ cs hu => ?_
  simp only [Tryz.ntmps33, List.size_toArray, List.length_cons, List.length_nil, Nat.reduceAdd, Nat.reduceSub, Array.replicate_succ,
     Array.replicate_zero, List.push_toArray, List.append_toArray, List.nil_append, List.cons_append]
  apply wpS_seq
  apply wpS_region
  simp [wpOpsS, go_sem, recoverD, hu, Exit.thenS]
  refine wpS_of_wp ?_
  go_wp2
  cases c₀
  simp_all [bodyPostS, results, Tryz.results33]
end Go.Sv

/- The hook for observer's judge is sound: the function's whole run. -/
namespace Go.Sv
open Go.RowKit (Below)
open Go.Proofs

theorem res15 {tmps : Array Value} {a : Addr} {w : World} {v : Value} (ht : tmps.getD 2 undef = .pointer (some a)) (hl : (Instr.loadAt 48 (.pointer (some a))).run Tryz.prog w = .ok v w) :
    (results Tryz.f15 tmps).run Tryz.prog w = .ok v w := by
  have hl' : (loadVar 48 a).run Tryz.prog w = .ok v w := by
    simpa [Instr.loadAt, Instr.sureAddr] using hl
  simp only [results_def, Tryz.results15]
  rw [Sem.run_bind, Array.mapM_eq_mapM_toList, Sem.run_map]
  simp only [List.mapM_cons, List.mapM_nil, resF, ht, asAddr]
  simp [hl']

theorem layJ_load {s s' : S} {ob : Nat} {l : List Value} {r : CRes} (h : layJ s ob l = some (r, s')) :
    storeN s ob 0 l = some s' ∧ ∃ l', r = .ret (.agg ⟨l'⟩) ∧ loadA Tryz.prog s' 48 (.pointer (some ⟨ob, 0, none⟩)) = some (.agg ⟨l'⟩) := by
  unfold layJ at h
  split at h
  · rename_i s0 h0
    split at h
    · rename_i l' hl
      simp only [Option.some.injEq, Prod.mk.injEq] at h
      obtain ⟨rfl, rfl⟩ := h
      refine ⟨h0, l', rfl, ?_⟩
      have e1 : known Tryz.prog 48 = true := by kernel_rfl
      have e2 : aggB Tryz.prog 48 = true := by kernel_rfl
      have e3 : szOf Tryz.prog 48 = 3 := by kernel_rfl
      unfold loadA
      simp only [e1, e2, e3, cond_true, hl]
    · cases h
  · cases h

section
variable {ok : Cx} {B : Nat} {m m2 : Mu} {w w3 : World} {s2 s' : S} {b o ob rb1 ro1 z1 : Nat} {r : CRes} {tmps : Array Value}

theorem fin_panic {ch ch' : List PanicEntry} (ht : tmps.getD 2 undef = .pointer (some ⟨rb1, ro1 + 0, none⟩)) (hm2 : m.le m2) (hob : m2 ob = some (rb1, ro1, z1)) (hs2 : SR Tryz.prog ok m2 B s2 w3) (hbl : Below B w w3)
    (hch : ChainR m2 ch ch') (h : judgeRes 107 b o ob (some (.pan ch, s2)) = some (r, s')) :
    _root_.Go.Leaves Tryz.prog Tryz.f15 tmps (CallR Tryz.prog ok B m w r s') [{ target := .fn (.func 33) #[.pointer (some ⟨rb1, ro1 + 0, none⟩)], args := #[] }] (.panicking ch') w3 := by
  cases ch with
  | nil => simp [judgeRes] at h
  | cons e rest =>
    cases rest with
    | cons _ _ => simp [judgeRes] at h
    | nil =>
      simp only [judgeRes] at h
      split at h
      · rename_i t n hv
        obtain ⟨hb, h4⟩ := cond_some h
        clear h
        simp only [Bool.and_eq_true, Nat.beq_eq, Bool.not_eq_true'] at hb
        obtain ⟨⟨rfl, hr⟩, hg⟩ := hb
        obtain ⟨hst, l', rfl, hload⟩ := layJ_load h4
        cases hch with
        | @cons _ e' _ c' hv' hr' hg' hc' =>
          cases hc'
          rw [hv] at hv'
          obtain ⟨u, hu, hiu⟩ := hv'.iface_inv
          have hui := hiu.of_isLeaf rfl
          subst hui
          have he' : e' = { v := .iface 107 (.int .i64 n), recovered := false } := by
            obtain ⟨v0, r0, g0⟩ := e'
            simp only at hu hr' hg'
            rw [hu, hr', hg', hr, hg]
          subst he'
          obtain ⟨w4, hrun, hs4, hb4⟩ := storeN_sim hs2 hob (LR.of_leaf (x := [.int .i64 n, .int .i64 0, .slice none 0 0]) rfl) hst
          refine leaves_cons (f := 33) (args := #[.pointer (some ⟨rb1, ro1 + 0, none⟩)]) (by simp) (by kernel_rfl) ?_
          refine (catch_panicking _ n _ _ hrun).mono ?_
          rintro e1 u' w' ⟨rfl, rfl, rfl⟩
          obtain ⟨v', hl, hvr⟩ := loadA_sim hs4 (VR.ptr (o := 0) hob) hload
          refine ⟨v', res15 ht hl, m2, hm2, hs4, hbl.trans hb4, hvr⟩
      · cases h

theorem fin_ret {l' : List Value} {s3 : S} (ht : tmps.getD 2 undef = .pointer (some ⟨rb1, ro1 + 0, none⟩)) (hm2 : m.le m2) (hob : m2 ob = some (rb1, ro1, z1)) (hs3 : SR Tryz.prog ok m2 B s3 w3) (hbl : Below B w w3)
    (hload : loadA Tryz.prog s3 48 (.pointer (some ⟨ob, 0, none⟩)) = some (.agg ⟨l'⟩)) :
    _root_.Go.Leaves Tryz.prog Tryz.f15 tmps (CallR Tryz.prog ok B m w (.ret (.agg ⟨l'⟩)) s3) [{ target := .fn (.func 33) #[.pointer (some ⟨rb1, ro1 + 0, none⟩)], args := #[] }] .returning w3 := by
  refine leaves_cons (f := 33) (args := #[.pointer (some ⟨rb1, ro1 + 0, none⟩)]) (by simp) (by kernel_rfl) ?_
  refine (catch_idle _ _).mono ?_
  rintro e1 u' w' ⟨rfl, rfl, rfl⟩
  obtain ⟨v', hlr, hvr⟩ := loadA_sim hs3 (VR.ptr (o := 0) hob) hload
  exact ⟨v', res15 ht hlr, m2, hm2, hs3, hbl, hvr⟩
end

set_option maxRecDepth 20000 in
theorem judge_calls {ok : Cx} {B : Nat} (hP : ProgOK Tryz.prog ok) {e : Ev} (he : Sound Tryz.prog ok B e) {m : Mu} {w : World} {s s1 s' : S} {b o : Nat} {v' : Value} {r : CRes}
    (hs : SR Tryz.prog ok m B s w) (hB : B ≤ w.heap.size) (hp : VR m (.pointer (some ⟨b, o, none⟩)) v') (h1 : store1 (s.new (.cells zeroJ false)) b o (.int .i64 (-1)) = some s1)
    (h : (match stepCall Tryz.prog Ext.none e 34 [.pointer (some ⟨b, o, none⟩)] s1 with
        | some (.ret _, s2) => judgeRes 107 b o s.next (stepCall Tryz.prog Ext.none e 35 [.pointer (some ⟨b, o, none⟩)] s2)
        | r => judgeRes 107 b o s.next r) = some (r, s')) :
    Calls Tryz.prog 15 #[v'] w (CallR Tryz.prog ok B m w r s') := by
  obtain ⟨b', o', rb, ro, z, hab, hmb, rfl⟩ := hp.ptr_inv
  cases hab
  refine calls_of_wp_defers Tryz.func15 rfl ?_
  simp only [Tryz.ntmps15, List.size_toArray, List.length_cons, List.length_nil, Nat.reduceAdd, Nat.reduceSub, Array.replicate_succ,
     Array.replicate_zero, List.push_toArray, List.append_toArray, List.nil_append, List.cons_append]
  -- the result's cell
  refine wp_seq (wp_region ?_)
  obtain ⟨m1, v1, w1, nx, hr, hnx, hm1, hv1, hs1, hb1⟩ := exec1_sim (ρ := fun _ => undef) (ρ' := fun _ => undef) (o := ⟨some 2, .alloc 48, 0, "observer.go:162", #[], none⟩) hs hB (by intro x hx; simp [Op.operands] at hx)
    (show exec1 Tryz.prog (fun _ => undef) s (.alloc 48) = some (.pointer (some ⟨s.next, 0, none⟩), s.new (.cells zeroJ false)) by kernel_rfl)
  obtain ⟨bo, oo, rb1, ro1, z1, hbo, hmo, rfl⟩ := hv1.ptr_inv
  cases hbo
  have hnx : nx = .value (.pointer (some ⟨rb1, ro1 + 0, none⟩)) := by
    rcases hnx with h | ⟨_, h⟩
    · exact h
    · cases h
  subst hnx
  refine wpOps_val (w' := w1) rfl rfl hr ?_
  simp only [Exit.then, wpOps, Act.put, List.getElem_toArray, List.getElem_cons_zero, List.setIfInBounds_toArray, List.set_cons_succ, List.set_cons_zero]
  -- the closure is deferred
  refine wp_seq (wp_region ?_)
  refine wpOps_val (w' := w1) (v := .func (.func 33) #[] #[.pointer (some ⟨rb1, ro1 + 0, none⟩)]) rfl rfl (by kernel_rfl) ?_
  refine wpOps_defer (w' := w1) (d := { target := .fn (.func 33) #[.pointer (some ⟨rb1, ro1 + 0, none⟩)], args := #[] }) rfl rfl (by kernel_rfl) ?_
  simp only [Exit.then, wpOps, Act.put, List.getElem_toArray, List.getElem_cons_zero, List.getElem_cons_succ, List.setIfInBounds_toArray, List.set_cons_succ, List.set_cons_zero]
  -- nothing wrong yet
  have hst : storeA Tryz.prog (s.new (.cells zeroJ false)) 3 (.pointer (some ⟨b, o, none⟩)) (.int .i64 (-1)) = some s1 :=
    Eq.trans (b := store1 (s.new (.cells zeroJ false)) b o (.int .i64 (-1))) (by kernel_rfl) h1
  have hmb1 : m1 b = some (rb, ro, z) := hm1 _ _ hmb
  obtain ⟨w2, hr2, hs2, hb2⟩ := storeA_sim hs1 (VR.ptr (o := o) hmb1) (.leaf rfl) hst
  refine wp_seq (wp_region ?_)
  refine wpOps_val (w' := w1) (v := .pointer (some ⟨rb, ro + o, none⟩)) rfl rfl (by kernel_rfl) ?_
  refine wpOps_val (w' := w1) (v := .pointer (some ⟨rb, ro + o, none⟩)) rfl rfl (by kernel_rfl) ?_
  refine wpOps_val (w' := w1) (v := .pointer (some ⟨rb, ro + o, none⟩)) rfl rfl (by kernel_rfl) ?_
  refine wpOps_val (w' := w1) (v := .pointer (some ⟨rb, ro + o, none⟩)) rfl rfl (by kernel_rfl) ?_
  refine wpOps_skip (w' := w2) rfl rfl (Eq.trans (b := Sem.run Tryz.prog (Instr.storeAt 3 (.pointer (some ⟨rb, ro + o, none⟩)) (.int .i64 (-1)) >>= fun _ => pure Next.skip) w1) (by kernel_rfl) (by rw [Sem.run_bind, hr2]; rfl)) ?_
  simp only [Exit.then, wpOps, Act.put, List.getElem_toArray, List.getElem_cons_zero, List.getElem_cons_succ, List.setIfInBounds_toArray, List.set_cons_succ, List.set_cons_zero]
  have hB2 : B ≤ w2.heap.size := Nat.le_trans hB (Nat.le_trans hb1.size hb2.size)
  have hbl2 : Below B w w2 := hb1.trans hb2
  -- the two calls
  have hpan : ∀ {m3 : Mu} {w4 : World} {s4 : S} {ch ch' : List PanicEntry} {tmps : Array Value}, m1.le m3 → SR Tryz.prog ok m3 B s4 w4 → Below B w2 w4 → ChainR m3 ch ch' → judgeRes 107 b o s.next (some (.pan ch, s4)) = some (r, s') →
      tmps.getD 2 undef = .pointer (some ⟨rb1, ro1 + 0, none⟩) →
      _root_.Go.Leaves Tryz.prog Tryz.f15 tmps (CallR Tryz.prog ok B m w r s') [{ target := .fn (.func 33) #[.pointer (some ⟨rb1, ro1 + 0, none⟩)], args := #[] }] (.panicking ch') w4 :=
    fun hm3 hs4 hb4 hch hj ht => fin_panic ht (hm1.trans hm3) (hm3 _ _ hmo) hs4 (hbl2.trans hb4) hch hj
  refine wp_seq (wp_region ?_)
  refine wpOps_val (w' := w2) (v := .pointer (some ⟨rb, ro + o, none⟩)) rfl rfl (by kernel_rfl) ?_
  cases h34 : stepCall Tryz.prog Ext.none e 34 [.pointer (some ⟨b, o, none⟩)] s1 with
  | none => rw [h34] at h; simp [judgeRes] at h
  | some x =>
    obtain ⟨r1, s2⟩ := x
    rw [h34] at h
    have hc34 := calls_of_step hP he h34 (args' := #[.pointer (some ⟨rb, ro + o, none⟩)]) hs2 hB2 (LR.one (VR.ptr hmb1))
    refine wpOps_enter (f := 34) (args := #[.pointer (some ⟨rb, ro + o, none⟩)]) (w' := w2) rfl rfl (by kernel_rfl) hc34 ?_ ?_ ?_
    rotate_left 1
    · rintro ch w4 ⟨m3, hm3, hs4, hb4, hend⟩
      cases r1 with
      | ret v => exact hend.elim
      | pan ch1 => exact hpan hm3 hs4 hb4 hend h (by kernel_rfl)
    · rintro w4 ⟨m3, hm3, hs4, hb4, hend⟩
      cases r1 <;> exact hend.elim
    · rintro v3 w4 ⟨m3, hm3, hs4, hb4, hend⟩
      cases r1 with
      | pan ch1 => exact hend.elim
      | ret v0 =>
        simp only at h
        simp only [Exit.then, wpOps, Act.put, List.getElem_toArray, List.getElem_cons_zero, List.getElem_cons_succ, List.setIfInBounds_toArray, List.set_cons_succ, List.set_cons_zero]
        have hB4 : B ≤ w4.heap.size := Nat.le_trans hB2 hb4.size
        have hmb3 : m3 b = some (rb, ro, z) := hm3 _ _ hmb1
        refine wp_seq (wp_region ?_)
        refine wpOps_val (w' := w4) (v := .pointer (some ⟨rb, ro + o, none⟩)) rfl rfl (by kernel_rfl) ?_
        cases h35 : stepCall Tryz.prog Ext.none e 35 [.pointer (some ⟨b, o, none⟩)] s2 with
        | none => rw [h35] at h; simp [judgeRes] at h
        | some x =>
          obtain ⟨r2, s3⟩ := x
          rw [h35] at h
          have hc35 := calls_of_step hP he h35 (args' := #[.pointer (some ⟨rb, ro + o, none⟩)]) hs4 hB4 (LR.one (VR.ptr hmb3))
          refine wpOps_enter (f := 35) (args := #[.pointer (some ⟨rb, ro + o, none⟩)]) (w' := w4) rfl rfl (by kernel_rfl) hc35 ?_ ?_ ?_
          rotate_left 1
          · rintro ch w5 ⟨m4, hm4, hs5, hb5, hend⟩
            cases r2 with
            | ret v => exact hend.elim
            | pan ch1 => exact hpan (hm3.trans hm4) hs5 (hb4.trans hb5) hend h (by kernel_rfl)
          · rintro w5 ⟨m4, hm4, hs5, hb5, hend⟩
            cases r2 <;> exact hend.elim
          · rintro v5 w5 ⟨m4, hm4, hs5, hb5, hend⟩
            cases r2 with
            | pan ch1 => exact hend.elim
            | ret v1 =>
              simp only [judgeRes] at h
              split at h
              · rename_i l hl
                obtain ⟨hst5, l', rfl, hload⟩ := layJ_load h
                simp only [Exit.then, wpOps, Act.put, List.getElem_toArray, List.getElem_cons_zero, List.getElem_cons_succ, List.setIfInBounds_toArray, List.set_cons_succ, List.set_cons_zero]
                have hmb4 : m4 b = some (rb, ro, z) := hm4 _ _ hmb3
                have hmo4 : m4 s.next = some (rb1, ro1, z1) := hm4 _ _ (hm3 _ _ hmo)
                have hl5 : loadA Tryz.prog s3 48 (.pointer (some ⟨b, o, none⟩)) = some (.agg ⟨l⟩) := by
                  have e1 : known Tryz.prog 48 = true := by kernel_rfl
                  have e2 : aggB Tryz.prog 48 = true := by kernel_rfl
                  have e3 : szOf Tryz.prog 48 = 3 := by kernel_rfl
                  unfold loadA
                  simp only [e1, e2, e3, cond_true, hl]
                obtain ⟨v6, hr6, hv6⟩ := loadA_sim hs5 (VR.ptr (o := o) hmb4) hl5
                have hst6 : storeA Tryz.prog s3 48 (.pointer (some ⟨s.next, 0, none⟩)) (.agg ⟨l⟩) = some s' := by
                  have e1 : known Tryz.prog 48 = true := by kernel_rfl
                  have e2 : aggB Tryz.prog 48 = true := by kernel_rfl
                  have e3 : szOf Tryz.prog 48 = 3 := by kernel_rfl
                  have e4 : l.length = 3 := (loadN_sim hs5 hmb4 hl).choose_spec.2.1
                  unfold storeA
                  simp only [e1, e2, e3, cond_true, e4]
                  exact hst5
                obtain ⟨w6, hr7, hs6, hb6⟩ := storeA_sim hs5 (VR.ptr (o := 0) hmo4) hv6 hst6
                refine wp_seq (wp_region ?_)
                refine wpOps_val (w' := w5) (v := .pointer (some ⟨rb, ro + o, none⟩)) rfl rfl (by kernel_rfl) ?_
                refine wpOps_val (w' := w5) (v := .pointer (some ⟨rb, ro + o, none⟩)) rfl rfl (by kernel_rfl) ?_
                refine wpOps_val (w' := w5) (v := .pointer (some ⟨rb, ro + o, none⟩)) rfl rfl (by kernel_rfl) ?_
                refine wpOps_val (w' := w5) (v := v6) rfl rfl (Eq.trans (b := Sem.run Tryz.prog (Instr.loadAt 48 (.pointer (some ⟨rb, ro + o, none⟩)) >>= fun v => pure (Next.value v)) w5) (by kernel_rfl) (by rw [Sem.run_bind, hr6]; rfl)) ?_
                refine wpOps_skip (w' := w6) rfl rfl (Eq.trans (b := Sem.run Tryz.prog (Instr.storeAt 48 (.pointer (some ⟨rb1, ro1 + 0, none⟩)) v6 >>= fun _ => pure Next.skip) w5) (by kernel_rfl) (by rw [Sem.run_bind, hr7]; rfl)) ?_
                simp only [Exit.then, wpOps, Act.put, List.getElem_toArray, List.getElem_cons_zero, List.getElem_cons_succ, List.setIfInBounds_toArray, List.set_cons_succ, List.set_cons_zero]
                refine wp_ret ?_
                exact fin_ret (by kernel_rfl) (hm1.trans (hm3.trans hm4)) hmo4 hs6 (hbl2.trans (hb4.trans (hb5.trans hb6))) hload
              · cases h

theorem extAll_judge (hP : ∀ ok : Cx, ok.ok = okC Tryz.prog → ProgOK Tryz.prog ok) : ExtAll Tryz.prog (judgeHook Tryz.prog 15 34 35 107) := by
  intro B e he f args s r s' h ok hok m w args' hs hB ha
  unfold judgeHook at h
  obtain ⟨hff, h3⟩ := cond_some h
  clear h
  have := Nat.eq_of_beq_eq_true hff
  subst this
  split at h3
  · rename_i b o
    obtain ⟨v1, r1, e1, hv1, ha⟩ := ha.cons_inv
    have := ha.nil_inv
    subst this
    have ea : args' = #[v1] := by apply Array.ext'; simpa using e1
    subst ea
    split at h3
    · rename_i s1 h1
      exact inv_of_calls (hP ok hok) Tryz.func15 rfl (judge_calls (hP ok hok) (he ok hok) hs hB hv1 h1 h3)
    · cases h3
  · cases h3
end Go.Sv
