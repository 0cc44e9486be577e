/- The same evaluator, compiled ahead, and its soundness: theorem soundK. -/
import Derived.Test.YteialihbechmoaaGreatDoorE01
import Derived.Test.YteialihbechmoaaGreatDoorE05

/- Closures: operands, temporaries and memory, compiled ahead. -/
namespace Go.Sv
noncomputable section

/-! ### Closures -/

inductive Clo (α : Type) where
  | mk (f : α)
def Clo.run {α : Type} : Clo α → α
  | .mk f => f
@[simp] theorem Clo.run_mk {α : Type} (f : α) : (Clo.mk f).run = f := rfl
theorem Clo.eta {α : Type} (c : Clo α) : c = .mk c.run := by cases c; rfl

/-! ### Taking values apart -/

def intV (v : Value) (f : IntKind → Int → Option Value) : Option Value :=
  @Value.rec (fun _ => Option Value) (fun _ => PUnit) (fun _ => PUnit) (fun _ => none) f (fun _ _ => none) (fun _ _ _ => none) (fun _ => none) (fun _ => none) (fun _ _ _ => none) (fun _ => none) (fun _ => none) (fun _ _ _ _ _ => none) none (fun _ _ _ => none) none (fun _ _ => none) (fun _ _ => none) (fun _ _ => .unit) .unit (fun _ _ _ _ => .unit) v
theorem intV_eq (v : Value) (f : IntKind → Int → Option Value) : intV v f = (match v with | .int k n => f k n | _ => none) := by
  cases v <;> rfl
def boolV (v : Value) (f : Bool → Option Value) : Option Value :=
  @Value.rec (fun _ => Option Value) (fun _ => PUnit) (fun _ => PUnit) f (fun _ _ => none) (fun _ _ => none) (fun _ _ _ => none) (fun _ => none) (fun _ => none) (fun _ _ _ => none) (fun _ => none) (fun _ => none) (fun _ _ _ _ _ => none) none (fun _ _ _ => none) none (fun _ _ => none) (fun _ _ => none) (fun _ _ => .unit) .unit (fun _ _ _ _ => .unit) v
theorem boolV_eq (v : Value) (f : Bool → Option Value) : boolV v f = (match v with | .bool b => f b | _ => none) := by
  cases v <;> rfl
def ptrV (v : Value) (f : Nat → Nat → Option Value) : Option Value :=
  @Value.rec (fun _ => Option Value) (fun _ => PUnit) (fun _ => PUnit) (fun _ => none) (fun _ _ => none) (fun _ _ => none) (fun _ _ _ => none) (fun _ => none) (fun a => Option.rec none (fun a => Addr.rec (fun b o q => Option.rec (f b o) (fun _ => none) q) a) a) (fun _ _ _ => none) (fun _ => none) (fun _ => none) (fun _ _ _ _ _ => none) none (fun _ _ _ => none) none (fun _ _ => none) (fun _ _ => none) (fun _ _ => .unit) .unit (fun _ _ _ _ => .unit) v
theorem ptrV_eq (v : Value) (f : Nat → Nat → Option Value) : ptrV v f = (match v with | .pointer (some ⟨b, o, none⟩) => f b o | _ => none) := by
  cases v <;> try rfl
  rename_i a
  rcases a with _ | ⟨b, o, _ | q⟩ <;> rfl
def sliceV (v : Value) (f : Nat → Nat → Nat → Option Value) : Option Value :=
  @Value.rec (fun _ => Option Value) (fun _ => PUnit) (fun _ => PUnit) (fun _ => none) (fun _ _ => none) (fun _ _ => none) (fun _ _ _ => none) (fun _ => none) (fun _ => none) (fun a len _ => Option.rec none (fun a => Addr.rec (fun b o q => Option.rec (f b o len) (fun _ => none) q) a) a) (fun _ => none) (fun _ => none) (fun _ _ _ _ _ => none) none (fun _ _ _ => none) none (fun _ _ => none) (fun _ _ => none) (fun _ _ => .unit) .unit (fun _ _ _ _ => .unit) v
theorem sliceV_eq (v : Value) (f : Nat → Nat → Nat → Option Value) : sliceV v f = (match v with | .slice (some ⟨b, o, none⟩) len _ => f b o len | _ => none) := by
  cases v <;> try rfl
  rename_i a len cap
  rcases a with _ | ⟨b, o, _ | q⟩ <;> rfl
def lenV (v : Value) (f : Nat → Option Value) : Option Value :=
  @Value.rec (fun _ => Option Value) (fun _ => PUnit) (fun _ => PUnit) (fun _ => none) (fun _ _ => none) (fun _ _ => none) (fun _ _ _ => none) (fun _ => none) (fun _ => none) (fun _ n _ => f n) (fun _ => none) (fun _ => none) (fun _ _ _ _ _ => none) none (fun _ _ _ => none) none (fun _ _ => none) (fun _ _ => none) (fun _ _ => .unit) .unit (fun _ _ _ _ => .unit) v
theorem lenV_eq (v : Value) (f : Nat → Option Value) : lenV v f = (match v with | .slice _ n _ => f n | _ => none) := by
  cases v <;> rfl
def tupV (v : Value) (f : Array Value → Option Value) : Option Value :=
  @Value.rec (fun _ => Option Value) (fun _ => PUnit) (fun _ => PUnit) (fun _ => none) (fun _ _ => none) (fun _ _ => none) (fun _ _ _ => none) (fun _ => none) (fun _ => none) (fun _ _ _ => none) (fun _ => none) (fun _ => none) (fun _ _ _ _ _ => none) none (fun _ _ _ => none) none (fun _ _ => none) (fun vs _ => f vs) (fun _ _ => .unit) .unit (fun _ _ _ _ => .unit) v
theorem tupV_eq (v : Value) (f : Array Value → Option Value) : tupV v f = (match v with | .tuple vs => f vs | _ => none) := by
  cases v <;> rfl
def ptrO (v : Value) (f : Nat → Nat → Option ORes) : Option ORes :=
  @Value.rec (fun _ => Option ORes) (fun _ => PUnit) (fun _ => PUnit) (fun _ => none) (fun _ _ => none) (fun _ _ => none) (fun _ _ _ => none) (fun _ => none) (fun a => Option.rec none (fun a => Addr.rec (fun b o q => Option.rec (f b o) (fun _ => none) q) a) a) (fun _ _ _ => none) (fun _ => none) (fun _ => none) (fun _ _ _ _ _ => none) none (fun _ _ _ => none) none (fun _ _ => none) (fun _ _ => none) (fun _ _ => .unit) .unit (fun _ _ _ _ => .unit) v
theorem ptrO_eq (v : Value) (f : Nat → Nat → Option ORes) : ptrO v f = (match v with | .pointer (some ⟨b, o, none⟩) => f b o | _ => none) := by
  cases v <;> try rfl
  rename_i a
  rcases a with _ | ⟨b, o, _ | q⟩ <;> rfl
def aggO2 (v : Value) (f : Array Value → Option ORes) : Option ORes :=
  @Value.rec (fun _ => Option ORes) (fun _ => PUnit) (fun _ => PUnit) (fun _ => none) (fun _ _ => none) (fun _ _ => none) (fun _ _ _ => none) (fun _ => none) (fun _ => none) (fun _ _ _ => none) (fun _ => none) (fun _ => none) (fun _ _ _ _ _ => none) none (fun _ _ _ => none) none (fun x _ => f x) (fun _ _ => none) (fun _ _ => .unit) .unit (fun _ _ _ _ => .unit) v
theorem aggO2_eq (v : Value) (f : Array Value → Option ORes) : aggO2 v f = (match v with | .agg x => f x | _ => none) := by
  cases v <;> rfl
def boolC (v : Value) (f : Bool → Option (Exit × Fr × S)) : Option (Exit × Fr × S) :=
  @Value.rec (fun _ => Option (Exit × Fr × S)) (fun _ => PUnit) (fun _ => PUnit) f (fun _ _ => none) (fun _ _ => none) (fun _ _ _ => none) (fun _ => none) (fun _ => none) (fun _ _ _ => none) (fun _ => none) (fun _ => none) (fun _ _ _ _ _ => none) none (fun _ _ _ => none) none (fun _ _ => none) (fun _ _ => none) (fun _ _ => .unit) .unit (fun _ _ _ _ => .unit) v
theorem boolC_eq (v : Value) (f : Bool → Option (Exit × Fr × S)) : boolC v f = (match v with | .bool b => f b | _ => none) := by
  cases v <;> rfl
def isIntB (v : Value) : Bool :=
  @Value.rec (fun _ => Bool) (fun _ => PUnit) (fun _ => PUnit) (fun _ => false) (fun _ _ => true) (fun _ _ => false) (fun _ _ _ => false) (fun _ => false) (fun _ => false) (fun _ _ _ => false) (fun _ => false) (fun _ => false) (fun _ _ _ _ _ => false) false (fun _ _ _ => false) false (fun _ _ => false) (fun _ _ => false) (fun _ _ => .unit) .unit (fun _ _ _ _ => .unit) v
def isBoolB (v : Value) : Bool :=
  @Value.rec (fun _ => Bool) (fun _ => PUnit) (fun _ => PUnit) (fun _ => true) (fun _ _ => false) (fun _ _ => false) (fun _ _ _ => false) (fun _ => false) (fun _ => false) (fun _ _ _ => false) (fun _ => false) (fun _ => false) (fun _ _ _ _ _ => false) false (fun _ _ _ => false) false (fun _ _ => false) (fun _ _ => false) (fun _ _ => .unit) .unit (fun _ _ _ _ => .unit) v
def isPtrB (v : Value) : Bool :=
  @Value.rec (fun _ => Bool) (fun _ => PUnit) (fun _ => PUnit) (fun _ => false) (fun _ _ => false) (fun _ _ => false) (fun _ _ _ => false) (fun _ => false) (fun a => Option.rec false (fun _ => true) a) (fun _ _ _ => false) (fun _ => false) (fun _ => false) (fun _ _ _ _ _ => false) false (fun _ _ _ => false) false (fun _ _ => false) (fun _ _ => false) (fun _ _ => .unit) .unit (fun _ _ _ _ => .unit) v

/-- What an operand stands for, by the temporaries alone. -/
def evE (env : M Value) : Operand → Value
  | .tmp t => envLook env t
  | .const v => v
  | .global g => .pointer (some ⟨g, 0, none⟩)
  | .func f => .func (.func f) #[] #[]
theorem ev_evE (fr : Fr) : fr.ev = evE fr.env := by
  funext x; cases x <;> rfl

def lookT (t : Tr Value) (k : Nat) : Value :=
  match t.get k with
  | some v => v
  | none => undef

def topT (o : Option Value) : Value := Option.rec undef (fun v => v) o

def getC : Nat → Nat → Clo (Tr Value → Value)
  | 0, _ => .mk fun _ => undef
  | f + 1, k =>
    bif Nat.beq k 0 then .mk (fun t => Tr.rec (motive := fun _ => Value) undef (fun o _ _ _ _ _ _ _ _ => topT o) t) else
      match getC f ((k - 1) / 4) with
      | .mk g => pick4 ((k - 1) % 4) (.mk (fun t => Tr.rec (motive := fun _ => Value) undef (fun _ a _ _ _ _ _ _ _ => g a) t))
          (.mk (fun t => Tr.rec (motive := fun _ => Value) undef (fun _ _ b _ _ _ _ _ _ => g b) t))
          (.mk (fun t => Tr.rec (motive := fun _ => Value) undef (fun _ _ _ c _ _ _ _ _ => g c) t))
          (.mk (fun t => Tr.rec (motive := fun _ => Value) undef (fun _ _ _ _ d _ _ _ _ => g d) t))

theorem getC_run : ∀ (f k : Nat) (t : Tr Value), k < f → (getC f k).run t = lookT t k
  | 0, _, _, h => by omega
  | f + 1, k, t, h => by
    unfold getC
    by_cases hk : k = 0
    · subst hk
      cases t with
      | leaf => rfl
      | node o a b c d => cases o <;> rfl
    · have hb : Nat.beq k 0 = false := by rw [nat_beq]; simpa using hk
      rw [hb, cond_false, Clo.eta (getC f ((k - 1) / 4))]
      have ih := fun u => getC_run f ((k - 1) / 4) u (by omega)
      simp only
      cases t with
      | leaf =>
        have : lookT Tr.leaf k = undef := rfl
        rw [this]
        have h4 : (k - 1) % 4 = 0 ∨ (k - 1) % 4 = 1 ∨ (k - 1) % 4 = 2 ∨ (k - 1) % 4 = 3 := by omega
        rcases h4 with h4 | h4 | h4 | h4 <;> rw [h4] <;> rfl
      | node o a b c d =>
        have : lookT (Tr.node o a b c d) k = pick4 ((k - 1) % 4) (lookT a ((k - 1) / 4)) (lookT b ((k - 1) / 4)) (lookT c ((k - 1) / 4)) (lookT d ((k - 1) / 4)) := by
          have h4 : (k - 1) % 4 = 0 ∨ (k - 1) % 4 = 1 ∨ (k - 1) % 4 = 2 ∨ (k - 1) % 4 = 3 := by omega
          unfold lookT
          rw [Tr.get, hb, cond_false]
          rcases h4 with h4 | h4 | h4 | h4 <;> rw [h4] <;> rfl
        rw [this]
        have h4 : (k - 1) % 4 = 0 ∨ (k - 1) % 4 = 1 ∨ (k - 1) % 4 = 2 ∨ (k - 1) % 4 = 3 := by omega
        rcases h4 with h4 | h4 | h4 | h4 <;> rw [h4] <;> exact ih _

def opdC : Operand → Clo (M Value → Value)
  | .tmp t => getC (t + 1) t
  | .const v => .mk fun _ => v
  | .global g => .mk fun _ => .pointer (some ⟨g, 0, none⟩)
  | .func f => .mk fun _ => .func (.func f) #[] #[]
theorem opdC_run (x : Operand) (env : M Value) : (opdC x).run env = evE env x := by
  cases x with
  | tmp t => exact getC_run (t + 1) t env (Nat.lt_succ_self t)
  | _ => rfl

def putC : Nat → Nat → Clo (Tr Value → Value → Tr Value)
  | 0, _ => .mk fun t _ => t
  | f + 1, k =>
    bif Nat.beq k 0 then .mk (fun t v => Tr.rec (motive := fun _ => Tr Value) (.node (some v) .leaf .leaf .leaf .leaf) (fun _ a b c d _ _ _ _ => .node (some v) a b c d) t) else
      match putC f ((k - 1) / 4) with
      | .mk g => pick4 ((k - 1) % 4)
          (.mk (fun t v => Tr.rec (motive := fun _ => Tr Value) (.node none (g .leaf v) .leaf .leaf .leaf) (fun o a b c d _ _ _ _ => .node o (g a v) b c d) t))
          (.mk (fun t v => Tr.rec (motive := fun _ => Tr Value) (.node none .leaf (g .leaf v) .leaf .leaf) (fun o a b c d _ _ _ _ => .node o a (g b v) c d) t))
          (.mk (fun t v => Tr.rec (motive := fun _ => Tr Value) (.node none .leaf .leaf (g .leaf v) .leaf) (fun o a b c d _ _ _ _ => .node o a b (g c v) d) t))
          (.mk (fun t v => Tr.rec (motive := fun _ => Tr Value) (.node none .leaf .leaf .leaf (g .leaf v)) (fun o a b c d _ _ _ _ => .node o a b c (g d v)) t))

theorem putC_run : ∀ (f k : Nat) (t : Tr Value) (v : Value), (putC f k).run t v = Tr.set f t k (some v)
  | 0, _, _, _ => rfl
  | f + 1, k, t, v => by
    unfold putC Tr.set
    by_cases hk : k = 0
    · subst hk
      cases t <;> rfl
    · have hb : Nat.beq k 0 = false := by rw [nat_beq]; simpa using hk
      rw [hb, cond_false, cond_false, Clo.eta (putC f ((k - 1) / 4))]
      have ih := fun u => putC_run f ((k - 1) / 4) u v
      simp only
      have h4 : (k - 1) % 4 = 0 ∨ (k - 1) % 4 = 1 ∨ (k - 1) % 4 = 2 ∨ (k - 1) % 4 = 3 := by omega
      rcases h4 with h4 | h4 | h4 | h4 <;> rw [h4] <;> cases t <;> simp only [pick4_0, pick4_1, pick4_2, pick4_3, Clo.run_mk, ih, Tr.top, Tr.ka, Tr.kb, Tr.kc, Tr.kd]

def bf {α : Type} (b : Bool) (x y : α) : α := Bool.rec y x b
theorem bf_eq {α : Type} (b : Bool) (x y : α) : bf b x y = bif b then x else y := by cases b <;> rfl

def putE (d : Nat) : Clo (M Value → Value → M Value) := putC (d + 1) d
theorem putE_run (d : Nat) (env : M Value) (v : Value) : (putE d).run env v = env.set d (some v) := putC_run (d + 1) d env v
def dstC : Option Tmp → Clo (Nat → M Value → Value → M Value)
  | none => .mk fun _ env _ => env
  | some d => match putE d with
    | .mk p => .mk fun n env v => bf (Nat.ble (d + 1) n) (p env v) env
theorem dstC_run (dst : Option Tmp) (fr : Fr) (env : M Value) (v : Value) : (dstC dst).run fr.n env v = (Fr.put { fr with env := env } dst v).env := by
  cases dst with
  | none => rfl
  | some d =>
    simp only [dstC]
    rw [Clo.eta (putE d)]
    simp only [Clo.run_mk, Fr.put, bf_eq, envPut, Nat.blt, putE_run]

/-! ### Memory -/

def sel4 {β : Type} (i : Nat) (x0 x1 x2 x3 : β) : β := Nat.rec x0 (fun i _ => Nat.rec x1 (fun i _ => Nat.rec x2 (fun _ _ => x3) i) i) i
theorem sel4_eq {β : Type} (i : Nat) (x0 x1 x2 x3 : β) : sel4 i x0 x1 x2 x3 = pick4 i x0 x1 x2 x3 := by
  match i with
  | 0 | 1 | 2 => rfl
  | i + 3 =>
    show x3 = _
    unfold pick4
    rw [nat_beq, nat_beq, nat_beq]
    simp

def getR {α : Type} (t : Tr α) : Nat → Option α :=
  Tr.rec (motive := fun _ => Nat → Option α) (fun _ => none)
    (fun v _ _ _ _ ga gb gc gd k => Nat.rec (motive := fun _ => Option α) v (fun j _ => sel4 (Nat.mod j 4) (ga (Nat.div j 4)) (gb (Nat.div j 4)) (gc (Nat.div j 4)) (gd (Nat.div j 4))) k) t
theorem getR_eq {α : Type} : ∀ (t : Tr α) (k : Nat), getR t k = Tr.get t k
  | .leaf, _ => rfl
  | .node v a b c d, 0 => rfl
  | .node v a b c d, k + 1 => by
    have e : getR (.node v a b c d) (k + 1) = sel4 (Nat.mod k 4) (getR a (Nat.div k 4)) (getR b (Nat.div k 4)) (getR c (Nat.div k 4)) (getR d (Nat.div k 4)) := rfl
    rw [e, sel4_eq, getR_eq a, getR_eq b, getR_eq c, getR_eq d]
    rfl

def setR {α : Type} (t : Tr α) (f0 : Nat) (x : Option α) : Nat → Tr α :=
  Tr.rec (motive := fun _ => Nat → Tr α) (fun k => Tr.set f0 .leaf k x)
    (fun v a b c d sa sb sc sd k => Nat.rec (motive := fun _ => Tr α) (.node x a b c d)
      (fun j _ => sel4 (Nat.mod j 4) (.node v (sa (Nat.div j 4)) b c d) (.node v a (sb (Nat.div j 4)) c d) (.node v a b (sc (Nat.div j 4)) d) (.node v a b c (sd (Nat.div j 4)))) k) t
theorem set_fuel {α : Type} : ∀ (f g : Nat) (t : Tr α) (k : Nat) (x : Option α), k < f → k < g → Tr.set f t k x = Tr.set g t k x
  | 0, _, _, _, _, h, _ => by omega
  | _, 0, _, _, _, _, h => by omega
  | f + 1, g + 1, t, k, x, hf, hg => by
    unfold Tr.set
    by_cases hk : k = 0
    · subst hk; rfl
    · have hb : Nat.beq k 0 = false := by rw [nat_beq]; simpa using hk
      rw [hb, cond_false, cond_false]
      have ih := fun u => set_fuel f g u ((k - 1) / 4) x (by omega) (by omega)
      rw [ih, ih, ih, ih]
theorem setR_eq {α : Type} (f0 : Nat) (x : Option α) : ∀ (t : Tr α) (k : Nat), k < f0 → setR t f0 x k = Tr.set f0 t k x
  | .leaf, _, _ => rfl
  | .node v a b c d, 0, h => by
    obtain ⟨f, rfl⟩ : ∃ f, f0 = f + 1 := ⟨f0 - 1, by omega⟩
    rfl
  | .node v a b c d, k + 1, h => by
    obtain ⟨f, rfl⟩ : ∃ f, f0 = f + 1 := ⟨f0 - 1, by omega⟩
    have e : setR (.node v a b c d) (f + 1) x (k + 1) = sel4 (Nat.mod k 4) (.node v (setR a (f + 1) x (Nat.div k 4)) b c d) (.node v a (setR b (f + 1) x (Nat.div k 4)) c d)
        (.node v a b (setR c (f + 1) x (Nat.div k 4)) d) (.node v a b c (setR d (f + 1) x (Nat.div k 4))) := rfl
    have hlt : k / 4 < f := by omega
    have ih := fun u => (setR_eq (f + 1) x u (k / 4) (by omega)).trans (set_fuel (f + 1) f u (k / 4) x (by omega) hlt)
    have hd : Nat.div k 4 = k / 4 := rfl
    rw [e, sel4_eq, hd, ih, ih, ih, ih]
    rw [Tr.set]
    have hb : Nat.beq (k + 1) 0 = false := rfl
    rw [hb, cond_false]
    rfl

def nthR {α : Type} (l : List α) : Nat → Option α :=
  List.rec (motive := fun _ => Nat → Option α) (fun _ => none) (fun a _ ih k => Nat.rec (motive := fun _ => Option α) (some a) (fun j _ => ih j) k) l
theorem nthR_eq {α : Type} : ∀ (l : List α) (k : Nat), nthR l k = l[k]?
  | [], _ => rfl
  | a :: l, 0 => rfl
  | a :: l, k + 1 => by
    have e : nthR (a :: l) (k + 1) = nthR l k := rfl
    rw [e, nthR_eq l k]; rfl

def setNth {α : Type} (x : α) (l : List α) : Nat → List α :=
  List.rec (motive := fun _ => Nat → List α) (fun _ => []) (fun a l ih k => Nat.rec (motive := fun _ => List α) (x :: l) (fun j _ => a :: ih j) k) l
theorem setNth_eq {α : Type} (x : α) : ∀ (l : List α) (k : Nat), setNth x l k = l.set k x
  | [], _ => rfl
  | a :: l, 0 => rfl
  | a :: l, k + 1 => by
    have e : setNth x (a :: l) (k + 1) = a :: setNth x l k := rfl
    rw [e, setNth_eq x l k]; rfl

/-- So many cells from the front; nothing if there are not so many. -/
def takeR {α : Type} (l : List α) : Nat → Option (List α) :=
  List.rec (motive := fun _ => Nat → Option (List α)) (fun k => Nat.rec (motive := fun _ => Option (List α)) (some []) (fun _ _ => none) k)
    (fun a _ ih k => Nat.rec (motive := fun _ => Option (List α)) (some []) (fun j _ => Option.rec none (fun r => some (a :: r)) (ih j)) k) l
theorem takeR_eq {α : Type} : ∀ (l : List α) (n : Nat), takeR l n = if n ≤ l.length then some (l.take n) else none
  | [], 0 => rfl
  | [], n + 1 => rfl
  | a :: l, 0 => rfl
  | a :: l, n + 1 => by
    have e : takeR (a :: l) (n + 1) = Option.rec (motive := fun _ => Option (List α)) none (fun r => some (a :: r)) (takeR l n) := rfl
    rw [e, takeR_eq l n]
    by_cases h : n ≤ l.length
    · rw [if_pos h, if_pos (by simpa using h)]; rfl
    · rw [if_neg h, if_neg (by simpa using h)]
def dropR {α : Type} (l : List α) (n : Nat) : List α :=
  Nat.rec (motive := fun _ => List α → List α) (fun l => l) (fun _ ih l => List.rec (motive := fun _ => List α) [] (fun _ r _ => ih r) l) n l
theorem dropR_eq {α : Type} : ∀ (n : Nat) (l : List α), dropR l n = l.drop n
  | 0, _ => rfl
  | n + 1, [] => rfl
  | n + 1, a :: l => by
    have e : dropR (a :: l) (n + 1) = dropR l n := rfl
    rw [e, dropR_eq n l]; rfl

def getM {α : Type} (m : M α) (k : Nat) : Option α := getR (α := α) m k
theorem getM_eq {α : Type} (m : M α) (k : Nat) : getM m k = m.get k := getR_eq (α := α) m k
def setM {α : Type} (m : M α) (k : Nat) (x : α) : M α := setR (α := α) m (Nat.succ k) (some x) k
theorem setM_eq {α : Type} (m : M α) (k : Nat) (x : α) : setM m k x = m.set k (some x) := setR_eq (α := α) (k + 1) (some x) m k (Nat.lt_succ_self k)

def getF (s : S) (b : Nat) : Option AO := S.rec (fun h _ _ => Option.rec none (fun x => some x.o) (getM h b)) s
theorem getF_eq (s : S) (b : Nat) : getF s b = s.get b := by
  obtain ⟨h, n, c⟩ := s
  show Option.rec (motive := fun _ => Option AO) none (fun x => some x.o) (getM h b) = _
  rw [getM_eq]
  unfold S.get
  cases M.get h b <;> rfl
def putF (s : S) (b : Nat) (o : AO) : S := S.rec (fun h n c => ⟨setM h b ⟨c, o⟩, n, Nat.add c 1⟩) s
theorem putF_eq (s : S) (b : Nat) (o : AO) : putF s b o = s.put b o := by
  obtain ⟨h, n, c⟩ := s
  show S.mk (setM h b ⟨c, o⟩) n (Nat.add c 1) = _
  rw [setM_eq]
  rfl
def newF (s : S) (o : AO) : S := S.rec (fun h n c => ⟨setM h n ⟨c, o⟩, Nat.add n 1, Nat.add c 1⟩) s
theorem newF_eq (s : S) (o : AO) : newF s o = s.new o := by
  obtain ⟨h, n, c⟩ := s
  show S.mk (setM h n ⟨c, o⟩) (Nat.add n 1) (Nat.add c 1) = _
  rw [setM_eq]
  rfl

/-- As many as said. -/
def eqLen {α : Type} (l : List α) : Nat → Bool :=
  List.rec (motive := fun _ => Nat → Bool) (fun k => Nat.rec (motive := fun _ => Bool) true (fun _ _ => false) k) (fun _ _ ih k => Nat.rec (motive := fun _ => Bool) false (fun j _ => ih j) k) l
theorem eqLen_eq {α : Type} : ∀ (l : List α) (n : Nat), eqLen l n = Nat.beq l.length n
  | [], 0 => rfl
  | [], n + 1 => rfl
  | _ :: l, 0 => rfl
  | a :: l, n + 1 => by
    have e : eqLen (a :: l) (n + 1) = eqLen l n := rfl
    rw [e, eqLen_eq l n]; rfl

def consO {α : Type} (a : α) (r : Option (List α)) : Option (List α) := Option.rec none (fun r => some (a :: r)) r
/-- 'vs' in the place of the first cells. -/
def replR {α : Type} (vs : List α) : List α → Option (List α) :=
  List.rec (motive := fun _ => List α → Option (List α)) (fun c => some c) (fun v _ ih c => List.rec (motive := fun _ => Option (List α)) none (fun _ c _ => consO v (ih c)) c) vs
theorem replR_eq {α : Type} : ∀ (vs c : List α), replR vs c = if vs.length ≤ c.length then some (vs ++ c.drop vs.length) else none
  | [], c => by simp only [List.length_nil, Nat.zero_le, if_true, List.nil_append, List.drop_zero]; rfl
  | v :: vs, [] => rfl
  | v :: vs, a :: c => by
    have e : replR (v :: vs) (a :: c) = consO v (replR vs c) := rfl
    rw [e, replR_eq vs c]
    by_cases h : vs.length ≤ c.length
    · rw [if_pos h, if_pos (by simpa using h)]; rfl
    · rw [if_neg h, if_neg (by simpa using h)]; rfl
def overF {α : Type} (vs : List α) (c : List α) (o : Nat) : Option (List α) :=
  Nat.rec (motive := fun _ => List α → Option (List α)) (fun c => replR vs c) (fun _ ih c => List.rec (motive := fun _ => Option (List α)) none (fun a c _ => consO a (ih c)) c) o c
theorem overF_eq : ∀ (o : Nat) (c vs : List Value), overF vs c o = if o + vs.length ≤ c.length then some (over c o vs) else none
  | 0, c, vs => by
    show replR vs c = _
    rw [replR_eq]
    simp only [Nat.zero_add, over, List.take_zero, List.nil_append]
  | o + 1, [], vs => by
    rw [if_neg (by simp)]; rfl
  | o + 1, a :: c, vs => by
    have e : overF vs (a :: c) (o + 1) = consO a (overF vs c o) := rfl
    rw [e, overF_eq o c vs]
    by_cases h : o + vs.length ≤ c.length
    · rw [if_pos h, if_pos (by simp; omega)]
      have : over (a :: c) (o + 1) vs = a :: over c o vs := by
        unfold over
        rw [show o + 1 + vs.length = (o + vs.length) + 1 by omega]
        rfl
      rw [this]; rfl
    · rw [if_neg h, if_neg (by simp; omega)]; rfl

def fillF (place : Nat → Option (Nat × Nat)) (cells : List Value) (parts : List (Nat × Value)) : Option (List Value) :=
  List.rec (motive := fun _ => List Value → Option (List Value)) (fun c => some c)
    (fun p _ ih c => match place p.1 with
      | none => none
      | some (off, size) => bf (eqLen p.2.cells.toList size) (Option.rec none (fun c => ih c) (overF p.2.cells.toList c off)) none) parts cells
theorem fillF_eq (place : Nat → Option (Nat × Nat)) : ∀ (parts : List (Nat × Value)) (cells : List Value), fillF place cells parts = fillL place cells parts
  | [], _ => rfl
  | (i, v) :: rest, cells => by
    have e : fillF place cells ((i, v) :: rest) = (match place i with
      | none => none
      | some (off, size) => bf (eqLen v.cells.toList size) (Option.rec (motive := fun _ => Option (List Value)) none (fun c => fillF place c rest) (overF v.cells.toList cells off)) none) := rfl
    rw [e, fillL]
    cases place i with
    | none => rfl
    | some os =>
      obtain ⟨off, size⟩ := os
      simp only [bf_eq, eqLen_eq]
      cases hb : Nat.beq v.cells.toList.length size with
      | false => rfl
      | true =>
        have hl : v.cells.toList.length = size := Nat.eq_of_beq_eq_true hb
        rw [cond_true, Bool.true_and, overF_eq, hl]
        cases hn : Nat.ble (off + size) cells.length with
        | true =>
          rw [Nat.ble_eq] at hn
          rw [if_pos hn, cond_true]
          exact fillF_eq place rest _
        | false =>
          have : ¬ off + size ≤ cells.length := fun h => by
            have : Nat.ble (off + size) cells.length = true := by rw [Nat.ble_eq]; exact h
            rw [this] at hn; cases hn
          rw [if_neg this, cond_false]

def allOne (vs : List Value) : Bool := List.rec (motive := fun _ => Bool) true (fun v _ ih => bf (oneC v) ih false) vs
theorem allOne_eq : ∀ vs : List Value, allOne vs = vs.all oneC
  | [] => rfl
  | v :: vs => by
    have e : allOne (v :: vs) = bf (oneC v) (allOne vs) false := rfl
    rw [e, allOne_eq vs, bf_eq, List.all_cons]
    cases oneC v <;> rfl

def storeNF (s : S) (b o : Nat) (vs : List Value) : Option S :=
  match getF s b with
  | some (.cells c false) => bf (allOne vs) (Option.rec (motive := fun _ => Option S) none (fun c => some (putF s b (.cells c false))) (overF vs c o)) none
  | _ => none
theorem storeNF_eq (s : S) (b o : Nat) (vs : List Value) : storeNF s b o vs = storeN s b o vs := by
  have key : ∀ c : List Value, (bf (allOne vs) (Option.rec (motive := fun _ => Option S) none (fun c => some (putF s b (.cells c false))) (overF vs c o)) none) =
      bif Nat.ble (o + vs.length) c.length && vs.all oneC then some (s.put b (.cells (over c o vs) false)) else none := by
    intro c
    rw [bf_eq, allOne_eq, overF_eq]
    cases hb : Nat.ble (o + vs.length) c.length with
    | true =>
      rw [Nat.ble_eq] at hb
      rw [if_pos hb, Bool.true_and]
      simp only [putF_eq]
    | false =>
      have : ¬ o + vs.length ≤ c.length := fun h => by
        have : Nat.ble (o + vs.length) c.length = true := by rw [Nat.ble_eq]; exact h
        rw [this] at hb; cases hb
      rw [if_neg this, Bool.false_and]
      cases vs.all oneC <;> rfl
  unfold storeNF storeN
  rw [getF_eq]
  cases s.get b with
  | none => rfl
  | some x =>
    cases x with
    | cells c r => cases r <;> first | exact key _ | rfl
    | _ => rfl

def load1F (s : S) (b o : Nat) : Option Value :=
  match getF s b with
  | some (.cells c _) => nthR c o
  | _ => none
theorem load1F_eq (s : S) (b o : Nat) : load1F s b o = load1 s b o := by
  unfold load1F load1
  rw [getF_eq]
  split <;> simp_all [nthR_eq]
def loadNF (s : S) (b o n : Nat) : Option (List Value) :=
  match getF s b with
  | some (.cells c _) => takeR (dropR c o) n
  | _ => none
theorem loadNF_eq (s : S) (b o n : Nat) (hn : 0 < n) : loadNF s b o n = loadN s b o n := by
  have key : ∀ c : List Value, takeR (dropR c o) n = bif Nat.ble (o + n) c.length then some ((c.drop o).take n) else none := by
    intro c
    rw [takeR_eq, dropR_eq]
    cases hb : Nat.ble (o + n) c.length with
    | true =>
      rw [Nat.ble_eq] at hb
      rw [cond_true, if_pos (by simp; omega)]
    | false =>
      have : ¬ o + n ≤ c.length := fun h => by
        have : Nat.ble (o + n) c.length = true := by rw [Nat.ble_eq]; exact h
        rw [this] at hb; cases hb
      rw [cond_false, if_neg (by simp; omega)]
  unfold loadNF loadN
  rw [getF_eq]
  cases s.get b with
  | none => rfl
  | some x => cases x <;> first | exact key _ | rfl
def store1F (s : S) (b o : Nat) (v : Value) : Option S :=
  match getF s b with
  | some (.cells c false) => Option.rec none (fun _ => some (putF s b (.cells (setNth v c o) false))) (nthR c o)
  | _ => none
theorem store1F_eq (s : S) (b o : Nat) (v : Value) : store1F s b o v = store1 s b o v := by
  have key : ∀ c : List Value, (Option.rec (motive := fun _ => Option S) none (fun _ => some (putF s b (.cells (setNth v c o) false))) (nthR c o)) =
      bif Nat.blt o c.length then some (s.put b (.cells (c.set o v) false)) else none := by
    intro c
    rw [nthR_eq, putF_eq, setNth_eq]
    cases hb : Nat.blt o c.length with
    | true =>
      have : o < c.length := by simpa [Nat.blt, Nat.ble_eq, Nat.succ_le_iff] using hb
      rw [cond_true, List.getElem?_eq_getElem this]
    | false =>
      have : ¬ o < c.length := fun h => by
        have : Nat.blt o c.length = true := by simpa [Nat.blt, Nat.ble_eq, Nat.succ_le_iff] using h
        rw [this] at hb; cases hb
      rw [cond_false, List.getElem?_eq_none (by omega)]
  unfold store1F store1
  rw [getF_eq]
  cases s.get b with
  | none => rfl
  | some x =>
    cases x with
    | cells c r => cases r <;> first | exact key _ | rfl
    | _ => rfl
end
end Go.Sv

/- Operations, compiled ahead. -/
namespace Go.Sv
noncomputable section

abbrev Kont := M Value → S → Option ORes
abbrev OpF := Ev → Fr → M Value → S → Kont → Option ORes

def contA (k : Kont) : Option ORes → Option ORes
  | some (.done fr s) => k fr.env s
  | r => r

def genK (P : Program) (ops : List Oper) (o : Oper) : Clo OpF := .mk fun e fr env s k => contA k (oneA P e ops o { fr with env := env } s)

/-- What is asked of a compiled operation. -/
def OpOK (P : Program) (ops : List Oper) (o : Oper) (c : Clo OpF) : Prop :=
  ∀ e fr env s k, c.run e fr env s k = contA k (oneA P e ops o { fr with env := env } s)

theorem genK_ok (P : Program) (ops : List Oper) (o : Oper) : OpOK P ops o (genK P ops o) := fun _ _ _ _ _ => rfl

/-! ### Operations that touch no memory -/

abbrev Dst := Nat → M Value → Value → M Value
def natV (n : Int) (f : Nat → Option Value) : Option Value := Int.rec f (fun _ => none) n

def pureK (d : Dst) (pv : M Value → Option Value) : OpF := fun _ fr env s k =>
  Option.rec (motive := fun _ => Option ORes) none (fun v => k (d fr.n env v) s) (pv env)

/-- An operation's kind, for the plain ones. -/
def plainOp : Op → Bool
  | .call { callee := .value _, .. } | .call { callee := .invoke _ _, .. } | .panic _ => false
  | _ => true

theorem execA_plainK {P : Program} {e : Ev} {o : Oper} {fr : Fr} {s : S} (h : plainOp o.op = true) : execA P e o fr s = (match exec1 P fr.ev s o.op with
    | some (v, s) => some (.done (fr.put o.dst v) s)
    | none => none) := by
  unfold execA
  cases ho : o.op <;> first | rfl | skip
  · rename_i c
    rw [ho] at h
    obtain ⟨callee, args, ts⟩ := c
    cases callee <;> first | rfl | (simp [plainOp] at h)
  · rw [ho] at h; simp [plainOp] at h

theorem oneA_none {P : Program} {e : Ev} {ops : List Oper} {o : Oper} {fr : Fr} {s : S} (hg : o.guard = none) : oneA P e ops o fr s = execA P e o fr s := by
  unfold oneA wantedA
  rw [hg]
  rfl

theorem pureK_ok {P : Program} {ops : List Oper} {o : Oper} {pv : M Value → Option Value} (hg : o.guard = none) (hp : plainOp o.op = true) (hc : cls P o.op = .pure_)
    (hv : ∀ env, pv env = pureA P (evE env) o.op) : OpOK P ops o (.mk (pureK (dstC o.dst).run pv)) := by
  intro e fr env s k
  rw [oneA_none hg, execA_plainK hp]
  simp only [exec1, hc, Clo.run_mk, pureK, hv, ev_evE]
  cases pureA P (evE env) o.op with
  | none => rfl
  | some v => simp only [contA, dstC_run]

def binK (op : BinOp) : IntKind → Int → Int → Option Value :=
  match op with
  | .add => fun k a b => some (.int k (wrapQ k (Int.add a b)))
  | .sub => fun k a b => some (.int k (wrapQ k (Int.sub a b)))
  | .mul => fun k a b => some (.int k (wrapQ k (Int.mul a b)))
  | .eql => fun _ a b => some (.bool (eqQ a b))
  | .neq => fun _ a b => some (.bool (!eqQ a b))
  | .lss => fun _ a b => some (.bool (!leQ b a))
  | .leq => fun _ a b => some (.bool (leQ a b))
  | .gtr => fun _ a b => some (.bool (!leQ a b))
  | .geq => fun _ a b => some (.bool (leQ b a))
  | .and => fun k a b => some (bitsQ k Nat.land (fun x y => x &&& y) a b)
  | .or => fun k a b => some (bitsQ k Nat.lor (fun x y => x ||| y) a b)
  | .xor => fun k a b => some (bitsQ k Nat.xor (fun x y => x ^^^ y) a b)
  | op => fun k a b => intBin op k a b
theorem binK_eq (op : BinOp) (k : IntKind) (a b : Int) : binK op k a b = intBin op k a b := by cases op <;> rfl

def binClo (P : Program) (op : BinOp) (t : TypeId) (x y : Operand) (g h : M Value → Value) : Clo (M Value → Option Value) :=
  match isShift op with
  | true => .mk fun env => binA P op t x y (g env) (h env)
  | false => match Clo.mk (binK op) with
    | .mk f => .mk fun env => bf (isIntB (g env)) (intV (g env) fun k n => intV (h env) fun k' m => bf (sameKind k k') (f k n m) none) (binO P op t x y (g env) (h env))
theorem binClo_run (P : Program) (op : BinOp) (t : TypeId) (x y : Operand) (g h : M Value → Value) (env : M Value) : (binClo P op t x y g h).run env = binA P op t x y (g env) (h env) := by
  unfold binClo
  cases hs : isShift op with
  | true => rfl
  | false =>
    simp only [Clo.run_mk, binA]
    cases g env <;> try rfl
    rename_i k n
    simp only [bf_eq, intV_eq]
    have : isIntB (.int k n) = true := rfl
    rw [this, cond_true]
    cases h env <;> try rfl
    simp only [binInt, hs, cond_false, binK_eq]

/-- The parts' values. -/
def partsC : List (Nat × Operand) → Clo (M Value → List (Nat × Value))
  | [] => .mk fun _ => []
  | p :: r => match opdC p.2, partsC r with
    | .mk g, .mk h => .mk fun env => (p.1, g env) :: h env
theorem partsC_run : ∀ (l : List (Nat × Operand)) (env : M Value), (partsC l).run env = l.map fun p => (p.1, evE env p.2)
  | [], _ => rfl
  | p :: r, env => by
    simp only [partsC]
    rw [Clo.eta (opdC p.2), Clo.eta (partsC r)]
    simp only [Clo.run_mk, opdC_run, partsC_run r env, List.map_cons]

def aggO (r : Option (List Value)) : Option Value := Option.rec none (fun c => some (.agg ⟨c⟩)) r
def buildC (P : Program) (t : TypeId) (h : M Value → List (Nat × Value)) : Clo (M Value → Option Value) :=
  match zeroOf P t with
  | none => .mk fun _ => none
  | some z => match P.underlying t with
    | some (.struct fields) => match fields.toList.all (fun f => known P f.type) with
      | true => .mk fun env => aggO (fillF (placeS P fields.toList) z.cells.toList (h env))
      | false => .mk fun _ => none
    | some (.array _ elem) => match known P elem with
      | true => .mk fun env => aggO (fillF (fun i => some (i * szOf P elem, szOf P elem)) z.cells.toList (h env))
      | false => .mk fun _ => none
    | _ => .mk fun _ => none
theorem buildC_run (P : Program) (t : TypeId) (h : M Value → List (Nat × Value)) (env : M Value) : (buildC P t h).run env = buildA P t (h env) := by
  unfold buildC buildA
  cases zeroOf P t with
  | none => rfl
  | some z =>
    simp only
    cases hu : P.underlying t with
    | none => rfl
    | some d =>
      cases d <;> try rfl
      · rename_i el
        simp only
        cases hk : known P el with
        | true =>
          simp only [Clo.run_mk, fillF_eq, cond_true]
          cases fillL (fun i => some (i * szOf P el, szOf P el)) z.cells.toList (h env) <;> rfl
        | false => rfl
      · rename_i fields
        simp only
        cases hk : fields.toList.all (fun f => known P f.type) with
        | true =>
          simp only [Clo.run_mk, fillF_eq, cond_true]
          cases fillL (placeS P fields.toList) z.cells.toList (h env) <;> rfl
        | false => rfl

/-- The value of a plain operation, compiled. -/
def pureV (P : Program) (op : Op) : Clo (M Value → Option Value) :=
  match op with
  | .move x | .assign x => match opdC x with | .mk g => .mk fun env => some (g env)
  | .pick c a b => match opdC c, opdC a, opdC b with
    | .mk gc, .mk ga, .mk gb => .mk fun env => boolV (gc env) fun t => some (bf t (ga env) (gb env))
  | .nilCheck x => match opdC x with
    | .mk g => .mk fun env => bf (isPtrB (g env)) (some (g env)) (nilCheckA P (g env))
  | .binOp op t x y _ => match opdC x, opdC y with
    | .mk g, .mk h => binClo P op t x y g h
  | .unOp .not _ x => match opdC x with
    | .mk g => .mk fun env => bf (isBoolB (g env)) (boolV (g env) fun b => some (.bool (bf b false true))) (bif dl (g env) then leafOnly (asks P (Op.unary .not (g env))) else none)
  | .convert src dst x => match opdC x, P.underlying dst, known P src with
    | .mk g, some (.int kd), true => .mk fun env => intV (g env) fun _ n => some (.int kd (wrapQ kd n))
    | .mk g, _, _ => .mk fun env => convA P src dst (g env)
  | .makeInterface t x => match opdC x, ifaceB P t with
    | .mk g, some false => .mk fun env => some (.iface t (g env))
    | _, _ => .mk fun _ => none
  | .slice t x lo hi mx => .mk fun env => sliceA P t (evE env x) (lo.map (evE env)) (hi.map (evE env)) (mx.map (evE env))
  | .build t parts => match partsC parts.toList with | .mk h => buildC P t h
  | .fieldAddr t x f => match opdC x, P.underlying t with
    | .mk g, some (.struct fields) => match fields.toList[f]? with
      | some fd => match Nat.beq (szOf P fd.type) 0 with
        | true => .mk fun _ => none
        | false => match fd.offset with
          | off => .mk fun env => ptrV (g env) fun b o => some (.pointer (some ⟨b, Nat.add o off, none⟩))
      | none => .mk fun _ => none
    | _, _ => .mk fun _ => none
  | .field t x f => match opdC x with | .mk g => .mk fun env => fieldA P t (g env) f
  | .indexAddr t x i => match opdC x, opdC i, P.underlying t with
    | .mk g, .mk h, some (.slice el) => match known P el with
      | true => .mk fun env => sliceV (g env) fun b o len => intV (h env) fun _ n => natV n fun i =>
          bf (Nat.ble (Nat.succ i) len) (some (.pointer (some ⟨b, Nat.add o (Nat.mul i (szOf P el)), none⟩))) none
      | false => .mk fun _ => none
    | .mk g, .mk h, some (.array len el) => match known P el with
      | true => .mk fun env => ptrV (g env) fun b o => intV (h env) fun _ n => natV n fun i =>
          bf (Nat.ble (Nat.succ i) len) (some (.pointer (some ⟨b, Nat.add o (Nat.mul i (szOf P el)), none⟩))) none
      | false => .mk fun _ => none
    | _, _, _ => .mk fun _ => none
  | .index t x i => match opdC x, opdC i with | .mk g, .mk h => .mk fun env => indexA P t (g env) (h env)
  | .typeAssert x _ asserted ok => match opdC x with | .mk g => .mk fun env => assertA P (g env) asserted ok
  | .extract t i => match opdC t with
    | .mk g => .mk fun env => tupV (g env) fun vs => nthR vs.toList i
  | .call { callee := .builtin .len, args, argTypes } => match argTypes.toList[0]?, args.toList[0]? with
    | some t, some x => match opdC x, P.underlying t with
      | .mk g, some (.slice _) => .mk fun env => lenV (g env) fun n => some (.int .i64 (.ofNat n))
      | .mk g, _ => .mk fun env => lenA P t (g env)
    | _, _ => .mk fun _ => none
  | op => .mk fun env => pureA P (evE env) op

theorem opdC_mk (x : Operand) {g : M Value → Value} (h : opdC x = .mk g) (env : M Value) : g env = evE env x := by
  rw [← opdC_run, h]; rfl

theorem pureV_run (P : Program) (op : Op) (env : M Value) : (pureV P op).run env = pureA P (evE env) op := by
  cases op <;> try rfl
  case move x => simp only [pureV, pureA]; rw [Clo.eta (opdC x)]; simp only [Clo.run_mk, opdC_run]
  case assign x => simp only [pureV, pureA]; rw [Clo.eta (opdC x)]; simp only [Clo.run_mk, opdC_run]
  case pick c a b =>
    simp only [pureV, pureA]
    rw [Clo.eta (opdC c), Clo.eta (opdC a), Clo.eta (opdC b)]
    simp only [Clo.run_mk, opdC_run, bf_eq, boolV_eq]
    rfl
  case nilCheck x =>
    simp only [pureV, pureA]
    rw [Clo.eta (opdC x)]
    simp only [Clo.run_mk, opdC_run]
    generalize evE env x = v
    cases v <;> try rfl
    rename_i a
    cases a <;> rfl
  case binOp op t x y ty =>
    simp only [pureV, pureA]
    rw [Clo.eta (opdC x), Clo.eta (opdC y)]
    simp only [binClo_run, opdC_run]
  case unOp op t x =>
    cases op <;> try rfl
    simp only [pureV, pureA]
    rw [Clo.eta (opdC x)]
    simp only [Clo.run_mk, opdC_run]
    generalize evE env x = v
    cases v <;> try rfl
    rename_i b
    cases b <;> rfl
  case convert src dst x =>
    simp only [pureV, pureA]
    rw [Clo.eta (opdC x)]
    split
    · rename_i g kd hx hd hk
      simp only [Clo.mk.injEq] at hx
      subst hx
      simp only [Clo.run_mk, opdC_run, convA, hd, hk, cond_true, intV_eq]
      cases evE env x <;> rfl
    · rename_i g hx hn
      simp only [Clo.mk.injEq] at hx
      subst hx
      simp only [Clo.run_mk, opdC_run]
  case makeInterface t x =>
    simp only [pureV, pureA]
    rw [Clo.eta (opdC x)]
    cases ifaceB P t with
    | none => rfl
    | some b => cases b <;> simp only [Clo.run_mk, opdC_run]
  case fieldAddr t x f =>
    simp only [pureV, pureA]
    unfold fieldAddrA
    rw [Clo.eta (opdC x)]
    cases hu : P.underlying t with
    | none => rfl
    | some d =>
      cases d <;> try rfl
      rename_i fields
      simp only
      cases hf : fields.toList[f]? with
      | none =>
        simp only [Clo.run_mk]
        generalize evE env x = v
        cases v <;> try rfl
        rename_i a
        rcases a with _ | ⟨b, o, _ | q⟩ <;> first | rfl | (simp only [hf])
      | some fd =>
        simp only
        cases hz : Nat.beq (szOf P fd.type) 0 with
        | true =>
          simp only [Clo.run_mk]
          generalize evE env x = v
          cases v <;> try rfl
          rename_i a
          rcases a with _ | ⟨b, o, _ | q⟩ <;> first | rfl | (simp only [hf, hz, cond_true])
        | false =>
          simp only [Clo.run_mk, opdC_run]
          generalize evE env x = v
          cases v <;> try rfl
          rename_i a
          rcases a with _ | ⟨b, o, _ | q⟩ <;> first | rfl | (simp only [hf, hz, cond_false]; rfl)
  case build t parts =>
    simp only [pureV, pureA]
    rw [Clo.eta (partsC parts.toList)]
    simp only [buildC_run, partsC_run]
  case field t x f => simp only [pureV, pureA]; rw [Clo.eta (opdC x)]; simp only [Clo.run_mk, opdC_run]
  case indexAddr t x i =>
    simp only [pureV, pureA]
    unfold indexAddrA
    rw [Clo.eta (opdC x), Clo.eta (opdC i)]
    cases hu : P.underlying t with
    | none => rfl
    | some d =>
      cases d <;> try rfl
      · rename_i el
        simp only
        cases hk : known P el with
        | true =>
          simp only [Clo.run_mk, opdC_run, bf_eq]
          generalize evE env x = v
          generalize evE env i = u
          cases v <;> try rfl
          rename_i a len cap
          rcases a with _ | ⟨b, o, _ | q⟩ <;> try rfl
          cases u <;> try rfl
          rename_i k n
          cases n <;> first | rfl | (simp only [hk, Bool.and_true]; rfl)
        | false =>
          simp only [Clo.run_mk]
          generalize evE env x = v
          generalize evE env i = u
          cases v <;> try rfl
          rename_i a len cap
          rcases a with _ | ⟨b, o, _ | q⟩ <;> try rfl
          cases u <;> try rfl
          rename_i k n
          cases n <;> first | rfl | (simp only [hk, Bool.and_false, cond_false])
      · rename_i len el
        simp only
        cases hk : known P el with
        | true =>
          simp only [Clo.run_mk, opdC_run, bf_eq]
          generalize evE env x = v
          generalize evE env i = u
          cases v <;> try rfl
          rename_i a
          rcases a with _ | ⟨b, o, _ | q⟩ <;> try rfl
          cases u <;> try rfl
          rename_i k n
          cases n <;> first | rfl | (simp only [hk, Bool.and_true]; rfl)
        | false =>
          simp only [Clo.run_mk]
          generalize evE env x = v
          generalize evE env i = u
          cases v <;> try rfl
          rename_i a
          rcases a with _ | ⟨b, o, _ | q⟩ <;> try rfl
          cases u <;> try rfl
          rename_i k n
          cases n <;> first | rfl | (simp only [hk, Bool.and_false, cond_false])
  case index t x i => simp only [pureV, pureA]; rw [Clo.eta (opdC x), Clo.eta (opdC i)]; simp only [Clo.run_mk, opdC_run]
  case typeAssert x a b ok => simp only [pureV, pureA]; rw [Clo.eta (opdC x)]; simp only [Clo.run_mk, opdC_run]
  case extract t i =>
    simp only [pureV, pureA, extractA]
    rw [Clo.eta (opdC t)]
    simp only [Clo.run_mk, opdC_run, nthR_eq, tupV_eq]
    rfl
  case call c =>
    obtain ⟨callee, args, ts⟩ := c
    cases callee <;> try rfl
    rename_i b
    cases b <;> try rfl
    simp only [pureV, pureA]
    cases h1 : ts.toList[0]? with
    | none => rfl
    | some t =>
      cases h2 : args.toList[0]? with
      | none => rfl
      | some x =>
        simp only
        rw [Clo.eta (opdC x)]
        split
        · rename_i g e hx hu
          simp only [Clo.mk.injEq] at hx
          subst hx
          simp only [Clo.run_mk, opdC_run]
          unfold lenA
          rw [hu]
          generalize evE env x = v
          cases v <;> rfl
        · rename_i g hx hn
          simp only [Clo.mk.injEq] at hx
          subst hx
          show lenA P t ((opdC x).run env) = _
          rw [opdC_run]
end
end Go.Sv

/- Operations that read or write memory, and calls, compiled ahead; regions. -/
namespace Go.Sv
noncomputable section

def oneU (v : Value) : Bool :=
  @Value.rec (fun _ => Bool) (fun _ => PUnit) (fun _ => PUnit) (fun _ => true) (fun _ _ => true) (fun _ _ => true) (fun _ _ _ => true) (fun _ => true) (fun _ => true) (fun _ _ _ => true) (fun _ => true) (fun _ => true)
    (fun _ _ _ _ _ => true) true (fun _ _ _ => true) true (fun _ _ => false) (fun _ _ => false) (fun _ _ => .unit) .unit (fun _ _ _ _ => .unit) v

def loadK (P : Program) (t : TypeId) (d : Dst) (g : M Value → Value) : OpF :=
  match known P t with
  | false => fun _ _ _ _ _ => none
  | true => match aggB P t with
    | true => match Nat.blt 0 (szOf P t) with
      | true => fun _ fr env s k => ptrO (g env) fun b o => Option.rec (motive := fun _ => Option ORes) none (fun l => k (d fr.n env (.agg ⟨l⟩)) s) (loadNF s b o (szOf P t))
      | false => fun _ fr env s k => match loadA P s t (g env) with
        | some v => k (d fr.n env v) s
        | none => none
    | false => fun _ fr env s k => ptrO (g env) fun b o => Option.rec (motive := fun _ => Option ORes) none (fun v => k (d fr.n env v) s) (load1F s b o)

theorem loadK_eq (P : Program) (t : TypeId) (d : Dst) (g : M Value → Value) (e : Ev) (fr : Fr) (env : M Value) (s : S) (k : Kont) :
    loadK P t d g e fr env s k = (match loadA P s t (g env) with
      | some v => k (d fr.n env v) s
      | none => none) := by
  unfold loadK
  cases hk : known P t with
  | false =>
    simp only
    generalize g env = v
    cases v <;> try rfl
    rename_i a
    rcases a with _ | ⟨b, o, _ | q⟩ <;> first | rfl | (simp only [loadA, hk, cond_false])
  | true =>
    simp only
    cases ha : aggB P t with
    | true =>
      simp only
      cases hz : Nat.blt 0 (szOf P t) with
      | false => rfl
      | true =>
        have hz' : 0 < szOf P t := by simpa [Nat.blt, Nat.ble_eq, Nat.succ_le_iff] using hz
        simp only [ptrO_eq]
        generalize g env = v
        cases v <;> try rfl
        rename_i a
        rcases a with _ | ⟨b, o, _ | q⟩ <;> try rfl
        simp only [loadA, hk, ha, cond_true, loadNF_eq s b o _ hz']
        cases loadN s b o (szOf P t) <;> rfl
    | false =>
      simp only [ptrO_eq]
      generalize g env = v
      cases v <;> try rfl
      rename_i a
      rcases a with _ | ⟨b, o, _ | q⟩ <;> try rfl
      simp only [loadA, hk, ha, cond_true, cond_false, load1F_eq]
      cases load1 s b o <;> rfl

def storeK (P : Program) (t : TypeId) (d : Dst) (g h : M Value → Value) : OpF :=
  match known P t, aggB P t, Nat.beq (szOf P t) 1 with
  | true, false, true => fun _ fr env s k => ptrO (g env) fun b o => bf (oneU (h env)) (Option.rec (motive := fun _ => Option ORes) none (fun s => k (d fr.n env undef) s) (store1F s b o (h env))) none
  | true, true, _ => fun _ fr env s k => ptrO (g env) fun b o => aggO2 (h env) fun x =>
      bf (eqLen x.toList (szOf P t)) (Option.rec (motive := fun _ => Option ORes) none (fun s => k (d fr.n env undef) s) (storeNF s b o x.toList)) none
  | _, _, _ => fun _ fr env s k => match storeA P s t (g env) (h env) with
    | some s => k (d fr.n env undef) s
    | none => none

theorem storeK_eq (P : Program) (t : TypeId) (d : Dst) (g h : M Value → Value) (e : Ev) (fr : Fr) (env : M Value) (s : S) (k : Kont) :
    storeK P t d g h e fr env s k = (match storeA P s t (g env) (h env) with
      | some s => k (d fr.n env undef) s
      | none => none) := by
  unfold storeK
  have hagg : known P t = true → aggB P t = true → ∀ v u : Value, (ptrO v fun b o => aggO2 u fun x =>
      bf (eqLen x.toList (szOf P t)) (Option.rec (motive := fun _ => Option ORes) none (fun s => k (d fr.n env undef) s) (storeNF s b o x.toList)) none) = (match storeA P s t v u with
      | some s => k (d fr.n env undef) s
      | none => none) := by
    intro hk ha v u
    cases v <;> try rfl
    rename_i a
    rcases a with _ | ⟨b, o, _ | q⟩ <;> try rfl
    simp only [storeA, hk, ha, cond_true, ptrO_eq]
    cases u <;> try rfl
    simp only [bf_eq, eqLen_eq, storeNF_eq, aggO2_eq]
    rename_i x
    cases Nat.beq x.toList.length (szOf P t) with
    | false => rfl
    | true =>
      simp only [cond_true]
      cases storeN s b o x.toList <;> rfl
  cases hk : known P t <;> cases ha : aggB P t <;> cases hz : Nat.beq (szOf P t) 1 <;> try rfl
  · simp only [ptrO_eq]
    generalize g env = v
    cases v <;> try rfl
    rename_i a
    rcases a with _ | ⟨b, o, _ | q⟩ <;> try rfl
    simp only [storeA, hk, ha, hz, cond_true, cond_false, store1F_eq]
    generalize h env = u
    cases u <;> first | rfl | (simp only; cases store1 s b o _ <;> rfl)
  · exact hagg hk ha (g env) (h env)
  · exact hagg hk ha (g env) (h env)

def sliceK (P : Program) (t : TypeId) (len : Nat) (d : Dst) (h : M Value → List (Nat × Value)) (gen : OpF) : OpF :=
  match P.underlying t with
  | some (.slice e) => match zeroOf P e with
    | some z => match Nat.ble (len * szOf P e) 16777216 && Nat.blt 0 (len * szOf P e) with
      | true => match zeroRow z.cells.toList (len * szOf P e) with
        | row => fun _ fr env s k => Option.rec (motive := fun _ => Option ORes) none (fun c => k (d fr.n env (.slice (some ⟨s.next, 0, none⟩) len len)) (newF s (.cells c false)))
            (fillF (fun i => some (i * szOf P e, szOf P e)) row (h env))
      | false => gen
    | none => gen
  | _ => gen

/-- The arguments' values. -/
def argsC : List Operand → Clo (M Value → List Value)
  | [] => .mk fun _ => []
  | x :: r => match opdC x, argsC r with
    | .mk g, .mk h => .mk fun env => g env :: h env
theorem argsC_run : ∀ (l : List Operand) (env : M Value), (argsC l).run env = l.map (evE env)
  | [], _ => rfl
  | x :: r, env => by
    simp only [argsC]
    rw [Clo.eta (opdC x), Clo.eta (argsC r)]
    simp only [Clo.run_mk, opdC_run, argsC_run r env, List.map_cons]

def callK (d : Dst) (f : FuncId) (g : M Value → List Value) : OpF := fun e fr env s k =>
  match e.call f (g env) s with
  | some (.ret v, s) => k (d fr.n env v) s
  | some (.pan ch, s) => some (.pan ch { fr with env := env } s)
  | none => none

/-- What is asked of a compiled operation that is carried out. -/
def OpEOK (P : Program) (o : Oper) (c : Clo OpF) : Prop :=
  ∀ e fr env s k, c.run e fr env s k = contA k (execA P e o { fr with env := env } s)
def genE (P : Program) (o : Oper) : Clo OpF := .mk fun e fr env s k => contA k (execA P e o { fr with env := env } s)
theorem genE_ok (P : Program) (o : Oper) : OpEOK P o (genE P o) := fun _ _ _ _ _ => rfl

/-- An operation that is carried out, compiled. -/
def opE (P : Program) (o : Oper) : Clo OpF :=
  match dstC o.dst with
    | .mk d => match o.op with
      | .move x | .assign x => match opdC x with
        | .mk g => .mk fun _ fr env s k => k (d fr.n env (g env)) s
      | .load t a => match opdC a with
        | .mk g => .mk (loadK P t d g)
      | .store t a x => match opdC a, opdC x with
        | .mk g, .mk h => .mk (storeK P t d g h)
      | .alloc et => match zeroOf P et with
        | some z => .mk fun _ fr env s k => k (d fr.n env (.pointer (some ⟨s.next, 0, none⟩))) (newF s (.cells z.cells.toList false))
        | none => .mk fun _ _ _ _ _ => none
      | .box _ x => match opdC x with
        | .mk g => .mk fun _ fr env s k => k (d fr.n env (.pointer (some ⟨s.next, 0, none⟩))) (newF s (.cells (g env).cells.toList false))
      | .buildSlice t len parts => match partsC parts.toList, genE P o with
        | .mk h, .mk gen => .mk (sliceK P t len d h gen)
      | .call { callee := .value (.func f), args, .. } => match argsC args.toList with
        | .mk g => .mk (callK d f g)
      | op => match cls P op with
        | .pure_ => match pureV P op with
          | .mk pv => .mk (pureK d pv)
        | _ => genE P o

theorem opE_ok (P : Program) (o : Oper) : OpEOK P o (opE P o) := by
  unfold opE
  ·
    have hd : ∀ (fr : Fr) (env : M Value) (v : Value), (dstC o.dst).run fr.n env v = (Fr.put { fr with env := env } o.dst v).env := dstC_run o.dst
    rw [Clo.eta (dstC o.dst)]
    generalize (dstC o.dst).run = d at hd
    simp only
    have hpure : plainOp o.op = true → cls P o.op = .pure_ → OpEOK P o (match pureV P o.op with | .mk pv => .mk (pureK d pv)) := by
      intro hp hc e fr env s k
      rw [execA_plainK hp]
      rw [Clo.eta (pureV P o.op)]
      simp only [exec1, hc, Clo.run_mk, pureK, pureV_run, ev_evE]
      cases pureA P (evE env) o.op with
      | none => rfl
      | some v => simp only [contA, hd]
    have hother : plainOp o.op = true → OpEOK P o (match cls P o.op with
        | .pure_ => match pureV P o.op with
          | .mk pv => .mk (pureK d pv)
        | _ => genE P o) := by
      intro hp
      cases hc : cls P o.op <;> first | exact genE_ok P o | exact hpure hp hc
    split
    · rename_i x hop
      intro e fr env s k
      rw [execA_plainK (by rw [hop]; rfl), hop]
      rw [Clo.eta (opdC x)]
      simp only [exec1, cls, pureA, Clo.run_mk, opdC_run, ev_evE, contA, hd]
    · rename_i x hop
      intro e fr env s k
      rw [execA_plainK (by rw [hop]; rfl), hop]
      rw [Clo.eta (opdC x)]
      simp only [exec1, cls, pureA, Clo.run_mk, opdC_run, ev_evE, contA, hd]
    · rename_i t a hop
      intro e fr env s k
      rw [execA_plainK (by rw [hop]; rfl), hop]
      rw [Clo.eta (opdC a)]
      simp only [exec1, cls, readA, Clo.run_mk, loadK_eq, opdC_run, ev_evE]
      cases loadA P s t (evE env a) with
      | none => rfl
      | some v => simp only [contA, hd]
    · rename_i t a x hop
      intro e fr env s k
      rw [execA_plainK (by rw [hop]; rfl), hop]
      rw [Clo.eta (opdC a), Clo.eta (opdC x)]
      simp only [exec1, cls, actA, Clo.run_mk, storeK_eq, opdC_run, ev_evE]
      cases storeA P s t (evE env a) (evE env x) with
      | none => rfl
      | some v => simp only [unit_, contA, hd]
    · rename_i t hop
      intro e fr env s k
      rw [execA_plainK (by rw [hop]; rfl), hop]
      simp only [exec1, cls, newA]
      cases zeroOf P t with
      | none => rfl
      | some z => simp only [Clo.run_mk, contA, hd, newF_eq]
    · rename_i t x hop
      intro e fr env s k
      rw [execA_plainK (by rw [hop]; rfl), hop]
      rw [Clo.eta (opdC x)]
      simp only [exec1, cls, newA, Clo.run_mk, opdC_run, ev_evE, contA, hd, newF_eq]
    · rename_i t len parts hop
      rw [Clo.eta (partsC parts.toList), Clo.eta (genE P o)]
      simp only
      unfold sliceK
      cases hu : P.underlying t with
      | none => exact genE_ok P o
      | some dd =>
        cases dd <;> try exact genE_ok P o
        rename_i el
        simp only
        cases hz : zeroOf P el with
        | none => exact genE_ok P o
        | some z =>
          simp only
          cases hb : (Nat.ble (len * szOf P el) 16777216 && Nat.blt 0 (len * szOf P el)) with
          | false => exact genE_ok P o
          | true =>
            intro e fr env s k
            rw [execA_plainK (by rw [hop]; rfl), hop]
            simp only [exec1, cls, newA, hu, hz, hb, cond_true, Clo.run_mk, fillF_eq, partsC_run, ev_evE]
            cases fillL (fun i => some (i * szOf P el, szOf P el)) (zeroRow z.cells.toList (len * szOf P el)) (parts.toList.map fun p => (p.1, evE env p.2)) with
            | none => rfl
            | some c => simp only [contA, hd, newF_eq]
    · rename_i f args ts hop
      intro e fr env s k
      unfold execA
      rw [hop]
      rw [Clo.eta (argsC args.toList)]
      simp only [Clo.run_mk, callK, argsC_run, callV, ev_evE, evE, List.nil_append, List.append_nil]
      unfold resA
      cases e.call f (args.toList.map (evE env)) s with
      | none => rfl
      | some r =>
        obtain ⟨r, s'⟩ := r
        cases r <;> simp only [contA, hd]
    · by_cases hp : plainOp o.op = true
      · exact hother hp
      · have : cls P o.op = .call := by
          revert hp
          cases o.op <;> (try (intro hp; exact absurd rfl hp)) <;> (try (intro _; rfl))
          rename_i c
          obtain ⟨callee, args, ts⟩ := c
          cases callee <;> (try (intro hp; exact absurd rfl hp)) <;> (intro _; rfl)
        rw [this]
        exact genE_ok P o

def isBool (want : Bool) (v : Value) : Bool :=
  @Value.rec (fun _ => Bool) (fun _ => PUnit) (fun _ => PUnit) (fun b => bf b want (bf want false true)) (fun _ _ => false) (fun _ _ => false) (fun _ _ _ => false) (fun _ => false) (fun _ => false) (fun _ _ _ => false) (fun _ => false) (fun _ => false)
    (fun _ _ _ _ _ => false) false (fun _ _ _ => false) false (fun _ _ => false) (fun _ _ => false) (fun _ _ => .unit) .unit (fun _ _ _ _ => .unit) v

/-- An operation, compiled. -/
def opK (P : Program) (ops : List Oper) (o : Oper) : Clo OpF :=
  match o.guard with
  | none => opE P o
  | some (j, want) => match dstAt ops j with
    | none => genK P ops o
    | some t => match opE P o, dstC o.dst, opdC (.tmp t) with
      | .mk f, .mk d, .mk g => .mk fun e fr env s k => bf (isBool want (g env)) (f e fr env s k) (k (d fr.n env undef) s)

theorem opK_ok (P : Program) (ops : List Oper) (o : Oper) : OpOK P ops o (opK P ops o) := by
  unfold opK
  cases hg : o.guard with
  | none =>
    intro e fr env s k
    rw [oneA_none hg]
    exact opE_ok P o e fr env s k
  | some p =>
    obtain ⟨j, want⟩ := p
    simp only
    cases hd : dstAt ops j with
    | none => exact genK_ok P ops o
    | some t =>
      intro e fr env s k
      have h1 := opE_ok P o e fr env s k
      have h2 := dstC_run o.dst fr env undef
      have h3 := opdC_run (.tmp t) env
      simp only
      rw [Clo.eta (opE P o), Clo.eta (dstC o.dst), Clo.eta (opdC (.tmp t))]
      simp only [Clo.run_mk, h1, h2, h3, bf_eq]
      unfold oneA
      have hw : wantedA ops o { fr with env := env } = isBool want (evE env (.tmp t)) := by
        unfold wantedA yieldedA
        rw [hg]
        simp only [hd]
        show _ = isBool want (envLook env t)
        cases envLook env t <;> try rfl
        rename_i b
        cases b <;> cases want <;> rfl
      rw [hw]
      cases isBool want (evE env (.tmp t)) <;> rfl
end
end Go.Sv

/- Regions and code, compiled ahead. -/
namespace Go.Sv
noncomputable section

/-! ### Regions in text order -/

abbrev RegF := Ev → Fr → M Value → S → Option ORes

def endR (fr : Fr) (env : M Value) : Fr := Fr.rec (fun _ n defs fn round => ⟨env, n, defs, fn, round⟩) fr
theorem endR_eq (fr : Fr) (env : M Value) : endR fr env = { fr with env := env } := by cases fr; rfl

def textK (P : Program) (ops : List Oper) : List Oper → Clo RegF
  | [] => .mk fun _ fr env s => some (.done (endR fr env) s)
  | o :: rest => match opK P ops o, textK P ops rest with
    | .mk f, .mk g => .mk fun e fr env s => f e fr env s (g e fr)

theorem put_withK (fr : Fr) (env : M Value) (dst : Option Tmp) (v : Value) : Fr.put { fr with env := env } dst v = { fr with env := (Fr.put { fr with env := env } dst v).env } := by
  cases dst <;> rfl

/-- What an operation leaves of the frame. -/
theorem oneA_doneK {P : Program} {e : Ev} {ops : List Oper} {o : Oper} {fr fr' : Fr} {s s' : S} (h : oneA P e ops o fr s = some (.done fr' s')) : ∃ v, fr' = fr.put o.dst v := by
  have hres : ∀ {r : Option (CRes × S)}, resA fr o.dst r = some (.done fr' s') → ∃ v, fr' = fr.put o.dst v := by
    intro r hr
    unfold resA at hr
    split at hr
    · cases hr; exact ⟨_, rfl⟩
    · cases hr
    · cases hr
  unfold oneA at h
  cases hw : wantedA ops o fr with
  | false => rw [hw, cond_false] at h; cases h; exact ⟨_, rfl⟩
  | true =>
    rw [hw, cond_true] at h
    unfold execA at h
    split at h
    · exact hres h
    · exact hres h
    · split at h <;> cases h
    · split at h
      · cases h; exact ⟨_, rfl⟩
      · cases h

theorem oneA_envK {P : Program} {e : Ev} {ops : List Oper} {o : Oper} {fr fr' : Fr} {env : M Value} {s s' : S} (h : oneA P e ops o { fr with env := env } s = some (.done fr' s')) : fr' = { fr with env := fr'.env } := by
  obtain ⟨v, rfl⟩ := oneA_doneK h
  exact put_withK fr env o.dst v

theorem textK_run (P : Program) (ops : List Oper) : ∀ (l : List Oper) (e : Ev) (fr : Fr) (env : M Value) (s : S), (textK P ops l).run e fr env s = textA P e ops l { fr with env := env } s
  | [], e, fr, env, s => by simp only [textK, Clo.run_mk, endR_eq, textA]
  | o :: rest, e, fr, env, s => by
    simp only [textK]
    have h1 := opK_ok P ops o e fr env s
    have ih := textK_run P ops rest e fr
    rw [Clo.eta (opK P ops o), Clo.eta (textK P ops rest)]
    simp only [Clo.run_mk, textA]
    rw [h1]
    cases hx : oneA P e ops o { fr with env := env } s with
    | none => rfl
    | some r =>
      cases r with
      | pan ch fr' s' => rfl
      | done fr' s' =>
        simp only [contA]
        rw [ih, ← oneA_envK hx]

/-! ### Regions that draw -/

abbrev Pend := List (Nat × List (Nat × Nat × Nat))
abbrev DrwF := Ev → Fr → M Value → S → Pend → Option ORes

def drawK (P : Program) (ops : List Oper) (masks : List Nat) : List Nat → Clo DrwF
  | [] => .mk fun _ fr env s _ => some (.done (endR fr env) s)
  | i :: rest => match ops[i]? with
    | none => .mk fun _ _ _ _ _ => none
    | some o => match opK P ops o, drawK P ops masks rest, o.guard.isNone, cls P o.op with
      | .mk f, .mk g, true, .pure_ => .mk fun e fr env s pend => f e fr env s (fun env' s' => g e fr env' s' pend)
      | .mk f, .mk g, true, .read => .mk fun e fr env s pend => f e fr env s (fun env' s' => g e fr env' s' ((i, seenBy P (evE env) s o.op) :: pend))
      | .mk f, .mk g, true, .new => .mk fun e fr env s pend => f e fr env s (fun env' s' => g e fr env' s' ((i, [(s.next, 0, 0)]) :: pend))
      | .mk f, .mk g, true, _ => .mk fun e fr env s pend => f e fr env s (fun env' s' =>
          bif pendOk s s' (pend.filter fun p => !(masks.getD i 0).testBit p.1) then g e fr env' s' (pend.filter fun p => !(masks.getD i 0).testBit p.1) else none)
      | .mk f, .mk g, false, _ => .mk fun e fr env s pend => f e fr env s (fun env' s' =>
          match (bif wantedA ops o { fr with env := env } then cls P o.op else .pure_) with
          | .pure_ => g e fr env' s' pend
          | .read => g e fr env' s' ((i, seenBy P (evE env) s o.op) :: pend)
          | .new => g e fr env' s' ((i, [(s.next, 0, 0)]) :: pend)
          | _ => bif pendOk s s' (pend.filter fun p => !(masks.getD i 0).testBit p.1) then g e fr env' s' (pend.filter fun p => !(masks.getD i 0).testBit p.1) else none)

theorem drawK_run (P : Program) (ops : List Oper) (masks : List Nat) : ∀ (l : List Nat) (e : Ev) (fr : Fr) (env : M Value) (s : S) (pend : Pend),
    (drawK P ops masks l).run e fr env s pend = drawA P e ops masks l pend { fr with env := env } s
  | [], e, fr, env, s, pend => by simp only [drawK, Clo.run_mk, endR_eq, drawA]
  | i :: rest, e, fr, env, s, pend => by
    simp only [drawK, drawA]
    cases ops[i]? with
    | none => rfl
    | some o =>
      simp only
      have h1 := opK_ok P ops o e fr env s
      have ih := drawK_run P ops masks rest e fr
      have hw : o.guard.isNone = true → wantedA ops o { fr with env := env } = true := by
        intro hg
        unfold wantedA
        have : o.guard = none := by simpa using hg
        rw [this]
      rw [Clo.eta (opK P ops o), Clo.eta (drawK P ops masks rest)]
      generalize (opK P ops o).run = f at h1
      generalize (drawK P ops masks rest).run = g at ih
      cases hg : o.guard.isNone with
      | true =>
        have hw := hw hg
        cases hc : cls P o.op <;> simp only [Clo.run_mk, hw, cond_true] <;> rw [h1] <;>
        · cases hx : oneA P e ops o { fr with env := env } s with
          | none => rfl
          | some r =>
            cases r with
            | pan ch fr' s' => rfl
            | done fr' s' =>
              simp only [contA, ih, ev_evE]
              rw [← oneA_envK hx]
      | false =>
        simp only [Clo.run_mk]
        rw [h1]
        cases hx : oneA P e ops o { fr with env := env } s with
        | none => rfl
        | some r =>
          cases r with
          | pan ch fr' s' => rfl
          | done fr' s' =>
            simp only [contA, ih, ev_evE]
            rw [← oneA_envK hx]
            rfl

def regionK (P : Program) (ops : Array Oper) (draw : Bool) : Clo RegF :=
  match draw with
  | false => textK P ops.toList ops.toList
  | true => match drawK P ops.toList (masksOf ops) (canon P ops) with
    | .mk g => .mk fun e fr env s => g e fr env s []
theorem regionK_run (P : Program) (ops : Array Oper) (draw : Bool) (e : Ev) (fr : Fr) (s : S) : outA ((regionK P ops draw).run e fr fr.env s) = regionA P e ops draw fr s := by
  cases draw with
  | false => simp only [regionK, regionA, textK_run]
  | true =>
    simp only [regionK, regionA]
    rw [Clo.eta (drawK _ _ _ _)]
    simp only [Clo.run_mk, drawK_run]

/-! ### Code -/

abbrev CodeF := Ev → Fr → S → Option (Exit × Fr × S)

def codeK (P : Program) : Code → Clo CodeF
  | .seq a b => match codeK P a, codeK P b with
    | .mk f, .mk g => .mk fun e fr s => thenA (f e fr s) (g e)
  | .cond c a b => match opdC c, codeK P a, codeK P b with
    | .mk h, .mk f, .mk g => .mk fun e fr s => boolC (h fr.env) fun b => bf b (f e fr s) (g e fr s)
  | .block id c => match codeK P c with
    | .mk f => .mk fun e fr s => blockA id (f e fr s)
  | .loop c => match codeK P c with
    | .mk f => .mk fun e fr s => thenA (f e fr s) (e.code (.loop c))
  | .scope c => codeK P c
  | .region _ ops draw => match regionK P ops draw with
    | .mk f => .mk fun e fr s => outA (f e fr fr.env s)
  | c => .mk fun e fr s => stepCode P e c fr s

def runK (P : Program) (e : Ev) (c : Code) (fr : Fr) (s : S) : Option (Exit × Fr × S) := (codeK P c).run e fr s

theorem runK_seq (P : Program) (e : Ev) (a b : Code) (fr : Fr) (s : S) : runK P e (.seq a b) fr s = thenA (runK P e a fr s) (runK P e b) := by
  simp only [runK, codeK]
  rw [Clo.eta (codeK P a), Clo.eta (codeK P b)]
  rfl
theorem runK_cond (P : Program) (e : Ev) (c : Operand) (a b : Code) (fr : Fr) (s : S) : runK P e (.cond c a b) fr s = (match fr.ev c with
    | .bool true => runK P e a fr s
    | .bool false => runK P e b fr s
    | _ => none) := by
  simp only [runK, codeK]
  rw [Clo.eta (opdC c), Clo.eta (codeK P a), Clo.eta (codeK P b)]
  simp only [Clo.run_mk, opdC_run, ev_evE, boolC_eq]
  generalize evE fr.env c = v
  cases v <;> try rfl
  rename_i t
  cases t <;> rfl
theorem runK_block (P : Program) (e : Ev) (id : Nat) (c : Code) (fr : Fr) (s : S) : runK P e (.block id c) fr s = blockA id (runK P e c fr s) := by
  simp only [runK, codeK]
  rw [Clo.eta (codeK P c)]
  rfl
theorem runK_loop (P : Program) (e : Ev) (c : Code) (fr : Fr) (s : S) : runK P e (.loop c) fr s = thenA (runK P e c fr s) (e.code (.loop c)) := by
  simp only [runK, codeK]
  rw [Clo.eta (codeK P c)]
  rfl
theorem runK_scope (P : Program) (e : Ev) (c : Code) (fr : Fr) (s : S) : runK P e (.scope c) fr s = runK P e c fr s := rfl
theorem runK_region (P : Program) (e : Ev) (i : Nat) (ops : Array Oper) (draw : Bool) (fr : Fr) (s : S) : runK P e (.region i ops draw) fr s = regionA P e ops draw fr s := by
  simp only [runK, codeK]
  rw [Clo.eta (regionK P ops draw)]
  exact regionK_run P ops draw e fr s

/-! ### Calls -/

/-- The arguments laid into the frame's temporaries, from number 'k' on. -/
def argPut : Nat → Nat → Clo (List Value → M Value → M Value)
  | 0, _ => .mk fun _ env => env
  | m + 1, k => match putE k, argPut m (k + 1) with
    | .mk p, .mk q => .mk fun l env => List.rec (motive := fun _ => M Value) env (fun v vs _ => q vs (p env v)) l
theorem argPut_run (n : Nat) : ∀ (m k : Nat) (l : List Value) (env : M Value), l.length ≤ m → k + l.length ≤ n → (argPut m k).run l env = envOf n l k env
  | 0, k, l, env, h, _ => by
    have : l = [] := List.length_eq_zero_iff.1 (by omega)
    subst this; rfl
  | m + 1, k, [], env, _, _ => by
    simp only [argPut]
    rw [Clo.eta (putE k), Clo.eta (argPut m (k + 1))]
    rfl
  | m + 1, k, v :: vs, env, h, hn => by
    simp only [List.length_cons] at h hn
    have ih := argPut_run n m (k + 1) vs (env.set k (some v)) (by omega) (by omega)
    simp only [argPut]
    rw [Clo.eta (putE k), Clo.eta (argPut m (k + 1))]
    show (argPut m (k + 1)).run vs ((putE k).run env v) = _
    rw [putE_run, ih, envOf]
    have : envPut env n k v = env.set k (some v) := by
      unfold envPut
      have : Nat.blt k n = true := by simp [Nat.blt, Nat.ble_eq, Nat.succ_le_iff]; omega
      rw [this]; rfl
    rw [this]

def loadV (P : Program) (t : TypeId) (g : M Value → Value) : Clo (M Value → S → Option Value) :=
  match known P t, aggB P t, Nat.blt 0 (szOf P t) with
  | true, true, true => .mk fun env s => ptrV (g env) fun b o => aggO (loadNF s b o (szOf P t))
  | true, false, _ => .mk fun env s => ptrV (g env) fun b o => load1F s b o
  | _, _, _ => .mk fun env s => loadA P s t (g env)
theorem loadV_run (P : Program) (t : TypeId) (g : M Value → Value) (env : M Value) (s : S) : (loadV P t g).run env s = loadA P s t (g env) := by
  unfold loadV
  cases hk : known P t <;> cases ha : aggB P t <;> cases hz : Nat.blt 0 (szOf P t) <;> try rfl
  · simp only [Clo.run_mk, ptrV_eq]
    generalize g env = v
    cases v <;> try rfl
    rename_i a
    rcases a with _ | ⟨b, o, _ | q⟩ <;> try rfl
    simp only [loadA, hk, ha, cond_true, cond_false, load1F_eq]
  · simp only [Clo.run_mk, ptrV_eq]
    generalize g env = v
    cases v <;> try rfl
    rename_i a
    rcases a with _ | ⟨b, o, _ | q⟩ <;> try rfl
    simp only [loadA, hk, ha, cond_true, cond_false, load1F_eq]
  · have hz' : 0 < szOf P t := by simpa [Nat.blt, Nat.ble_eq, Nat.succ_le_iff] using hz
    simp only [Clo.run_mk, ptrV_eq]
    generalize g env = v
    cases v <;> try rfl
    rename_i a
    rcases a with _ | ⟨b, o, _ | q⟩ <;> try rfl
    simp only [loadA, hk, ha, cond_true, loadNF_eq s b o _ hz']
    cases loadN s b o (szOf P t) <;> rfl

def resC (P : Program) : List ResultVar → Clo (M Value → S → Option (List Value))
  | [] => .mk fun _ _ => some []
  | .tmp t :: r => match opdC (.tmp t), resC P r with
    | .mk g, .mk h => .mk fun env s => consO (g env) (h env s)
  | .cell a t :: r => match opdC (.tmp a), resC P r with
    | .mk g, .mk h => match loadV P t g with
      | .mk ld => .mk fun env s => Option.rec (motive := fun _ => Option (List Value)) none (fun v => consO v (h env s)) (ld env s)
theorem resC_run (P : Program) (fr : Fr) (s : S) : ∀ l : List ResultVar, (resC P l).run fr.env s = resultsA P fr s l
  | [] => rfl
  | .tmp t :: r => by
    simp only [resC]
    rw [Clo.eta (opdC (.tmp t)), Clo.eta (resC P r)]
    simp only [Clo.run_mk, opdC_run, resC_run P fr s r, resultsA]
    cases resultsA P fr s r <;> rfl
  | .cell a t :: r => by
    simp only [resC]
    rw [Clo.eta (opdC (.tmp a)), Clo.eta (resC P r)]
    simp only
    rw [Clo.eta (loadV P t (opdC (.tmp a)).run)]
    simp only [Clo.run_mk, loadV_run, opdC_run, resC_run P fr s r, resultsA]
    show Option.rec (motive := fun _ => Option (List Value)) none (fun v => consO v (resultsA P fr s r)) (loadA P s t (envLook fr.env a)) = _
    cases loadA P s t (envLook fr.env a) with
    | none => rfl
    | some v => cases resultsA P fr s r <;> rfl

def retO (r : Option (List Value)) (s : S) : Option (CRes × S) := Option.rec none (fun vs => some (.ret (resultOf vs), s)) r
def finK (P : Program) (fn : Func) (res : M Value → S → Option (List Value)) (ex : Exit) (fr : Fr) (s : S) : Option (CRes × S) :=
  match fr.defs with
  | [] => match ex with
    | .normal => retO (res fr.env s) s
    | .ret => retO (res fr.env s) s
    | ex => finishA P fn ex fr s
  | _ => finishA P fn ex fr s
theorem finK_eq (P : Program) (fn : Func) (ex : Exit) (fr : Fr) (s : S) : finK P fn (resC P fn.results.toList).run ex fr s = finishA P fn ex fr s := by
  unfold finK
  cases hd : fr.defs with
  | cons a b => rfl
  | nil =>
    cases ex <;> try rfl
    all_goals
      simp only [finishA, hd, runDefs, resC_run]
      cases resultsA P fr s fn.results.toList <;> rfl

def callC (P : Program) (f : FuncId) : Clo (Ev → List Value → S → Option (CRes × S)) :=
  match P.funcs.toList[f]? with
  | none => .mk fun _ _ _ => none
  | some fn => match fn.body with
    | none => .mk fun _ _ _ => none
    | some c => match argPut (fn.params.toList.length + fn.nfree) 0, resC P fn.results.toList with
      | .mk q, .mk res => .mk fun e args s => bf (Nat.ble args.length fn.ntmps)
          (match e.code c ⟨bf (Nat.ble args.length (fn.params.toList.length + fn.nfree)) (q args .empty) (envOf fn.ntmps args 0 .empty), fn.ntmps, [], f, none⟩ s with
            | some (ex, fr, s) => finK P fn res ex fr s
            | none => none) none
theorem callC_run (P : Program) (f : FuncId) (e : Ev) (args : List Value) (s : S) : (callC P f).run e args s = stepCall P (fun _ _ _ _ => none) e f args s := by
  unfold callC stepCall
  cases P.funcs.toList[f]? with
  | none => rfl
  | some fn =>
    simp only
    cases fn.body with
    | none => rfl
    | some c =>
      simp only
      rw [Clo.eta (argPut (fn.params.toList.length + fn.nfree) 0), Clo.eta (resC P fn.results.toList)]
      simp only [Clo.run_mk, bf_eq]
      cases hb : Nat.ble args.length fn.ntmps with
      | false => rfl
      | true =>
        have hl : args.length ≤ fn.ntmps := by rw [Nat.ble_eq] at hb; exact hb
        have he : (bif Nat.ble args.length (fn.params.toList.length + fn.nfree) then (argPut (fn.params.toList.length + fn.nfree) 0).run args .empty else envOf fn.ntmps args 0 .empty) = envOf fn.ntmps args 0 .empty := by
          cases hp : Nat.ble args.length (fn.params.toList.length + fn.nfree) with
          | false => rfl
          | true => rw [cond_true, argPut_run fn.ntmps _ 0 args .empty (by rw [Nat.ble_eq] at hp; exact hp) (by omega)]
        rw [he, cond_true, cond_true]
        cases e.code c ⟨envOf fn.ntmps args 0 .empty, fn.ntmps, [], f, none⟩ s with
        | none => rfl
        | some x =>
          obtain ⟨ex, fr, s'⟩ := x
          exact finK_eq P fn ex fr s'

def stepCallK (P : Program) (ext : Ev → FuncId → List Value → S → Option (CRes × S)) (e : Ev) (f : FuncId) (args : List Value) (s : S) : Option (CRes × S) :=
  Option.rec (motive := fun _ => Option (CRes × S)) ((callC P f).run e args s) (fun r => some r) (ext e f args s)
theorem stepCallK_eq (P : Program) (ext : Ev → FuncId → List Value → S → Option (CRes × S)) (e : Ev) (f : FuncId) (args : List Value) (s : S) : stepCallK P ext e f args s = stepCall P ext e f args s := by
  unfold stepCallK
  rw [callC_run]
  unfold stepCall
  cases ext e f args s <;> rfl

def Ev.nextK (P : Program) (ext : Ev → FuncId → List Value → S → Option (CRes × S)) (e : Ev) : Ev := ⟨runK P e, stepCallK P ext e, stepYield e⟩
/-- The compiled evaluator, with so much fuel. -/
def evK (P : Program) (ext : Ev → FuncId → List Value → S → Option (CRes × S)) (n : Nat) : Ev := Nat.rec Ev.none (fun _ e => e.nextK P ext) n
end
end Go.Sv

/- The compiled evaluator is sound. -/
namespace Go.Sv
open Go.RowKit (Below)

section
variable {P : Program} {B : Nat}

/-- What 'Sound' says of one piece of code. -/
def CodeS (P : Program) (ok : Cx) (B : Nat) (c : Code) (run : Fr → S → Option (Exit × Fr × S)) : Prop :=
  ∀ {fr s ex fr' s'}, run fr s = some (ex, fr', s') → ok c → ∀ {m w b a k cs t}, SR P ok m B s w → B ≤ w.heap.size → FrR P m fr b a → Starts c k t →
    ∃ m' w' a', m.le m' ∧ SR P ok m' B s' w' ∧ Below B w w' ∧ FrE P m' ex fr' b a' ∧ ArrR P m' (lone (b.atR a t) cs w) b k cs a' w' ex

open Classical in
/-- An evaluator that carries out two pieces of code otherwise. -/
noncomputable def Ev.with2 (e : Ev) (x y : Code) (f g : Fr → S → Option (Exit × Fr × S)) : Ev :=
  ⟨fun c fr s => if c = x then f fr s else if c = y then g fr s else e.code c fr s, e.call, e.yield⟩

theorem with2_sound {ok : Cx} {e : Ev} (he : Sound P ok B e) {x y : Code} {f g : Fr → S → Option (Exit × Fr × S)} (hf : CodeS P ok B x f) (hg : CodeS P ok B y g) : Sound P ok B (e.with2 x y f g) where
  code {c fr s ex fr' s'} h hc {m w b a k cs t} h1 h2 h3 h4 := by
    unfold Ev.with2 at h
    simp only at h
    split at h
    · rename_i hx; subst hx; exact hf h hc h1 h2 h3 h4
    · split at h
      · rename_i hy; subst hy; exact hg h hc h1 h2 h3 h4
      · exact he.code h hc h1 h2 h3 h4
  call h := he.call h
  yield h := he.yield h

theorem with2_x (e : Ev) (x y : Code) (f g : Fr → S → Option (Exit × Fr × S)) : (e.with2 x y f g).code x = f := by
  funext fr s; simp [Ev.with2]
theorem with2_y (e : Ev) (x y : Code) (f g : Fr → S → Option (Exit × Fr × S)) (h : y = x → g = f) : (e.with2 x y f g).code y = g := by
  funext fr s
  unfold Ev.with2
  by_cases hx : y = x
  · simp only [hx, if_true, h hx]
  · simp only [if_neg hx, if_true]
theorem with2_other (e : Ev) (x y c : Code) (f g : Fr → S → Option (Exit × Fr × S)) (h1 : c ≠ x) (h2 : c ≠ y) : (e.with2 x y f g).code c = e.code c := by
  funext fr s; simp [Ev.with2, h1, h2]

theorem loop_ne (c : Code) : Code.loop c ≠ c := by
  intro h
  induction c with
  | loop c ih => exact ih (by injection h)
  | _ => cases h

theorem codeK_sim (hP : ∀ ok : Cx, ok.ok = okC P → ProgOK P ok) (hm : P.follows .mixedOrders = true) {e : Ev} (he : ∀ ok : Cx, ok.ok = okC P → Sound P ok B e) :
    ∀ (c : Code) (ok : Cx), ok.ok = okC P → CodeS P ok B c (runK P e c) := by
  have hstep : ∀ (e' : Ev), (∀ ok : Cx, ok.ok = okC P → Sound P ok B e') → ∀ (c : Code) (ok : Cx), ok.ok = okC P → CodeS P ok B c (stepCode P e' c) := by
    intro e' he' c ok hok fr s ex fr' s' h hc m w b a k cs t h1 h2 h3 h4
    have hp := hP ok hok
    have hall : ∀ ok' : Cx, ok'.ok = ok.ok → Sound P ok' B e' := fun ok' h => he' ok' (h.trans hok)
    have hD : DrawS P ok B := drawS hp hm (fun {i ops} h => by
      rw [hok] at h
      simp only [okC, codeOK, regB, Bool.and_eq_true, Bool.not_true, Bool.false_or] at h
      exact h.2)
    exact stepCode_sim hp hD hall (fun {_ _ _ _ _ _ _ _ _} h hok {_ _ _ _ _ _} hs hB hf => rangeA_sim hp (hall ok rfl) h hok hs hB hf) h hc h1 h2 h3 h4
  have hto : ∀ (c : Code) (e' : Ev), (∀ ok : Cx, ok.ok = okC P → Sound P ok B e') → (∀ fr s, runK P e c fr s = stepCode P e' c fr s) → ∀ ok : Cx, ok.ok = okC P → CodeS P ok B c (runK P e c) := by
    intro c e' he' heq ok hok fr s ex fr' s' h
    rw [heq] at h
    exact hstep e' he' c ok hok h
  intro c
  induction c with
  | seq a b iha ihb =>
    refine hto _ (e.with2 a b (runK P e a) (runK P e b)) (fun ok hok => with2_sound (he ok hok) (iha ok hok) (ihb ok hok)) fun fr s => ?_
    rw [runK_seq]
    simp only [stepCode]
    rw [with2_x, with2_y _ _ _ _ _ (fun h => by rw [h])]
  | cond x a b iha ihb =>
    refine hto _ (e.with2 a b (runK P e a) (runK P e b)) (fun ok hok => with2_sound (he ok hok) (iha ok hok) (ihb ok hok)) fun fr s => ?_
    rw [runK_cond]
    simp only [stepCode]
    rw [with2_x, with2_y _ _ _ _ _ (fun h => by rw [h])]
    rfl
  | block id a iha =>
    refine hto _ (e.with2 a a (runK P e a) (runK P e a)) (fun ok hok => with2_sound (he ok hok) (iha ok hok) (iha ok hok)) fun fr s => ?_
    rw [runK_block]
    simp only [stepCode]
    rw [with2_x]
  | loop a iha =>
    refine hto _ (e.with2 a a (runK P e a) (runK P e a)) (fun ok hok => with2_sound (he ok hok) (iha ok hok) (iha ok hok)) fun fr s => ?_
    rw [runK_loop]
    simp only [stepCode]
    rw [with2_x, with2_other _ _ _ _ _ _ (loop_ne a) (loop_ne a)]
  | scope a iha =>
    refine hto _ (e.with2 a a (runK P e a) (runK P e a)) (fun ok hok => with2_sound (he ok hok) (iha ok hok) (iha ok hok)) fun fr s => ?_
    rw [runK_scope]
    simp only [stepCode]
    rw [with2_x]
  | region i ops draw =>
    refine hto _ e he fun fr s => ?_
    rw [runK_region]
    rfl
  | _ => exact hto _ e he fun fr s => rfl

theorem soundK_next (hP : ∀ ok : Cx, ok.ok = okC P → ProgOK P ok) (hm : P.follows .mixedOrders = true) {ext : Ev → FuncId → List Value → S → Option (CRes × S)} (hext : ExtOK' P (okC P) B ext) {e : Ev}
    (he : ∀ ok : Cx, ok.ok = okC P → Sound P ok B e) : ∀ ok : Cx, ok.ok = okC P → Sound P ok B (e.nextK P ext) := by
  intro ok hok
  have hs := sound_next hP hm hext he ok hok
  exact ⟨fun {c fr s ex fr' s'} h hc {m w b a k cs t} h1 h2 h3 h4 => codeK_sim hP hm he c ok hok h hc h1 h2 h3 h4, fun {f args s r s'} h => hs.call (show stepCall P ext e f args s = some (r, s') by rw [← stepCallK_eq]; exact h), fun h => hs.yield h⟩

theorem soundK (hP : progOK P = true) (hm : P.follows .mixedOrders = true) {ext : Ev → FuncId → List Value → S → Option (CRes × S)} (hext : ExtOK' P (okC P) B ext) :
    ∀ n, ∀ ok : Cx, ok.ok = okC P → Sound P ok B (evK P ext n)
  | 0, ok, _ => sound_none ok
  | n + 1, ok, hok => soundK_next (fun _ h => ProgOK.of_eq (ok := baseCx P) (progOK_spec hP) h) hm hext (soundK hP hm hext n) ok hok
end
end Go.Sv
