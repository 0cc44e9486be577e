/- The evaluator is sound: copies, ranges, frames and calls. -/
import Derived.Test.YteialihbechmoaaGreatDoorE03
import Derived.AtR

/- Appending, as the machine carries it out: the whole operation. -/
namespace Go.Sv
open Go.RowKit (Below)

section
variable {P : Program} {ok : Cx} {w w' : World} {m : Mu} {B : Nat} {s : S}

/-- What an append's machine side comes to, once its parts are known. -/
theorem append_run {argTypes : Array TypeId} {rt st xt elem : TypeId} {args : Array Value} {base : Option Addr} {len cap n : Nat} {x' z : Value} {zeros : Bool} {d : TypeDesc} {app : Sem (Array Value)}
    (h0 : args.toList[0]? = some (.slice base len cap)) (h1 : args.toList[1]? = some x') (ht0 : argTypes.toList[0]? = some st) (ht1 : argTypes.toList[1]? = some xt)
    (hu : P.underlying st = some (.slice elem)) (hz : zeroOf P elem = some z)
    (hb : 0 < bytesOf P elem) (hn : (len + n) * bytesOf P elem ≤ 140737488355328)
    (hd : P.underlying xt = some d) (hdz : isIntD d = zeros)
    (hzt : zeros = true → ∃ k, x' = .int k (Int.ofNat n) ∧ n * bytesOf P elem ≤ 140737488355328 ∧ n < 9223372036854775808)
    (hzf : zeros = false → ∀ w, (Builtin.lenOf x').run P w = .ok n w)
    (happ : app = (if !zeros then Builtin.firstCells (szOf P elem) n x' else if n * szOf P elem = 0 then pure #[] else do pure (Builtin.zeroCells (← zeroValue elem).cells n))) :
    (Builtin.append_ argTypes rt args).run P w = (if len + n ≤ cap then (do
        let new ← app
        if let some a := base then storeCells (a.add (len * szOf P elem)) new.toList
        pure (.slice base (len + n) cap) : Sem Value)
      else (do
        let newCap ← choose (.appendCap (len + n) cap elem)
        askRoom (newCap * bytesOf P elem)
        let old ← Builtin.firstCells (szOf P elem) len (.slice base len cap)
        let new ← app
        let zz ← zeroValue elem
        pure (.slice (some (← newRow elem (old ++ new ++ Builtin.zeroCells zz.cells (newCap - (len + n))))) (len + n) newCap))).run P w := by
  obtain ⟨i, hi, hby⟩ := zeroOf_known hz
  have a0 : args[0]? = some (.slice base len cap) := by simpa using h0
  have a1 : args[1]? = some x' := by simpa using h1
  have b0 : argTypes[0]? = some st := by simpa using ht0
  have b1 : argTypes[1]? = some xt := by simpa using ht1
  have hsz := (zeroOf_info (w := w) hz).1
  have h63 : ¬ ((len + n : Nat) : Int) > IntKind.i64.max := by
    have : len + n ≤ (len + n) * bytesOf P elem := Nat.le_mul_of_pos_right _ hb
    have e : IntKind.i64.max = 9223372036854775807 := rfl
    rw [e]; omega
  have hnx : ¬ len + n ≤ cap → ¬ Builtin.nextslicecap (len + n) cap * bytesOf P elem > 2 ^ 48 := by
    intro hc
    have h1 := Room.nextslicecap_le' (need := len + n) (old := cap) (by omega)
    have h2 := Nat.mul_le_mul_right (bytesOf P elem) h1
    rw [Nat.mul_assoc] at h2
    omega
  unfold Builtin.append_
  simp only [a0, a1, b0, b1]
  rw [Sem.run_bind, run_underlying hu, Result.andThen_ok]
  dsimp only
  rw [Sem.run_bind, hsz, Result.andThen_ok, Sem.run_bind, run_underlying hd, Result.andThen_ok]
  subst happ
  cases zeros with
  | true =>
    obtain ⟨k, rfl, hc1, hc2⟩ := hzt rfl
    have w1 : IntKind.i64.wrap (Int.ofNat n) = Int.ofNat n := by rw [← wrapQ_eq]; simp only [wrapQ, topOf]; rw [blt_true.2 (by omega), cond_true]
    have t1 : ¬ (Int.ofNat n < 0) := by simp
    have t2 : ¬ (Int.ofNat n * (bytesOf P elem : Int) > 2 ^ 48) := by
      have : Int.ofNat n * (bytesOf P elem : Int) = ((n * bytesOf P elem : Nat) : Int) := by simp
      rw [this]; omega
    cases d <;> simp only [isIntD, reduceCtorEq] at hdz
    have e1 : (Int.ofNat n).toNat = n := rfl
    by_cases hc : len + n ≤ cap
    · simp only [Sem.run_bind, asInt, asIntOf, Sem.run_pure, Result.andThen_ok, w1, if_neg t1, hi, hby, if_neg t2, e1, if_pos hc, if_true]
      rfl
    · have := hnx hc
      simp only [Sem.run_bind, asInt, asIntOf, Sem.run_pure, Result.andThen_ok, w1, if_neg t1, hi, if_neg t2, e1, if_neg hc, if_true, hby, h63, if_neg this, false_and, if_false]
  | false =>
    have hl := hzf rfl
    by_cases hc : len + n ≤ cap
    · cases d <;> first
        | (simp only [isIntD, reduceCtorEq] at hdz; done)
        | (simp only [Sem.run_bind, Sem.run_pure, Result.andThen_ok, Bool.false_eq_true, if_false, hl, if_pos hc]; rfl)
    · have := hnx hc
      cases d <;> first
        | (simp only [isIntD, reduceCtorEq] at hdz; done)
        | (simp only [Sem.run_bind, Sem.run_pure, Result.andThen_ok, Bool.false_eq_true, if_false, hl, if_neg hc, hi, hby, h63, if_neg this, false_and]; done)

/-- Old cells in a longer row. -/
theorem LR.front {x x' y : List Value} (h : LR m x x') {i : Nat} {v : Value} (hv : x[i]? = some v) : ∃ v', (x' ++ y)[i]? = some v' ∧ VR m v v' := by
  obtain ⟨v', hv', hr⟩ := h.getElem? hv
  refine ⟨v', ?_, hr⟩
  have := (List.getElem?_eq_some_iff.1 hv').1
  rw [List.getElem?_append_left this, hv']

theorem size_zeroCells' (z : Array Value) (n : Nat) : (Builtin.zeroCells z n).size = n * z.size := by simp [Builtin.zeroCells]

theorem added_nil {elem xt : TypeId} {x : Value} {add : List Value} (h : addedA P s elem xt x = some (0, add)) : add = [] := by
  unfold addedA at h
  split at h
  · split at h
    · obtain ⟨_, h2⟩ := cond_some h
      simp only [Option.some.injEq, Prod.mk.injEq] at h2
      obtain ⟨rfl, rfl⟩ := h2
      simp [zeroRow]
    · simp at h
  · simp at h
  · split at h
    · split at h
      · rename_i k _ _ l hl
        simp only [Option.some.injEq, Prod.mk.injEq] at h
        obtain ⟨rfl, rfl⟩ := h
        unfold rowOf at hl
        split at hl
        · simpa using hl.symm
        · simpa using hl.symm
        · simpa using hl.symm
        · simp at hl
      · simp at h
    · simp at h
  · simp at h

/-- An append. -/
theorem appendA_sim {argTypes : Array TypeId} {rt : TypeId} {args : Array Value} {dst dst' x x' v : Value} {s' : S} (h : SR P ok m B s w) (hB : B ≤ w.heap.size)
    (h0 : args.toList[0]? = some dst') (h1 : args.toList[1]? = some x') (hdst : VR m dst dst') (hx : VR m x x')
    (ha : appendA P s argTypes dst x = some (v, s')) :
    ∃ m' v' w', (Builtin.append_ argTypes rt args).run P w = .ok v' w' ∧ m.le m' ∧ VR m' v v' ∧ SR P ok m' B s' w' ∧ Below B w w' := by
  unfold appendA at ha
  split at ha
  · rename_i st xt ht0 ht1
    split at ha
    · rename_i elem base len cap hu
      split at ha
      · rename_i n add z0 hadd hz0
        obtain ⟨hb, ha⟩ := cond_some ha
        simp only [Bool.and_eq_true, Nat.ble_eq, blt_true] at hb
        obtain ⟨⟨⟨hb1, hb2⟩, hb3⟩, hb4⟩ := hb
        obtain ⟨zeros, d, app, hd, hdz, hzt, hzf, happ, hadds⟩ := added_sim (ok := ok) (B := B) hz0 hx hadd (by omega)
        obtain ⟨new, hnew, hlnew⟩ := hadds w h
        have hm0 : m s.next = none := by
          cases hmm : m s.next with
          | none => rfl
          | some y => obtain ⟨rb, ro, z⟩ := y; have := (h.dom _ _ _ _ hmm).1; omega
        -- the machine's row
        obtain ⟨base', cap', rfl, hcapEx, hcapR⟩ : ∃ base' cap', dst' = .slice base' len cap' ∧ (cap < big → cap' = cap) ∧
            (base = none ∧ base' = none ∧ cap' = cap ∨ ∃ b o rb ro z o', base = some ⟨b, o, none⟩ ∧ base' = some ⟨rb, o', none⟩ ∧ m b = some (rb, ro, z) ∧ capRel len cap cap' o' z ∧ (o' = ro + o ∨ cap' = 0)) := by
          cases base with
          | none => exact ⟨none, cap, hdst.of_isLeaf rfl, fun _ => rfl, .inl ⟨rfl, rfl, rfl⟩⟩
          | some a =>
            obtain ⟨b, o, rb, ro, z, o', cap', rfl, hm, rfl, hc, ho⟩ := hdst.slice_inv
            refine ⟨_, cap', rfl, fun hlt => ?_, .inr ⟨b, o, rb, ro, z, o', rfl, rfl, hm, hc, ho⟩⟩
            rcases hc.2 with ⟨_, h⟩ | ⟨h, _⟩
            · exact h
            · omega
        rw [append_run (rt := rt) h0 h1 ht0 ht1 hu hz0 hb2 hb3 hd hdz hzt hzf happ]
        cases hlb : Nat.ble (len + n) (lbOf cap) with
        | true =>
          rw [hlb, cond_true] at ha
          rw [Nat.ble_eq] at hlb
          have hlb2 : len + n ≤ cap' ∧ ∀ o' z, capRel len cap cap' o' z → capRel (len + n) cap cap' o' z := by
            unfold lbOf at hlb
            cases hc : Nat.blt cap big with
            | true =>
              rw [hc, cond_true] at hlb
              rw [blt_true] at hc
              have := hcapEx hc
              exact ⟨by omega, fun _ _ _ => ⟨by omega, .inl ⟨hc, this⟩⟩⟩
            | false =>
              rw [hc, cond_false] at hlb
              have hc' : big ≤ cap := by
                rcases Nat.lt_or_ge cap big with h | h
                · rw [blt_true.2 h] at hc; cases hc
                · exact h
              have hle : cap % big ≤ cap' := by
                rcases hcapR with ⟨_, _, rfl⟩ | ⟨_, _, _, _, z, o', _, _, _, hr, _⟩
                · exact Nat.mod_le _ _
                · rcases hr.2 with ⟨h, _⟩ | ⟨_, h, _⟩
                  · omega
                  · exact h
              refine ⟨by omega, fun o' z hr => ⟨by omega, .inr ⟨hc', hle, hlb, ?_⟩⟩⟩
              rcases hr.2 with ⟨h, _⟩ | ⟨_, _, _, h⟩
              · omega
              · exact h
          obtain ⟨hle, hcr⟩ := hlb2
          rw [if_pos hle, Sem.run_bind, hnew, Result.andThen_ok]
          cases hn0 : Nat.beq n 0 with
          | true =>
            have := Nat.eq_of_beq_eq_true hn0
            subst this
            have := added_nil hadd
            subst this
            have := hlnew.nil_inv
            rw [hn0, cond_true] at ha
            simp only [Option.some.injEq, Prod.mk.injEq] at ha
            obtain ⟨rfl, rfl⟩ := ha
            refine ⟨m, _, w, ?_, Mu.le.refl m, hdst, h, Below.refl B w⟩
            rw [this]
            cases base' <;> rfl
          | false =>
            rw [hn0, cond_false] at ha
            rcases hcapR with ⟨rfl, rfl, rfl⟩ | ⟨b, o, rb, ro, z, o', rfl, rfl, hm, hr, ho⟩
            · simp at ha
            · dsimp only at ha
              split at ha
              · rename_i s2 hs
                simp only [Option.some.injEq, Prod.mk.injEq] at ha
                obtain ⟨rfl, rfl⟩ := ha
                have ho' : o' = ro + o := ho.resolve_right (by
                  have : n ≠ 0 := by rintro rfl; simp at hn0
                  omega)
                obtain ⟨w2, hrun, hsr, hbel⟩ := storeN_sim h hm hlnew hs
                refine ⟨m, .slice (some ⟨rb, o', none⟩) (len + n) cap', w2, ?_, Mu.le.refl m, .slice hm (hcr _ _ hr) ho, hsr, hbel⟩
                subst ho'
                have : (⟨rb, ro + o, none⟩ : Addr).add (len * szOf P elem) = ⟨rb, ro + (o + len * szOf P elem), none⟩ := by
                  simp [Addr.add, Nat.add_assoc]
                simp only [this, Sem.run_bind, hrun, Result.andThen_ok, Sem.run_pure]
              · simp at ha
        | false =>
          rw [hlb, cond_false] at ha
          have hlb' : lbOf cap < len + n := by
            rcases Nat.lt_or_ge (lbOf cap) (len + n) with h | h
            · exact h
            · rw [show Nat.ble (len + n) (lbOf cap) = true by rw [Nat.ble_eq]; exact h] at hlb; cases hlb
          split at ha
          · rename_i old hold
            cases hln : (Nat.beq old.length (len * szOf P elem) && Nat.beq add.length (n * szOf P elem)) with
            | false => rw [hln] at ha; simp at ha
            | true =>
              rw [hln, Bool.not_true, cond_false] at ha
              simp only [Bool.and_eq_true, Nat.beq_eq] at hln
              obtain ⟨hl1, hl2⟩ := hln
              have hlen2 : new.toList.length = n * szOf P elem := by rw [← hlnew.1, hl2]
              have hg1 := growCap_ge (sz := szOf P elem) (n := len + n)
              have hg2 := growCap_mod (sz := szOf P elem) hb4
              have hg3 := growCap_div (sz := szOf P elem) hb4
              -- the machine makes a new row
              have real : ¬ len + n ≤ cap' → ∀ s2 : S, SR P ok m B s2 w → s.next < s2.next → s2.get s.next = some (.cells (old ++ add) false) →
                  ∃ m' v' w', (do
                    let newCap ← choose (.appendCap (len + n) cap' elem)
                    askRoom (newCap * bytesOf P elem)
                    let old ← Builtin.firstCells (szOf P elem) len (.slice base' len cap')
                    let new ← app
                    let zz ← zeroValue elem
                    pure (.slice (some (← newRow elem (old ++ new ++ Builtin.zeroCells zz.cells (newCap - (len + n))))) (len + n) newCap) : Sem Value).run P w = .ok v' w' ∧ m.le m' ∧
                    VR m' (.slice (some ⟨s.next, 0, none⟩) (len + n) (growCap (szOf P elem) (len + n))) v' ∧ SR P ok m' B s2 w' ∧ Below B w w' := by
                intro hc s2 h2 hlt hget
                let newCap := len + n + w.tape w.drawn (.appendCap (len + n) cap' elem) % (2 ^ 63 - (len + n))
                have hnc : len + n ≤ newCap := Nat.le_add_right _ _
                have h1 : SR P ok m B s { w with drawn := w.drawn + 1 } := h.of_heap rfl
                obtain ⟨old', hro, hlo⟩ := firstCells_sim (sz := szOf P elem) (n := len) h1 hdst (fun a k c e => by cases e; exact Nat.le_refl _) hold
                obtain ⟨new', hrn, hlnn⟩ := hadds _ h1
                let arr := old' ++ new' ++ Builtin.zeroCells z0.cells (newCap - (len + n))
                have hzs : z0.cells.size = szOf P elem := by simpa using (zeroOf_info (P := P) (w := w) hz0).2
                have hs1 : old'.size = len * szOf P elem := by have := hlo.1; rw [hl1] at this; simpa using this.symm
                have hs2 : new'.size = n * szOf P elem := by have := hlnn.1; rw [hl2] at this; simpa using this.symm
                have harr : arr.size = newCap * szOf P elem := by
                  show (old' ++ new' ++ Builtin.zeroCells z0.cells (newCap - (len + n))).size = _
                  rw [Array.size_append, Array.size_append, size_zeroCells', hs1, hs2, hzs, ← Nat.add_mul, ← Nat.add_mul]
                  congr 1; omega
                have hgrew : Grew w { w with heap := w.heap.push (.cells arr elem), drawn := w.drawn + 1 } (.cells arr elem) := ⟨rfl, rfl, rfl, rfl⟩
                have hsr := h2.grew (z := arr.size) (o := .cells (old ++ add) false) hgrew hB hm0 h.res_next hlt hget ⟨arr, elem, (0, 0), rfl, rfl, fun i v hv => by
                    rw [Nat.zero_add]
                    have := (hlo.append hlnn).front (y := (Builtin.zeroCells z0.cells (newCap - (len + n))).toList) hv
                    rw [← Array.getElem?_toList]
                    simpa [arr] using this, fun _ j _ hf => by simp at hf⟩
                refine ⟨_, .slice (some ⟨w.heap.size, 0, none⟩) (len + n) newCap, _, ?_, Mu.le_ins hm0, ?_, hsr, hgrew.below hB⟩
                · have hch : ∀ w, (choose (.appendCap (len + n) cap' elem)).run P w = .ok (len + n + w.tape w.drawn (.appendCap (len + n) cap' elem) % (2 ^ 63 - (len + n))) { w with drawn := w.drawn + 1 } := by
                    intro w
                    simp only [run_choose, Question.forced, Bool.false_eq_true, if_false, Question.cut]
                  simp only [Sem.run_bind, hch, Result.andThen_ok, Room.run_askRoom, hro, hrn, run_zeroValue hz0, newRow_run, Sem.run_pure]
                  rfl
                · refine .slice (Mu.ins_same m _ _) ⟨hnc, .inr ⟨hg1, by rw [hg2]; exact hnc, by rw [hg2]; exact Nat.le_refl _, ?_⟩⟩ (.inl rfl)
                  rw [hg3, harr]; simp
              cases hcb : Nat.blt cap big with
              | true =>
                rw [hcb, cond_true] at ha
                have hce := hcapEx (blt_true.1 hcb)
                have hlbc : lbOf cap = cap := by unfold lbOf; rw [hcb, cond_true]
                have hc : ¬ len + n ≤ cap' := by omega
                simp only [Option.some.injEq, Prod.mk.injEq] at ha
                obtain ⟨rfl, rfl⟩ := ha
                rw [if_neg hc]
                exact real hc _ (h.new _) (Nat.lt_succ_self _) (by rw [S.get_new, if_pos rfl])
              | false =>
                rw [hcb, cond_false] at ha
                split at ha
                · rename_i b o _
                  split at ha
                  · rename_i c hgb
                    obtain ⟨hdv, ha⟩ := cond_some ha
                    simp only [Bool.and_eq_true, Nat.beq_eq, List.all_eq_true] at hdv
                    obtain ⟨hdv, hone⟩ := hdv
                    simp only [Option.some.injEq, Prod.mk.injEq] at ha
                    obtain ⟨rfl, rfl⟩ := ha
                    rcases hcapR with ⟨hx1, _⟩ | ⟨b2, o2, rb, ro, z, o', e1, rfl, hm, hr, ho⟩
                    · cases hx1
                    · cases e1
                      have hbn : b < s.next := (h.dom _ _ _ _ hm).1
                      by_cases hc : len + n ≤ cap'
                      · rw [if_pos hc, Sem.run_bind, hnew, Result.andThen_ok]
                        obtain ⟨c', e, fz, k1, k2, k3, k4⟩ := h.cells hm hgb
                        have ho' : o' = ro + o := ho.resolve_right (by omega)
                        have hroom : o' + cap' * szOf P elem ≤ z := by
                          rcases hr.2 with ⟨h, _⟩ | ⟨_, _, _, h⟩
                          · rw [blt_true.2 h] at hcb; cases hcb
                          · rw [hdv] at h; simpa using h
                        have hmul : (len + n) * szOf P elem ≤ cap' * szOf P elem := Nat.mul_le_mul_right _ hc
                        rw [Nat.add_mul] at hmul
                        have hone' : ∀ v ∈ new.toList, v.oneCell' = true := by
                          intro v hv
                          obtain ⟨i, hi, rfl⟩ := List.mem_iff_getElem.1 hv
                          have hi2 : i < add.length := by have := hlnew.1; omega
                          exact oneC_VR (hlnew.2 i hi2 hi) (hone _ (List.getElem_mem hi2))
                        obtain ⟨w2, hrun, hw⟩ := run_storeCells_blk (P := P) rb e fz new.toList 0 (o' + len * szOf P elem) c' w k1 (by rw [hlen2, k2]; omega) hone'
                          (fun j hj => k4 rfl _ (by rw [hlen2] at hj; omega))
                        have hov : ∀ i, (over c'.toList (o' + len * szOf P elem + 0) new.toList)[i]? = if o' + len * szOf P elem ≤ i ∧ i < o' + len * szOf P elem + n * szOf P elem then new.toList[i - (o' + len * szOf P elem)]? else c'.toList[i]? := by
                          intro i
                          rw [over_getElem? (by rw [hlen2]; simp [k2]; omega), hlen2]
                          rfl
                        have hgi := h.grewIn (c2 := old ++ add) (o' := o') hm hgb hw (by
                            have := over_length (c := c'.toList) (o := o' + len * szOf P elem + 0) (vs := new.toList) (by rw [hlen2]; simp [k2]; omega)
                            simpa [k2] using this) (k4 rfl) (fun i v hv => by
                          have e1 : ((over c'.toList (o' + len * szOf P elem + 0) new.toList).toArray)[o' + i]? = (over c'.toList (o' + len * szOf P elem + 0) new.toList)[o' + i]? := by simp
                          rw [e1, hov]
                          by_cases hi : i < len * szOf P elem
                          · rw [if_neg (by omega)]
                            rw [List.getElem?_append_left (by omega)] at hv
                            have hlen0 : len ≠ 0 := by rintro rfl; simp at hi
                            have hc2 : c[o + i]? = some v := by
                              unfold rowOf at hold
                              have hz : Nat.beq len 0 = false := by rw [nat_beq]; simpa using hlen0
                              simp only [hz, cond_false, loadN, hgb] at hold
                              obtain ⟨_, hold⟩ := cond_some hold
                              simp only [Option.some.injEq] at hold
                              subst hold
                              rw [List.getElem?_take, if_pos hi, List.getElem?_drop] at hv
                              exact hv
                            obtain ⟨v', g1, g2⟩ := k3 _ _ hc2
                            refine ⟨v', ?_, g2⟩
                            rw [ho', Nat.add_assoc]
                            simpa using g1
                          · rw [List.getElem?_append_right (by omega)] at hv
                            have hil := (List.getElem?_eq_some_iff.1 hv).1
                            rw [if_pos (by omega)]
                            obtain ⟨v', g1, g2⟩ := hlnew.getElem? hv
                            refine ⟨v', ?_, g2⟩
                            rw [← g1]
                            congr 1
                            omega) hm0
                        refine ⟨_, .slice (some ⟨rb, o', none⟩) (len + n) cap', w2, ?_, Mu.le_ins hm0, ?_, hgi.1, hgi.2⟩
                        · have : (⟨rb, o', none⟩ : Addr).add (len * szOf P elem) = ⟨rb, o' + len * szOf P elem, none⟩ := by
                            unfold Addr.add
                            split
                            · rename_i h0; rw [h0]; rfl
                            · rfl
                          simp only [this, Sem.run_bind, hrun, Result.andThen_ok, Sem.run_pure]
                        · refine .slice (Mu.ins_same m _ _) ⟨hc, .inr ⟨hg1, by rw [hg2]; exact hc, by rw [hg2]; exact Nat.le_refl _, ?_⟩⟩ (.inl rfl)
                          rw [hg3]; simpa using hroom
                      · rw [if_neg hc]
                        exact real hc _ ((h.new _).kill b) (Nat.lt_succ_self _) (by rw [S.get_kill, if_neg (by omega), S.get_new, if_pos rfl])
                  · simp at ha
                · simp at ha
          · simp at ha
      · simp at ha
    · simp at ha
  · simp at ha
end
end Go.Sv

/- Copying, clearing, iterating, as the machine carries it out; all the operations that write. -/
namespace Go.Sv
open Go.RowKit (Below)

section
variable {P : Program} {ok : Cx} {w w' : World} {m : Mu} {B : Nat} {s : S}

theorem copyA_sim {argTypes : Array TypeId} {rt : TypeId} {args : Array Value} {dst dst' x x' v : Value} {s' : S} (h : SR P ok m B s w)
    (h0 : args.toList[0]? = some dst') (h1 : args.toList[1]? = some x') (hdst : VR m dst dst') (hx : VR m x x')
    (ha : copyA P s argTypes dst x = some (v, s')) :
    ∃ w', (Builtin.copy_ argTypes rt args).run P w = .ok v w' ∧ isLeaf v = true ∧ SR P ok m B s' w' ∧ Below B w w' := by
  have a0 : args[0]? = some dst' := by simpa using h0
  have a1 : args[1]? = some x' := by simpa using h1
  unfold copyA at ha
  split at ha
  · rename_i dt ht0
    have b0 : argTypes[0]? = some dt := by simpa using ht0
    split at ha
    · rename_i elem base len cap k hu hk
      split at ha
      · rename_i l hl
        obtain ⟨hkn, ha⟩ := cond_some ha
        have hlen : ∀ w, (Builtin.lenOf x').run P w = .ok k w := by
          intro w
          unfold lenOfA at hk
          split at hk
          · simp only [Option.some.injEq] at hk; subst hk
            cases hx with
            | leaf => rfl
            | slice => rfl
          · simp only [Option.some.injEq] at hk; subst hk
            cases hx.of_isLeaf rfl
            rfl
          · simp at hk
        obtain ⟨c, hrc, hlc⟩ := firstCells_sim (sz := szOf P elem) (n := min k len) h hx (fun a k' c e => by
          subst e
          simp only [lenOfA, Option.some.injEq] at hk
          subst hk; exact Nat.min_le_left _ _) hl
        obtain ⟨base', cap', rfl, hb⟩ : ∃ base' cap', dst' = .slice base' len cap' ∧
            (base = none ∧ base' = none ∨ ∃ b o rb ro z o', base = some ⟨b, o, none⟩ ∧ base' = some ⟨rb, o', none⟩ ∧ m b = some (rb, ro, z) ∧ capRel len cap cap' o' z ∧ (o' = ro + o ∨ cap' = 0)) := by
          cases base with
          | none => exact ⟨none, cap, hdst.of_isLeaf rfl, .inl ⟨rfl, rfl⟩⟩
          | some a =>
            obtain ⟨b, o, rb, ro, z, o', cap', rfl, hm, rfl, hc, ho⟩ := hdst.slice_inv
            exact ⟨_, cap', rfl, .inr ⟨b, o, rb, ro, z, o', rfl, rfl, hm, hc, ho⟩⟩
        have hrun : (Builtin.copy_ argTypes rt args).run P w = (do
            if let some a := base' then storeCells a c.toList
            pure (Value.int .i64 (min k len : Nat)) : Sem Value).run P w := by
          simp only [Builtin.copy_, a0, a1, b0, Sem.run_bind, run_underlying hu, Result.andThen_ok, hlen, run_sizeOf hkn, Nat.min_def] at hrc ⊢
          simp only [hrc, Result.andThen_ok]
          rfl
        rw [hrun]
        cases hn : Nat.beq (min k len) 0 with
        | true =>
          rw [hn, cond_true] at ha
          simp only [Option.some.injEq, Prod.mk.injEq] at ha
          obtain ⟨rfl, rfl⟩ := ha
          have hn0 := Nat.eq_of_beq_eq_true hn
          rw [hn0] at hl ⊢
          have hl0 : l = [] := by
            unfold rowOf at hl
            split at hl <;> simp_all
          subst hl0
          have hc0 := hlc.nil_inv
          refine ⟨w, ?_, rfl, h, Below.refl B w⟩
          rw [hc0]
          cases base' <;> rfl
        | false =>
          rw [hn, cond_false] at ha
          have hn0 : min k len ≠ 0 := fun e => by rw [e] at hn; simp at hn
          rcases hb with ⟨rfl, rfl⟩ | ⟨b, o, rb, ro, z, o', rfl, rfl, hm, hr, ho⟩
          · simp at ha
          · dsimp only at ha
            split at ha
            · rename_i s2 hs
              simp only [Option.some.injEq, Prod.mk.injEq] at ha
              obtain ⟨rfl, rfl⟩ := ha
              obtain ⟨w2, hrun2, hsr, hbel⟩ := storeN_sim h hm hlc hs
              have ho' : o' = ro + o := ho.resolve_right (by have := hr.1; omega)
              subst ho'
              refine ⟨w2, ?_, rfl, hsr, hbel⟩
              simp only [Sem.run_bind, hrun2, Result.andThen_ok, Sem.run_pure]
            · simp at ha
      · simp at ha
    · simp at ha
  · simp at ha

theorem clearA_sim {argTypes : Array TypeId} {rt : TypeId} {args : Array Value} {dst dst' : Value} {s' : S} (h : SR P ok m B s w)
    (h0 : args.toList[0]? = some dst') (hdst : VR m dst dst') (ha : clearA P s argTypes dst = some s') :
    ∃ w', (Builtin.clear_ argTypes rt args).run P w = .ok undef w' ∧ SR P ok m B s' w' ∧ Below B w w' := by
  have a0 : args[0]? = some dst' := by simpa using h0
  unfold clearA at ha
  split at ha
  · rename_i t ht0
    have b0 : argTypes[0]? = some t := by simpa using ht0
    split at ha
    · rename_i e base cap hu
      simp only [Option.some.injEq] at ha; subst ha
      have : ∃ base' cap', dst' = .slice base' 0 cap' := by
        cases base with
        | none => exact ⟨none, cap, hdst.of_isLeaf rfl⟩
        | some a =>
          obtain ⟨b, o, rb, ro, z, o', cap', rfl, hm, rfl, hc, ho⟩ := hdst.slice_inv
          exact ⟨_, cap', rfl⟩
      obtain ⟨base', cap', rfl⟩ := this
      refine ⟨w, ?_, h, Below.refl B w⟩
      simp only [Builtin.clear_, a0, b0, Sem.run_bind, run_underlying hu, Result.andThen_ok]
      cases base' <;> rfl
    · rename_i elem b o n cap hn hu
      split at ha
      · rename_i z hz
        obtain ⟨b', o1, rb, ro, zz, o', cap', hab, hm, rfl, hcap, ho⟩ := hdst.slice_inv
        cases hab
        have hn0 : n ≠ 0 := fun e => hn e
        have ho' : o' = ro + o := ho.resolve_right (by have := hcap.1; omega)
        subst ho'
        have hzl := (zeroOf_info (P := P) (w := w) hz).2
        have hsz : z.cells.size = szOf P elem := by simpa using hzl
        have hlr : LR m (zeroRow z.cells.toList (n * szOf P elem)) (Builtin.zeroCells z.cells n).toList := by
          have hp : 0 < n * szOf P elem → 0 < z.cells.size := fun hp => by rw [hsz]; exact Nat.pos_of_mul_pos_left hp
          have hrow := zeroRow_eq (zc := z.cells) (n := n * szOf P elem) hp
          have : (Builtin.zeroCells z.cells n).toList = zeroRow z.cells.toList (n * szOf P elem) := by
            rw [hrow]; simp only [Builtin.zeroCells, hsz]
          rw [this]
          exact LR.of_leaf (zeroRow_leaf hp (leafy_cells (zeroOf_some hz).choose_spec.2.2.1))
        obtain ⟨w2, hrun2, hsr, hbel⟩ := storeN_sim h hm hlr ha
        refine ⟨w2, ?_, hsr, hbel⟩
        obtain ⟨n', rfl⟩ : ∃ n', n = n' + 1 := ⟨n - 1, by omega⟩
        simp only [Builtin.clear_, a0, b0, Sem.run_bind, run_underlying hu, Result.andThen_ok, run_zeroValue hz, hrun2, Sem.run_pure]
        rfl
      · simp at ha
    · simp at ha
  · simp at ha

theorem EntsR.cons_inv {e : MapEntry} {es es' : List MapEntry} (h : EntsR m (e :: es) es') : ∃ e' es2, es' = e' :: es2 ∧ EntR m e e' ∧ EntsR m es es2 := by
  obtain ⟨h1, h2⟩ := h
  cases es' with
  | nil => simp at h1
  | cons e' es2 =>
    refine ⟨e', es2, rfl, h2 0 (by simp) (by simp), by simpa using h1, fun i a b => ?_⟩
    exact h2 (i + 1) (by simpa using a) (by simpa using b)
theorem EntsR.cons {e e' : MapEntry} {es es' : List MapEntry} (he : EntR m e e') (h : EntsR m es es') : EntsR m (e :: es) (e' :: es') := by
  refine ⟨by simp [h.1], fun i a b => ?_⟩
  cases i with
  | zero => exact he
  | succ i => exact h.2 i _ _
theorem EntsR.filter (p : Nat → Bool) : ∀ {es es' : List MapEntry}, EntsR m es es' → EntsR m (es.filter fun e => p e.born) (es'.filter fun e => p e.born)
  | [], es', h => by
    have : es' = [] := by have := h.1; simpa using this.symm
    subst this; exact h
  | e :: es, es', h => by
    obtain ⟨e', es2, rfl, he, hr⟩ := h.cons_inv
    have ih := EntsR.filter p hr
    rw [List.filter_cons, List.filter_cons, he.born]
    split
    · exact ih.cons he
    · exact ih
theorem EntsR.all (p : Nat → Bool) : ∀ {es es' : List MapEntry}, EntsR m es es' → (es'.all fun e => p e.born) = (es.all fun e => p e.born)
  | [], es', h => by
    have : es' = [] := by have := h.1; simpa using this.symm
    subst this; rfl
  | e :: es, es', h => by
    obtain ⟨e', es2, rfl, he, hr⟩ := h.cons_inv
    rw [List.all_cons, List.all_cons, he.born, EntsR.all p hr]

theorem nextA_sim {it it' v : Value} {b : Bool} {t : TypeId} {s' : S} (h : SR P ok m B s w) (hit : VR m it it') (ha : nextA s it b = some (v, s')) :
    ∃ v' w', (Instr.next it' b t).run P w = .ok v' w' ∧ VR m v v' ∧ SR P ok m B s' w' ∧ Below B w w' := by
  have hover : VR m (.tuple #[.bool false]) (.tuple #[.bool false]) := LR.tuple (LR.of_leaf (by rfl))
  unfold nextA at ha
  split at ha
  · rename_i r
    obtain ⟨b0, o, rb, ro, z, hab, hm, rfl⟩ := hit.ptr_inv
    cases hab
    split at ha
    · rename_i x pos hg
      obtain ⟨rfl, hobj⟩ := h.blk _ _ _ _ _ hm hg
      split at ha
      · rename_i hlt
        simp only [Option.some.injEq, Prod.mk.injEq] at ha
        obtain ⟨rfl, rfl⟩ := ha
        obtain ⟨h3, h4⟩ := h.put (o2 := .strIter x (pos + (Utf8.decode x pos).2)) hm hg rfl (wrote_set w rb (.stringIter x (pos + (Utf8.decode x pos).2))) ⟨rfl, rfl⟩
        refine ⟨.tuple #[.bool true, .int .i64 pos, .int .i32 (Utf8.decode x pos).1], _, ?_, ?_, h3, h4⟩
        rotate_left
        · exact LR.tuple (LR.of_leaf (by rfl))
        · simp only [Instr.next, Nat.zero_add, Sem.run_bind, run_getObj hobj (by simp), Result.andThen_ok, if_pos hlt, run_setObj hobj (by simp), Sem.run_pure]
          rfl
      · rename_i hlt
        simp only [Option.some.injEq, Prod.mk.injEq] at ha
        obtain ⟨rfl, rfl⟩ := ha
        refine ⟨_, w, ?_, hover, h, Below.refl B w⟩
        simp only [Instr.next, Nat.zero_add, Sem.run_bind, run_getObj hobj (by simp), Result.andThen_ok, if_neg hlt, Sem.run_pure]
    · simp at ha
  · rename_i r
    obtain ⟨b0, o, rb, ro, z, hab, hm, rfl⟩ := hit.ptr_inv
    cases hab
    split at ha
    · rename_i hg
      simp only [Option.some.injEq, Prod.mk.injEq] at ha
      obtain ⟨rfl, rfl⟩ := ha
      obtain ⟨rfl, mp', hobj, hmp⟩ := h.blk _ _ _ _ _ hm hg
      cases mp' with
      | some _ => simp [mapOptR] at hmp
      | none =>
        refine ⟨_, w, ?_, hover, h, Below.refl B w⟩
        simp only [Instr.next, Nat.zero_add, Sem.run_bind, run_getObj hobj (by simp), Result.andThen_ok, Sem.run_pure]
    · rename_i mb since seen last hg
      split at ha
      · rename_i es clock hgm
        obtain ⟨hb, ha⟩ := cond_some ha
        simp only [Bool.and_eq_true, Nat.beq_eq, List.all_eq_true, blt_true] at hb
        obtain ⟨⟨rfl, hall⟩, rfl⟩ := hb
        obtain ⟨rfl, mp', hobj, hmp⟩ := h.blk _ _ _ _ _ hm hg
        cases mp' with
        | none => simp [mapOptR] at hmp
        | some mb' =>
          obtain ⟨es', h1, h2⟩ := h.mapAt hmp hgm
          have hf := h2.filter fun n => !seen.contains n
          have hall' : ∀ e ∈ es', e.born < last := by
            intro e he
            obtain ⟨i, hi, rfl⟩ := List.mem_iff_getElem.1 (Array.mem_toList_iff.2 he)
            have hl := h2.1
            have hr := h2.2 i (by omega) hi
            rw [hr.born]
            exact hall _ (List.getElem_mem _)
          -- the machine's own tests
          have t1 : (!seen.isEmpty && !es'.isEmpty && es'.all (·.born ≥ last)) = false := by
            cases hes : es'.isEmpty with
            | true => simp
            | false =>
              have : es'.all (·.born ≥ last) = false := by
                rw [Bool.eq_false_iff]
                intro hc
                rw [Array.all_eq_true_iff_forall_mem] at hc
                have hne : es' ≠ #[] := by intro e; rw [e] at hes; simp at hes
                have hpos : 0 < es'.size := Array.size_pos_iff.2 hne
                have h1 := hc es'[0] (Array.getElem_mem hpos)
                have h2 := hall' es'[0] (Array.getElem_mem hpos)
                simp at h1; omega
              rw [this]; simp
          have t2 : (es'.filter fun e => !seen.contains e.born).filter (·.born < last) = es'.filter fun e => !seen.contains e.born := by
            rw [Array.filter_eq_self]
            intro e he
            rw [Array.mem_filter] at he
            simpa using hall' e he.1
          have t3 : (es'.filter fun e => !seen.contains e.born).filter (·.born ≥ last) = #[] := by
            rw [Array.filter_eq_empty_iff]
            intro e he
            rw [Array.mem_filter] at he
            have := hall' e he.1
            simp; omega
          have hfl : (es'.filter fun e => !seen.contains e.born).toList = es'.toList.filter fun e => !seen.contains e.born := by simp
          split at ha
          · rename_i hfe
            simp only [Option.some.injEq, Prod.mk.injEq] at ha
            obtain ⟨rfl, rfl⟩ := ha
            rw [hfe] at hf
            have hfe' : (es'.filter fun e => !seen.contains e.born) = #[] := by
              apply Array.ext'
              rw [hfl]
              have := hf.1
              simpa using this.symm
            rw [hfe'] at t2 t3
            refine ⟨_, w, ?_, hover, h, Below.refl B w⟩
            simp only [Instr.next, Nat.zero_add, Sem.run_bind, run_getObj hobj (by simp), run_getObj h1 (by simp), Result.andThen_ok, t1, Bool.false_eq_true, if_false, hfe', t2, t3]
            simp [Question.forced]
          · rename_i e hfe
            simp only [Option.some.injEq, Prod.mk.injEq] at ha
            obtain ⟨rfl, rfl⟩ := ha
            rw [hfe] at hf
            obtain ⟨e', l', hl', he', hr'⟩ := hf.cons_inv
            have hl0 : l' = [] := by have := hr'.1; simpa using this.symm
            subst hl0
            have hfe' : (es'.filter fun e => !seen.contains e.born) = #[e'] := by
              apply Array.ext'
              rw [hfl, hl']
            rw [hfe'] at t2 t3
            obtain ⟨h3, h4⟩ := h.put (o2 := .mapIter (some mb) last (seen.push e.born) last) hm hg rfl (wrote_set w rb (.mapIter (some mb') last (seen.push e.born) last)) ⟨rfl, some mb', rfl, hmp⟩
            refine ⟨.tuple #[.bool true, e'.key, e'.val], _, ?_, ?_, h3, h4⟩
            rotate_left
            · refine LR.tuple (x' := #[.bool true, e'.key, e'.val]) (LR.cons (.leaf rfl) (LR.cons ?_ (LR.cons he'.val (LR.nil m))))
              rw [he'.key]
              exact .leaf he'.leaf
            · simp only [Instr.next, Nat.zero_add, Sem.run_bind, run_getObj hobj (by simp), run_getObj h1 (by simp), Result.andThen_ok, t1, Bool.false_eq_true, if_false, t2, t3, hfe']
              simp [run_setObj hobj (by simp), Question.forced, he'.born]
          · simp at ha
      · simp at ha
    · simp at ha
  · simp at ha

theorem rangeMapA_sim {t : TypeId} {x x' v : Value} {s' : S} (h : SR P ok m B s w) (hB : B ≤ w.heap.size) (hx : VR m x x') (ha : rangeMapA P s t x = some (v, s')) :
    ∃ m' v' w', (Instr.range t x').run P w = .ok v' w' ∧ m.le m' ∧ VR m' v v' ∧ SR P ok m' B s' w' ∧ Below B w w' := by
  have hm0 : m s.next = none := by
    cases hmm : m s.next with
    | none => rfl
    | some y => obtain ⟨rb, ro, z⟩ := y; have := (h.dom _ _ _ _ hmm).1; omega
  unfold rangeMapA at ha
  split at ha
  · rename_i k e hu
    simp only [Option.some.injEq, Prod.mk.injEq] at ha
    obtain ⟨rfl, rfl⟩ := ha
    cases hx.of_isLeaf rfl
    have hgrew := grew_push w (.mapIter none 0 #[] 0)
    refine ⟨_, .pointer (some ⟨w.heap.size, 0, none⟩), _, ?_, Mu.le_ins hm0, VR.ptr0, (h.new _).grew (z := 0) (o := .mapIter none 0 #[] 0) hgrew hB hm0 h.res_next (Nat.lt_succ_self _) (by rw [S.get_new, if_pos rfl]) ⟨rfl, none, rfl, trivial⟩, hgrew.below hB⟩
    simp only [Instr.range, Sem.run_bind, run_underlying hu, Result.andThen_ok, Sem.run_pure, run_newObj]
  · rename_i k e mb hu
    split at ha
    · rename_i es clock hg
      simp only [Option.some.injEq, Prod.mk.injEq] at ha
      obtain ⟨rfl, rfl⟩ := ha
      obtain ⟨mb', rfl, hr⟩ := hx.map_inv
      obtain ⟨es', h1, h2⟩ := h.mapAt hr hg
      have hgrew := grew_push w (.mapIter (some mb') clock #[] clock)
      refine ⟨_, .pointer (some ⟨w.heap.size, 0, none⟩), _, ?_, Mu.le_ins hm0, VR.ptr0, (h.new _).grew (z := 0) (o := .mapIter (some mb) clock #[] clock) hgrew hB hm0 h.res_next (Nat.lt_succ_self _) (by rw [S.get_new, if_pos rfl]) ⟨rfl, some mb', rfl, hr⟩, hgrew.below hB⟩
      simp only [Instr.range, Sem.run_bind, run_underlying hu, run_getObj h1 (by simp), Result.andThen_ok, Sem.run_pure, run_newObj]
    · simp at ha
  · simp at ha
end
end Go.Sv

/- Every plain operation, as the machine carries it out. -/
namespace Go.Sv
open Go.RowKit (Below)

section
variable {P : Program} {ok : Cx} {w w' : World} {m : Mu} {B : Nat} {s : S}

theorem unit_some {r : Option S} {v : Value} {s' : S} (h : unit_ r = some (v, s')) : r = some s' ∧ v = undef := by
  unfold unit_ at h
  split at h
  · simp only [Option.some.injEq, Prod.mk.injEq] at h
    obtain ⟨rfl, rfl⟩ := h; exact ⟨rfl, rfl⟩
  · simp at h

theorem act_sim {ρ ρ' : Operand → Value} {o : Oper} {v : Value} {s' : S} (h : SR P ok m B s w) (hB : B ≤ w.heap.size) (hρ : ∀ x ∈ o.op.operands.toList, VR m (ρ x) (ρ' x))
    (ha : actA P ρ s o.op = some (v, s')) : Acts P ok m B w (execOp ρ' o) v s' := by
  have hskip : ∀ {r : Sem Unit} {w' : World}, r.run P w = .ok () w' → SR P ok m B s' w' → Below B w w' →
      Acts P ok m B w (do r; pure .skip) undef s' := fun hr h1 h2 =>
    ⟨m, undef, _, .skip, by simp [hr], .inr ⟨rfl, rfl⟩, Mu.le.refl m, VR.undef m, h1, h2⟩
  have hval : ∀ {r : Sem Value} {v' : Value} {w' : World} {m' : Mu}, r.run P w = .ok v' w' → m.le m' → VR m' v v' → SR P ok m' B s' w' → Below B w w' →
      Acts P ok m B w (do pure (.value (← r))) v s' := fun hr hm hv h1 h2 =>
    ⟨_, _, _, .value _, by simp [hr], .inl rfl, hm, hv, h1, h2⟩
  cases hop : o.op <;> rw [hop] at ha hρ <;> simp only [actA] at ha <;> try (simp at ha; done)
  case store t a x =>
    obtain ⟨ha', rfl⟩ := unit_some ha
    obtain ⟨w', hr, h1, h2⟩ := storeA_sim h (hρ a (by simp [Op.operands])) (hρ x (by simp [Op.operands])) ha'
    simp only [execOp, hop]
    exact hskip hr h1 h2
  case mapUpdate t m k x =>
    obtain ⟨ha', rfl⟩ := unit_some ha
    obtain ⟨w', hr, h1, h2⟩ := mapUpdateA_sim h (hρ m (by simp [Op.operands])) (hρ k (by simp [Op.operands])) (hρ x (by simp [Op.operands])) ha'
    simp only [execOp, hop]
    exact hskip hr h1 h2
  case insert t m k x =>
    obtain ⟨ha', rfl⟩ := unit_some ha
    obtain ⟨w', hr, h1, h2⟩ := mapUpdateA_sim h (hρ m (by simp [Op.operands])) (hρ k (by simp [Op.operands])) (hρ x (by simp [Op.operands])) ha'
    simp only [execOp, hop]
    exact hskip hr h1 h2
  case mapEntry t mm k =>
    obtain ⟨v', w', hr, hv, h1, h2⟩ := mapEntryA_sim h (hρ mm (by simp [Op.operands])) (hρ k (by simp [Op.operands])) ha
    simp only [execOp, hop]
    exact hval hr (Mu.le.refl m) hv h1 h2
  case entryStore t mm st x =>
    obtain ⟨ha', rfl⟩ := unit_some ha
    obtain ⟨w', hr, h1, h2⟩ := entryStoreA_sim h (hρ mm (by simp [Op.operands])) (hρ st (by simp [Op.operands])) (hρ x (by simp [Op.operands])) ha'
    simp only [execOp, hop]
    exact hskip hr h1 h2
  case next it b =>
    obtain ⟨v', w', hr, hv, h1, h2⟩ := nextA_sim (t := o.type) h (hρ it (by simp [Op.operands])) ha
    simp only [execOp, hop]
    exact hval hr (Mu.le.refl m) hv h1 h2
  case range t x =>
    obtain ⟨m', v', w', hr, hm, hv, h1, h2⟩ := rangeMapA_sim h hB (hρ x (by simp [Op.operands])) ha
    simp only [execOp, hop]
    exact hval hr hm hv h1 h2
  case call c =>
    obtain ⟨callee, args, argTypes⟩ := c
    have ha0 : ∀ (i : Nat) x, args.toList[i]? = some x → (args.map ρ').toList[i]? = some (ρ' x) := by
      intro i x hx
      simp only [Array.toList_map, List.getElem?_map, hx, Option.map_some]
    have hm0 : ∀ (i : Nat) x, args.toList[i]? = some x → x ∈ args.toList := fun i x hx => List.mem_of_getElem? hx
    have hro : ∀ x, x ∈ args.toList → VR m (ρ x) (ρ' x) := fun x hx => hρ x (by
      cases callee <;> simp [Op.operands, Call.operands] <;> simp_all)
    cases callee with
    | value f => simp at ha
    | invoke r n => simp at ha
    | builtin bi =>
      cases bi <;> dsimp only at ha <;> (try (simp at ha; done))
      case append =>
        split at ha
        · rename_i d x hd hx
          obtain ⟨m', v', w', hr, hm, hv, h1, h2⟩ := appendA_sim (rt := o.type) h hB (ha0 _ _ hd) (ha0 _ _ hx) (hro _ (hm0 _ _ hd)) (hro _ (hm0 _ _ hx)) ha
          simp only [execOp, hop, resolve, pure_bind, invoke, builtin]
          exact hval hr hm hv h1 h2
        · simp at ha
      case copy =>
        split at ha
        · rename_i d x hd hx
          obtain ⟨w', hr, hv, h1, h2⟩ := copyA_sim (rt := o.type) h (ha0 _ _ hd) (ha0 _ _ hx) (hro _ (hm0 _ _ hd)) (hro _ (hm0 _ _ hx)) ha
          simp only [execOp, hop, resolve, pure_bind, invoke, builtin]
          exact hval hr (Mu.le.refl m) (.leaf hv) h1 h2
        · simp at ha
      case clear =>
        split at ha
        · rename_i d hd
          obtain ⟨ha', rfl⟩ := unit_some ha
          obtain ⟨w', hr, h1, h2⟩ := clearA_sim (rt := o.type) h (ha0 _ _ hd) (hro _ (hm0 _ _ hd)) ha'
          simp only [execOp, hop, resolve, pure_bind, invoke, builtin]
          exact hval hr (Mu.le.refl m) (VR.undef m) h1 h2
        · simp at ha
      case delete =>
        split at ha
        · rename_i t d x ht hd hx
          obtain ⟨ha', rfl⟩ := unit_some ha
          obtain ⟨w', hr, h1, h2⟩ := deleteA_sim (u := o.type) ht (ha0 _ _ hd) (ha0 _ _ hx) h (hro _ (hm0 _ _ hd)) (hro _ (hm0 _ _ hx)) ha'
          simp only [execOp, hop, resolve, pure_bind, invoke, builtin]
          exact hval hr (Mu.le.refl m) (VR.undef m) h1 h2
        · simp at ha

theorem exec1_sim {ρ ρ' : Operand → Value} {o : Oper} {v : Value} {s' : S} (h : SR P ok m B s w) (hB : B ≤ w.heap.size) (hρ : ∀ x ∈ o.op.operands.toList, VR m (ρ x) (ρ' x))
    (ha : exec1 P ρ s o.op = some (v, s')) : Acts P ok m B w (execOp ρ' o) v s' := by
  unfold exec1 at ha
  split at ha
  · split at ha
    · rename_i v1 hv
      simp only [Option.some.injEq, Prod.mk.injEq] at ha
      obtain ⟨rfl, rfl⟩ := ha
      obtain ⟨v', hr, hv⟩ := pure_sim (w := w) hρ hv
      exact ⟨m, v', w, _, hr, .inl rfl, Mu.le.refl m, hv, h, Below.refl B w⟩
    · simp at ha
  · split at ha
    · rename_i v1 hv
      simp only [Option.some.injEq, Prod.mk.injEq] at ha
      obtain ⟨rfl, rfl⟩ := ha
      obtain ⟨v', hr, hv⟩ := read_sim h hρ hv
      exact ⟨m, v', w, _, hr, .inl rfl, Mu.le.refl m, hv, h, Below.refl B w⟩
    · simp at ha
  · split at ha
    · rename_i ob f hn
      simp only [Option.some.injEq, Prod.mk.injEq] at ha
      obtain ⟨rfl, rfl⟩ := ha
      obtain ⟨v', w', obj, z, hr, hg, hb, hv⟩ := new_sim (ok := ok) (w := w) hρ hn
      have hm0 : m s.next = none := by
        cases hmm : m s.next with
        | none => rfl
        | some y => obtain ⟨rb, ro, z⟩ := y; have := (h.dom _ _ _ _ hmm).1; omega
      exact ⟨_, v', w', _, hr, .inl rfl, Mu.le_ins hm0, hv _ hm0, (h.new _).grew hg hB hm0 h.res_next (Nat.lt_succ_self _) (by rw [S.get_new, if_pos rfl]) hb, hg.below hB⟩
    · simp at ha
  · exact act_sim h hB hρ ha
  · simp at ha
end
end Go.Sv

/- Frames of the evaluator's and the machine's; single steps of the machine. -/
namespace Go.Sv
open Go.RowKit (Below)

section
variable {P : Program} {ok : Cx} {w w' : World} {m m' : Mu} {B : Nat} {s : S}

/-! ### Frames -/

def DefsR (m : Mu) : List Nat → List Deferred → Prop
  | [], [] => True
  | r :: rs, d :: ds => (∃ r', objAt m r r' ∧ d = { target := .collected r', args := #[] }) ∧ DefsR m rs ds
  | _, _ => False

def roundR (m : Mu) : Option Nat → Option Nat → Prop
  | none, none => True
  | some l, some l' => objAt m l l'
  | _, _ => False

structure FrR (P : Program) (m : Mu) (fr : Fr) (b : Frame) (a : Act) : Prop where
  env : EnvR m fr.env fr.n a.tmps
  defs : DefsR m fr.defs a.defers
  fn : b.fn = fr.fn
  round : roundR m fr.round b.roundOf
  kind : b.kind = .normal

/-- The frame behind a piece of code; behind a panic its temporaries don't matter. -/
def FrE (P : Program) (m : Mu) (ex : Exit) (fr : Fr) (b : Frame) (a : Act) : Prop :=
  match ex with
  | .panic _ => ∃ env n, FrR P m { fr with env := env, n := n } b a
  | _ => FrR P m fr b a
theorem FrR.frE {m : Mu} {ex : Exit} {fr : Fr} {b : Frame} {a : Act} (h : FrR P m fr b a) : FrE P m ex fr b a := by
  cases ex <;> first | exact h | exact ⟨fr.env, fr.n, h⟩

theorem FrE.defs {m : Mu} {ex : Exit} {fr : Fr} {b : Frame} {a : Act} (h : FrE P m ex fr b a) : DefsR m fr.defs a.defers := by
  cases ex <;> first | exact FrR.defs h | (obtain ⟨_, _, h⟩ := h; exact h.defs)

theorem DefsR.mono (hm : m.le m') : ∀ {rs : List Nat} {ds : List Deferred}, DefsR m rs ds → DefsR m' rs ds
  | [], [], h => h
  | [], _ :: _, h => h.elim
  | _ :: _, [], h => h.elim
  | _ :: _, _ :: _, ⟨⟨r', a, b⟩, h⟩ => ⟨⟨r', a.mono hm, b⟩, DefsR.mono hm h⟩
theorem roundR.mono (hm : m.le m') {x y : Option Nat} (h : roundR m x y) : roundR m' x y := by
  cases x <;> cases y <;> simp_all [roundR]
  exact h.mono hm
theorem FrR.mono (hm : m.le m') {fr : Fr} {b : Frame} {a : Act} (h : FrR P m fr b a) : FrR P m' fr b a :=
  ⟨h.env.mono hm, h.defs.mono hm, h.fn, h.round.mono hm, h.kind⟩

theorem envLook_put {env : M Value} {n d t : Nat} {v : Value} : envLook (envPut env n d v) t = if d < n ∧ t = d then v else envLook env t := by
  unfold envPut
  cases hb : Nat.blt d n with
  | true =>
    rw [blt_true] at hb
    simp only [cond_true, envLook, M.get_set]
    by_cases h : t = d <;> simp [h, hb]
  | false =>
    have : ¬ d < n := fun h => by rw [blt_true.2 h] at hb; cases hb
    simp [this]

theorem EnvR.put {env : M Value} {n : Nat} {tmps : Array Value} (h : EnvR m env n tmps) {d : Nat} {v v' : Value} (hv : VR m v v') :
    EnvR m (envPut env n d v) n (tmps.setIfInBounds d v') := by
  refine ⟨by simp [h.1], fun t => ?_⟩
  rw [envLook_put]
  by_cases hc : d < n ∧ t = d
  · obtain ⟨h1, rfl⟩ := hc
    rw [if_pos ⟨h1, rfl⟩]
    have : (tmps.setIfInBounds t v').getD t undef = v' := by
      rw [Array.getD_eq_getD_getElem?, Array.getElem?_setIfInBounds, if_pos rfl, if_pos (by rw [h.1]; exact h1)]; rfl
    rw [this]; exact hv
  · rw [if_neg hc]
    have : (tmps.setIfInBounds d v').getD t undef = tmps.getD t undef := by
      rw [Array.getD_eq_getD_getElem?, Array.getD_eq_getD_getElem?, Array.getElem?_setIfInBounds]
      by_cases hd : d = t
      · subst hd
        have : ¬ d < n := fun h => hc ⟨h, rfl⟩
        rw [if_pos rfl, if_neg (by rw [h.1]; exact this), Array.getElem?_eq_none (by rw [h.1]; omega)]
      · rw [if_neg hd]
    rw [this]; exact h.2 t

theorem FrR.put {fr : Fr} {b : Frame} {a : Act} (h : FrR P m fr b a) (dst : Option Tmp) {v v' : Value} (hv : VR m v v') : FrR P m (fr.put dst v) b (a.put dst v') := by
  cases dst with
  | none => exact h
  | some d => exact ⟨h.env.put hv, h.defs, h.fn, h.round, h.kind⟩

/-- Operands. -/
theorem FrR.ev {fr : Fr} {b : Frame} {a : Act} (h : FrR P m fr b a) (hg : ∀ g, g < P.globals.size → ∃ z, m g = some (g, 0, z)) {x : Operand} (hx : opdOK P x = true) : VR m (fr.ev x) (a.eval x) := by
  cases x with
  | tmp t => exact h.env.2 t
  | const v => exact leafy_VR hx
  | global g =>
    simp only [opdOK, blt_true] at hx
    obtain ⟨z, hz⟩ := hg g hx
    have := VR.ptr (o := 0) hz
    simpa [Fr.ev, Act.eval] using this
  | func f => exact .func (by exact rfl) rfl (fun i h _ => by simp at h) rfl (fun i h _ => by simp at h)

theorem FrR.evs {fr : Fr} {b : Frame} {a : Act} (h : FrR P m fr b a) (hg : ∀ g, g < P.globals.size → ∃ z, m g = some (g, 0, z)) {xs : List Operand} (hx : xs.all (opdOK P) = true) :
    LR m (xs.map fr.ev) (xs.map a.eval) :=
  LR.map xs _ _ fun x hm => h.ev hg (List.all_eq_true.1 hx x hm)

/-! ### Ends of code -/

inductive ChainR (m : Mu) : List PanicEntry → List PanicEntry → Prop
  | nil : ChainR m [] []
  | cons {e e' : PanicEntry} {c c' : List PanicEntry} (h : VR m e.v e'.v) (hr : e'.recovered = e.recovered) (hg : e'.goexit = e.goexit) (hc : ChainR m c c') : ChainR m (e :: c) (e' :: c')
theorem ChainR.mono (hm : m.le m') {c c' : List PanicEntry} (h : ChainR m c c') : ChainR m' c c' := by
  induction h with
  | nil => exact .nil
  | cons h hr hg _ ih => exact .cons (h.mono hm) hr hg ih

def noCall : List Item → Bool
  | .call .. :: _ => false
  | _ => true

/-- The machine comes to where a piece of code ends. -/
def ArrR (P : Program) (m : Mu) (mach : Machine) (b : Frame) (k : List Item) (cs : List Frame) (a : Act) (w : World) : Exit → Prop
  | .normal => Steps P mach (lone (b.atR a k) cs w)
  | .exit id => ∃ k0, exitTo id k0 = exitTo id k ∧ Steps P mach (lone (b.atR a (.code (.exit id) :: k0)) cs w)
  | .ret => ∃ k0, Steps P mach (lone (b.atR a (.code .ret :: k0)) cs w)
  | .panic chain => ∃ chain' todo, ChainR m chain chain' ∧ noCall todo = true ∧ Steps P mach (lone { b.atR a todo with mode := .panicking chain' } cs w)
  | _ => False

theorem ArrR.of_steps {mach m1 : Machine} {b : Frame} {k : List Item} {cs : List Frame} {a : Act} {w : World} {ex : Exit} (h : Steps P mach m1)
    (h' : ArrR P m m1 b k cs a w ex) : ArrR P m mach b k cs a w ex := by
  cases ex with
  | normal => exact h.trans h'
  | exit id => obtain ⟨k0, h1, h2⟩ := h'; exact ⟨k0, h1, h.trans h2⟩
  | ret => obtain ⟨k0, h2⟩ := h'; exact ⟨k0, h.trans h2⟩
  | panic chain => obtain ⟨c', todo, h1, h3, h2⟩ := h'; exact ⟨c', todo, h1, h3, h.trans h2⟩
  | goto _ => exact h'
  | outgrown => exact h'

theorem ArrR.mono (hm : m.le m') {mach : Machine} {b : Frame} {k : List Item} {cs : List Frame} {a : Act} {w : World} {ex : Exit} (h : ArrR P m mach b k cs a w ex) :
    ArrR P m' mach b k cs a w ex := by
  cases ex with
  | panic chain => obtain ⟨c', todo, h1, h3, h2⟩ := h; exact ⟨c', todo, h1.mono hm, h3, h2⟩
  | _ => exact h

/-- An end that is none of 'normal' passes what an 'exit' passes. -/
theorem ArrR.pass {mach : Machine} {b : Frame} {k k' : List Item} {cs : List Frame} {a : Act} {w : World} {ex : Exit} (hn : ex ≠ .normal)
    (hk : ∀ id, ex = .exit id → exitTo id k' = exitTo id k) (h : ArrR P m mach b k' cs a w ex) : ArrR P m mach b k cs a w ex := by
  cases ex with
  | normal => exact absurd rfl hn
  | exit id => obtain ⟨k0, h1, h2⟩ := h; exact ⟨k0, h1.trans (hk id rfl), h2⟩
  | _ => exact h

theorem stepR_inScope {b : Frame} {a : Act} {k : List Item} {cs : List Frame} {c : Code} : step P (lone (b.atR a (.inScope c :: k)) cs w) = .next (lone (b.atR a k) cs w) :=
  step_lone_go (by simp [stepG, stepG.exec, Frame.atR])
theorem stepR_scope {b : Frame} {a : Act} {k : List Item} {cs : List Frame} {c : Code} :
    step P (lone (b.atR a (.code (.scope c) :: k)) cs w) = .next (lone (b.atR a (.code c :: .inScope c :: k)) cs w) :=
  step_lone_go (by simp [stepG, stepG.exec, Frame.atR])

/-! ### Calls -/

/-- From 'M' the machine goes on as an operation of the frame 'fr' that carries out 'sem' at 'w'. -/
def Begins (P : Program) (M : Machine) (fr : Frame) (cs : List Frame) (sem : Sem Next) (w : World) : Prop :=
  ∀ fr' cs' w', (stepG.apply P true fr cs none sem w).bare = .go { frame := fr', callers := cs', status := .running, dying := none } w' →
    step P M = .next (lone fr' cs' w')

/-- A frame that waits at an operation. -/
def Waits (fr : Frame) : Prop := fr.mode = .run ∧ fr.kind = .normal ∧ ((∃ ops is k, fr.todo = .inRegion ops is :: k) ∨ ∃ l k, fr.todo = .inRangeFunc l :: k)

/-- What a call comes to. -/
def ResR (P : Program) (m : Mu) (M : Machine) (fr : Frame) (cs : List Frame) (w : World) : CRes → Prop
  | .ret v => ∃ v', VR m v v' ∧ Steps P M (lone (fr.finish v') cs w)
  | .pan chain => ∃ chain', ChainR m chain chain' ∧ Steps P M (lone { fr with mode := .panicking chain' } cs w)

def Inv (P : Program) (ok : Cx) (B : Nat) (m : Mu) (sem : Sem Next) (w : World) (r : CRes) (s' : S) : Prop :=
  ∀ M fr cs, Waits fr → Begins P M fr cs sem w → ∃ m' w', m.le m' ∧ SR P ok m' B s' w' ∧ Below B w w' ∧ ResR P m' M fr cs w' r

theorem ResR.of_steps {M M1 : Machine} {fr : Frame} {cs : List Frame} {r : CRes} (h : Steps P M M1) (h' : ResR P m M1 fr cs w r) : ResR P m M fr cs w r := by
  cases r with
  | ret v => obtain ⟨v', h1, h2⟩ := h'; exact ⟨v', h1, h.trans h2⟩
  | pan c => obtain ⟨c', h1, h2⟩ := h'; exact ⟨c', h1, h.trans h2⟩

theorem Waits.enters {fr : Frame} (h : Waits fr) {M : Machine} {cs : List Frame} {sem : Sem Next} {w w' : World} {f : FuncId} {args : Array Value} (hb : Begins P M fr cs sem w)
    (hr : sem.run P w = .ok (.enter f args) w') : step P M = .next (lone (Frame.enter P f args .normal) (fr :: cs) w') := by
  refine hb _ _ _ ?_
  obtain ⟨h1, h2, h3⟩ := h
  simp only [stepG.apply, if_true, Sem.runT_eq, hr, GStep.bare_after]
  rcases h3 with ⟨ops, is, k, h3⟩ | ⟨l, k, h3⟩ <;> simp [h3, GStep.bare]
theorem Waits.rounds {fr : Frame} (_h : Waits fr) {M : Machine} {cs : List Frame} {sem : Sem Next} {w w' : World} {l : Nat} {f : FuncId} {tmps : Array Value} {c d : Code} (hb : Begins P M fr cs sem w)
    (hr : sem.run P w = .ok (.round l f tmps c d) w') : step P M = .next (lone (Frame.round l f tmps c d .normal) (fr :: cs) w') := by
  refine hb _ _ _ ?_
  simp only [stepG.apply, if_true, Sem.runT_eq, hr, GStep.bare_after]
  simp [GStep.bare]
theorem begins_value {fr : Frame} {M : Machine} {cs : List Frame} {sem : Sem Next} {w w' : World} {v : Value} (hb : Begins P M fr cs sem w)
    (hr : sem.run P w = .ok (.value v) w') : step P M = .next (lone (fr.finish v) cs w') := by
  refine hb _ _ _ ?_
  simp only [stepG.apply, if_true, Sem.runT_eq, hr, GStep.bare_after]
  simp [GStep.bare]
theorem begins_skip {fr : Frame} {M : Machine} {cs : List Frame} {sem : Sem Next} {w w' : World} (hb : Begins P M fr cs sem w)
    (hr : sem.run P w = .ok .skip w') : step P M = .next (lone (fr.finish undef) cs w') := by
  refine hb _ _ _ ?_
  simp only [stepG.apply, if_true, Sem.runT_eq, hr, GStep.bare_after]
  simp [GStep.bare]
theorem begins_panic {fr : Frame} (hm : fr.mode = .run) {M : Machine} {cs : List Frame} {sem : Sem Next} {w w' : World} {v : Value} (hb : Begins P M fr cs sem w)
    (hr : sem.run P w = .halt (.panic v) w') : step P M = .next (lone { fr with mode := .panicking [{ v, recovered := false }] } cs w') := by
  refine hb _ _ _ ?_
  simp only [stepG.apply, if_true, Sem.runT_eq, hr, GStep.bare_after]
  simp [GStep.bare, Frame.raise, hm]
end
end Go.Sv

/- Calls, as the machine carries them out. -/
namespace Go.Sv
open Go.RowKit (Below)

section
variable {P : Program} {ok : Cx} {w w' : World} {m m' : Mu} {B : Nat} {s : S}

/-- What is asked of a program, once. -/
structure ProgOK (P : Program) (ok : Cx) : Prop where
  seq : ∀ {a b}, ok (.seq a b) → ok a ∧ ok b
  cond : ∀ {c a b}, ok (.cond c a b) → opdOK P c = true ∧ ok a ∧ ok b
  block : ∀ {i c}, ok (.block i c) → ok c
  loop : ∀ {c}, ok (.loop c) → ok c
  scope : ∀ {c}, ok (.scope c) → ok c
  range : ∀ {f p a b}, ok (.rangeFunc f p a b) → opdOK P f = true ∧ ok a ∧ ok b
  region : ∀ {i ops d}, ok (.region i ops d) → ops.toList.all (operOK P) = true
  ret : ok .ret
  exit : ∀ {i}, ok (.exit i)
  body : ∀ {f : Nat} {fn : Func} {c}, P.funcs[f]? = some fn → fn.body = some c → ok c
  name : ∀ {f : Nat} {fn : Func}, P.funcs[f]? = some fn → (fn.name == "runtime.NumGoroutine") = false

/-- Where a piece of code begins. -/
def Starts (c : Code) (k t : List Item) : Prop := t = .code c :: k ∨ ∃ c0, c = .loop c0 ∧ t = .inLoop c0 :: k

structure Sound (P : Program) (ok : Cx) (B : Nat) (e : Ev) : Prop where
  code : ∀ {c fr s ex fr' s'}, e.code c fr s = some (ex, fr', s') → ok c → ∀ {m w b a k cs t}, SR P ok m B s w → B ≤ w.heap.size → FrR P m fr b a → Starts c k t →
    ∃ m' w' a', m.le m' ∧ SR P ok m' B s' w' ∧ Below B w w' ∧ FrE P m' ex fr' b a' ∧ ArrR P m' (lone (b.atR a t) cs w) b k cs a' w' ex
  call : ∀ {f args s r s'}, e.call f args s = some (r, s') → ∀ {m w args'}, SR P ok m B s w → B ≤ w.heap.size → LR m args args'.toList → Inv P ok B m (callFunc f args') w r s'
  yield : ∀ {l args s r s'}, e.yield l args s = some (r, s') → ∀ {m w l' args'}, SR P ok m B s w → B ≤ w.heap.size → LR m args args'.toList → objAt m l l' →
    Inv P ok B m (Instr.yield l' args') w r s'

theorem apply_congr {fr : Frame} {cs : List Frame} {x y : Sem Next} (h : x.run P w = y.run P w) :
    (stepG.apply P true fr cs none x w).bare = (stepG.apply P true fr cs none y w).bare := by
  simp only [stepG.apply, if_true, Sem.runT_eq, h, GStep.bare_after]

theorem Inv.congr {x y : Sem Next} {r : CRes} {s' : S} (h : x.run P w = y.run P w) (hi : Inv P ok B m x w r s') : Inv P ok B m y w r s' := by
  intro M fr cs hw hb
  refine hi M fr cs hw fun fr' cs' w' hx => hb fr' cs' w' ?_
  rw [← apply_congr h]; exact hx

/-! ### What a call's value comes to -/

theorem methodA_sim {t : TypeId} {v v' r : Value} {name : String} {f : FuncId} (h : methodA P t v name = some (f, r)) (n : Nat) : r = v ∧ (method (n + 1) t v' name).run P w = .ok (f, v') w := by
  unfold methodA at h
  split at h
  · rename_i i hi
    split at h
    · rename_i mt hmt
      have hmt' : i.methods.find? (·.name == name) = some mt := by rw [← Array.find?_toList]; exact hmt
      split at h
      · rename_i f' e hp hf hu
        simp only [Option.some.injEq, Prod.mk.injEq] at h
        obtain ⟨rfl, rfl⟩ := h
        refine ⟨rfl, ?_⟩
        simp only [method, Sem.run_bind, run_typeInfo hi, Result.andThen_ok, hmt', hp, follow, Sem.run_pure, hf, receiverAt, run_underlying hu, Place.get]
      · simp at h
      · rename_i f' d hnp hp hf hu
        simp only [Option.some.injEq, Prod.mk.injEq] at h
        obtain ⟨rfl, rfl⟩ := h
        refine ⟨rfl, ?_⟩
        simp only [method, Sem.run_bind, run_typeInfo hi, Result.andThen_ok, hmt', hp, follow, Sem.run_pure, hf, receiverAt, run_underlying hu]
        cases d <;> first | rfl | (exfalso; simp_all; done) | simp [Place.get]
      · simp at h
    · simp at h
  · simp at h

theorem invokeA_sim {e : Ev} (he : Sound P ok B e) {recv recv' : Value} {name : String} {args : List Value} {args' : Array Value} {r : CRes} {s' : S}
    (h : invokeA P e recv name args s = some (r, s')) (hs : SR P ok m B s w) (hB : B ≤ w.heap.size) (hr : VR m recv recv') (ha : LR m args args'.toList) :
    Inv P ok B m (callMethod recv' name args') w r s' := by
  unfold invokeA at h
  split at h
  · rename_i t v
    obtain ⟨v', rfl, hv⟩ := hr.iface_inv
    split at h
    · rename_i f x hm
      obtain ⟨rfl, hrun⟩ := methodA_sim (w := w) (v' := v') hm (P.types.size + 99)
      refine (he.call h hs hB (args' := #[v'] ++ args') (by simpa using ha.cons hv)).congr ?_
      have e1 : P.types.size + Made.depth = P.types.size + 99 + 1 := rfl
      simp only [callMethod, Sem.run_bind, program, Sem.run, Result.andThen_ok, e1, hrun]
    · simp at h
  · simp at h

theorem callV_sim {e : Ev} (he : Sound P ok B e) {f f' : Value} {args : List Value} {args' : Array Value} {r : CRes} {s' : S}
    (h : callV P e f args s = some (r, s')) (hs : SR P ok m B s w) (hB : B ≤ w.heap.size) (hf : VR m f f') (ha : LR m args args'.toList) :
    Inv P ok B m (do let d ← Deferred.ofValue f' args'; invoke d.target d.args) w r s' := by
  unfold callV at h
  split at h
  · rename_i g first cap
    obtain ⟨f2, x', y', rfl, hfn, hx, hy⟩ := hf.func_inv
    simp only [fnRel] at hfn; subst hfn
    have := he.call h hs hB (args' := x' ++ args' ++ y') (by simpa using (hx.append ha).append hy)
    simpa only [Deferred.ofValue, pure_bind, invoke] using this
  · rename_i l first cap
    obtain ⟨f2, x', y', rfl, hfn, hx, hy⟩ := hf.func_inv
    cases f2 <;> simp only [fnRel] at hfn
    have := he.yield h hs hB (args' := x' ++ args') (by simpa using hx.append ha) hfn
    simpa only [Deferred.ofValue, pure_bind, invoke] using this
  · rename_i name first cap
    obtain ⟨f2, x', y', rfl, hfn, hx, hy⟩ := hf.func_inv
    simp only [fnRel] at hfn; subst hfn
    split at h
    · rename_i recv rest hl
      have hl2 := hx.append ha
      rw [hl] at hl2
      obtain ⟨v', r', e1, hv, hr⟩ := hl2.cons_inv
      have e2 : x' ++ args' = #[v'] ++ r'.toArray := by
        apply Array.ext'; simpa using e1
      have := invokeA_sim he h hs hB hv (args' := r'.toArray) (by simpa using hr)
      refine this.congr ?_
      simp only [Deferred.ofValue, pure_bind, invoke, e2]
      simp
    · simp at h
  · simp at h

/-! ### Functions with a body -/

theorem callFunc_enter (hP : ProgOK P ok) {f : FuncId} {fn : Func} {c : Code} (hf : P.funcs[f]? = some fn) (hc : fn.body = some c) (args : Array Value) :
    (callFunc f args).run P w = .ok (.enter f args) w := by
  have := hP.name hf
  simp only [callFunc, Sem.run_bind, program, Sem.run, Result.andThen_ok, hf, this, hc, Option.isNone, Bool.false_eq_true, if_false]
  rfl

theorem stepR_collected {b : Frame} {a : Act} {todo : List Item} {cs : List Frame} {md : FrameMode} {r : Nat} {ds : List Deferred} (hmd : md ≠ .run)
    (hd : a.defers = { target := .collected r, args := #[] } :: ds) (hr : (Instr.takeDeferred r).run P w = .ok [] w') :
    step P (lone { b.atR a todo with mode := md } cs w) = .next (lone { b.atR { a with defers := ds } todo with mode := md } cs w') := by
  refine step_lone_go ?_
  cases md with
  | run => exact absurd rfl hmd
  | returning => simp [stepG, unwind, Frame.atR, hd, Sem.runT_eq, hr]
  | panicking ch => simp [stepG, unwind, Frame.atR, hd, Sem.runT_eq, hr]

theorem takeDeferred_run {r : Nat} (h : w.heap[r]? = some (.deferred (some []))) :
    (Instr.takeDeferred r).run P w = .ok [] { w with heap := w.heap.setIfInBounds r (.deferred none) } := by
  simp only [Instr.takeDeferred, Sem.run_bind, run_getObj h (by simp), Result.andThen_ok, run_setObj h (by simp), Sem.run_pure]

theorem runDefs_sim {b : Frame} {todo : List Item} {cs : List Frame} {md : FrameMode} (hmd : md ≠ .run) : ∀ {ds : List Nat} {s s' : S} {w : World} {a : Act},
    runDefs ds s = some s' → SR P ok m B s w → DefsR m ds a.defers →
    ∃ w', SR P ok m B s' w' ∧ Below B w w' ∧ Steps P (lone { b.atR a todo with mode := md } cs w) (lone { b.atR { a with defers := [] } todo with mode := md } cs w')
  | [], s, s', w, a, h, hs, hd => by
    simp only [runDefs, Option.some.injEq] at h; subst h
    cases had : a.defers with
    | nil =>
      refine ⟨w, hs, Below.refl B w, ?_⟩
      have : a = { a with defers := [] } := by cases a; simp_all
      rw [← this]; exact Steps.refl _ _
    | cons d ds => rw [had] at hd; exact hd.elim
  | r :: rs, s, s', w, a, h, hs, hd => by
    cases had : a.defers with
    | nil => rw [had] at hd; exact hd.elim
    | cons d ds =>
      rw [had] at hd
      obtain ⟨⟨r', hr, rfl⟩, hds⟩ := hd
      simp only [runDefs] at h
      split at h
      · rename_i hg
        obtain ⟨z, hz⟩ := hr
        obtain ⟨_, hobj⟩ := hs.blk _ _ _ _ _ hz hg
        simp only [if_true] at hobj
        obtain ⟨h1, h2⟩ := hs.put (o2 := .defd false) hz hg rfl (wrote_set w r' (.deferred none)) ⟨rfl, rfl⟩
        obtain ⟨w2, h3, h4, h5⟩ := runDefs_sim hmd (a := { a with defers := ds }) h h1 hds
        exact ⟨w2, h3, h2.trans h4, .head (stepR_collected hmd had (takeDeferred_run hobj)) h5⟩
      · simp at h

def resF (tmps : Array Value) : ResultVar → Sem Value
  | .tmp t => pure (tmps.getD t undef)
  | .cell a t => do loadVar t (← asAddr (tmps.getD a undef))

theorem resultsA_sim {fr : Fr} {b : Frame} {a : Act} (hs : SR P ok m B s w) (hf : FrR P m fr b a) : ∀ {rs : List ResultVar} {vs : List Value}, resultsA P fr s rs = some vs →
    ∃ vs', LR m vs vs' ∧ (rs.mapM (resF a.tmps) : Sem (List Value)).run P w = .ok vs' w
  | [], vs, h => by
    simp only [resultsA, Option.some.injEq] at h; subst h
    exact ⟨[], LR.nil m, rfl⟩
  | .tmp t :: rest, vs, h => by
    simp only [resultsA] at h
    split at h
    · rename_i vs0 h0
      simp only [Option.some.injEq] at h; subst h
      obtain ⟨vs', h1, h2⟩ := resultsA_sim hs hf h0
      refine ⟨a.tmps.getD t undef :: vs', h1.cons (hf.env.2 t), ?_⟩
      simp only [List.mapM_cons, resF, Sem.run_bind, Sem.run_pure, Result.andThen_ok, h2]
    · simp at h
  | .cell c t :: rest, vs, h => by
    simp only [resultsA] at h
    split at h
    · rename_i v vs0 hl h0
      simp only [Option.some.injEq] at h; subst h
      obtain ⟨vs', h1, h2⟩ := resultsA_sim hs hf h0
      obtain ⟨v', h3, h4⟩ := loadA_sim hs (hf.env.2 c) hl
      refine ⟨v' :: vs', h1.cons h4, ?_⟩
      have hp := hf.env.2 c
      have : (do loadVar t (← asAddr (a.tmps.getD c undef)) : Sem Value).run P w = .ok v' w := by
        have hx : ∃ x, a.tmps.getD c undef = .pointer (some x) := by
          unfold loadA at hl
          split at hl
          · rename_i heq
            rw [heq] at hp
            obtain ⟨_, _, _, _, _, _, _, h5⟩ := hp.ptr_inv
            exact ⟨_, h5⟩
          · simp at hl
        obtain ⟨x, hx⟩ := hx
        rw [hx] at h3 ⊢
        simpa [Instr.loadAt, Instr.sureAddr, asAddr] using h3
      simp only [List.mapM_cons]
      rw [Sem.run_bind, show resF a.tmps (.cell c t) = (do loadVar t (← asAddr (a.tmps.getD c undef))) from rfl, this, Result.andThen_ok]
      simp only [Sem.run_bind, Sem.run_pure, Result.andThen_ok, h2]
    · simp at h
end
end Go.Sv

/- A function's whole run, as the machine carries it out. -/
namespace Go.Sv
open Go.RowKit (Below)

section
variable {P : Program} {ok : Cx} {w w' : World} {m m' : Mu} {B : Nat} {s : S}

theorem results_def (fn : Func) (tmps : Array Value) : results fn tmps = (do
    let vs ← fn.results.mapM (resF tmps)
    pure (if h : vs.size = 1 then vs[0] else .tuple vs)) := by
  unfold results
  have : resF tmps = (fun x => match x with
    | .tmp t => pure (tmps.getD t undef)
    | .cell a t => do loadVar t (← asAddr (tmps.getD a undef))) := by
    funext x
    cases x <;> rfl
  rw [this]
  rfl

theorem results_run {fr : Fr} {b : Frame} {a : Act} {fn : Func} {vs : List Value} (hs : SR P ok m B s w) (hf : FrR P m fr b a) (h : resultsA P fr s fn.results.toList = some vs) :
    ∃ v', VR m (resultOf vs) v' ∧ (results fn a.tmps).run P w = .ok v' w := by
  obtain ⟨vs', h1, h2⟩ := resultsA_sim hs hf h
  have hrun : ∀ v', v' = (if h : vs'.toArray.size = 1 then vs'.toArray[0] else .tuple vs'.toArray) → (results fn a.tmps).run P w = .ok v' w := by
    rintro v' rfl
    rw [results_def, Sem.run_bind, Array.mapM_eq_mapM_toList, Sem.run_map, h2]
    simp only [Result.andThen_ok, Sem.run_pure]
  cases vs with
  | nil =>
    have := h1.nil_inv
    subst this
    exact ⟨_, LR.tuple (x := #[]) (x' := #[]) (LR.nil m), hrun _ rfl⟩
  | cons v vs =>
    obtain ⟨v', r', rfl, hv, hr⟩ := h1.cons_inv
    cases vs with
    | nil =>
      have := hr.nil_inv
      subst this
      exact ⟨v', hv, hrun _ rfl⟩
    | cons u us =>
      obtain ⟨u', r2, rfl, hu, hr2⟩ := hr.cons_inv
      refine ⟨.tuple (v' :: u' :: r2).toArray, LR.tuple (x := ⟨v :: u :: us⟩) (by simpa using hv |> fun hv => (hr2.cons hu).cons hv), hrun _ ?_⟩
      rw [dif_neg (by simp)]

theorem envLook_envOf (n : Nat) : ∀ (vs : List Value) (k : Nat) (env : M Value) (t : Nat),
    envLook (envOf n vs k env) t = if k ≤ t ∧ t < k + vs.length ∧ t < n then vs.getD (t - k) undef else envLook env t
  | [], k, env, t => by
    rw [if_neg (by simp; omega)]; rfl
  | v :: vs, k, env, t => by
    rw [envOf, envLook_envOf n vs (k + 1), envLook_put]
    simp only [List.length_cons]
    by_cases h1 : k + 1 ≤ t ∧ t < k + 1 + vs.length ∧ t < n
    · rw [if_pos h1, if_pos (by omega)]
      rw [show t - k = (t - (k + 1)) + 1 by omega]
      rfl
    · rw [if_neg h1]
      by_cases h2 : k < n ∧ t = k
      · obtain ⟨h2, rfl⟩ := h2
        rw [if_pos ⟨h2, rfl⟩, if_pos (by omega)]
        simp
      · rw [if_neg h2, if_neg (by omega)]

theorem enter_env {n : Nat} {args : List Value} {args' : Array Value} (h : LR m args args'.toList) (hn : args.length ≤ n) :
    EnvR m (envOf n args 0 .empty) n (args' ++ Array.replicate (n - args'.size) undef) := by
  have hl : args.length = args'.size := by simpa using h.1
  refine ⟨by simp; omega, fun (t : Nat) => ?_⟩
  rw [envLook_envOf]
  by_cases ht : t < args.length
  · rw [if_pos (by omega)]
    obtain ⟨v', h1, h2⟩ := h.getElem? (i := t) (v := args[t]) (by simp [ht])
    have e1 : args.getD (t - 0) undef = args[t] := by simp [List.getD, ht]
    have e2 : (args' ++ Array.replicate (n - args'.size) undef).getD t undef = v' := by
      rw [Array.getD_eq_getD_getElem?, Array.getElem?_append_left (by omega)]
      rw [Array.getElem?_toList] at h1
      rw [h1]; rfl
    rw [e1, e2]; exact h2
  · rw [if_neg (by omega)]
    have e1 : envLook (M.empty : M Value) t = undef := by simp [envLook]
    have e2 : (args' ++ Array.replicate (n - args'.size) undef).getD t undef = undef := by
      rw [Array.getD_eq_getD_getElem?, Array.getElem?_append_right (by omega), Array.getElem?_replicate]
      split <;> rfl
    rw [e1, e2]; exact VR.undef m

/-- A frame that is about to leave. -/
def Leaves (P : Program) (m : Mu) (fr : Frame) (w : World) : CRes → Prop
  | .ret v => ∃ v', VR m v v' ∧ fr.leaving P w (.returned v')
  | .pan ch => ∃ ch', ChainR m ch ch' ∧ fr.leaving P w (.panicked ch')

theorem finishA_sim {fr : Fr} {b : Frame} {a : Act} {fn : Func} {ex : Exit} {r : CRes} {s' : S} {M : Machine} {cs : List Frame} (hfn : P.funcs[b.fn]? = some fn) (hround : b.roundOf = none)
    (hs : SR P ok m B s w) (hf : FrE P m ex fr b a) (h : finishA P fn ex fr s = some (r, s')) (ha : ArrR P m M b [] cs a w ex) :
    ∃ w' fr2, SR P ok m B s' w' ∧ Below B w w' ∧ fr2.fn = b.fn ∧ Steps P M (lone fr2 cs w') ∧ Leaves P m fr2 w' r := by
  unfold finishA at h
  split at h
  · simp at h
  · rename_i s1 hd
    have hret : FrR P m fr b a → ∀ (v : List Value) todo, resultsA P fr s1 fn.results.toList = some v → Steps P M (lone { b.atR a todo with mode := .returning } cs w) → r = .ret (resultOf v) → s' = s1 →
        ∃ w' fr2, SR P ok m B s' w' ∧ Below B w w' ∧ fr2.fn = b.fn ∧ Steps P M (lone fr2 cs w') ∧ Leaves P m fr2 w' r := by
      rintro hf v todo hr hst rfl rfl
      obtain ⟨w2, h1, h2, h3⟩ := runDefs_sim (P := P) (ok := ok) (b := b) (todo := todo) (cs := cs) (md := .returning) (by simp) hd hs hf.defs
      have hf2 : FrR P m { fr with defs := [] } b { a with defers := [] } := ⟨hf.env, trivial, hf.fn, hf.round, hf.kind⟩
      obtain ⟨v', hv, hrun⟩ := results_run (fr := fr) (b := b) (a := a) h1 hf hr
      exact ⟨w2, { b.atR { a with defers := [] } todo with mode := .returning }, h1, h2, rfl, hst.trans h3, v', hv, rfl, rfl, hf.kind, fn, hfn, hrun⟩
    split at h
    · -- normal
      split at h
      · rename_i vs hr
        simp only [Option.some.injEq, Prod.mk.injEq] at h
        obtain ⟨rfl, rfl⟩ := h
        exact hret hf vs [] hr (Steps.trans ha (.one (stepR_end hround))) rfl rfl
      · simp at h
    · split at h
      · rename_i vs hr
        simp only [Option.some.injEq, Prod.mk.injEq] at h
        obtain ⟨rfl, rfl⟩ := h
        obtain ⟨k0, ha⟩ := ha
        exact hret hf vs (.code .ret :: k0) hr (Steps.trans ha (.one (stepR_ret hround))) rfl rfl
      · simp at h
    · rename_i chain
      simp only [Option.some.injEq, Prod.mk.injEq] at h
      obtain ⟨rfl, rfl⟩ := h
      obtain ⟨ch', todo, hc, _, ha⟩ := ha
      obtain ⟨_, _, hf⟩ := hf
      obtain ⟨w2, h1, h2, h3⟩ := runDefs_sim (P := P) (ok := ok) (b := b) (todo := todo) (cs := cs) (md := .panicking ch') (by simp) hd hs hf.defs
      exact ⟨w2, { b.atR { a with defers := [] } todo with mode := .panicking ch' }, h1, h2, rfl, ha.trans h3, ch', hc, rfl, rfl, fn, hfn⟩
    · simp at h

theorem enter_sim (hP : ProgOK P ok) {e : Ev} (he : Sound P ok B e) {f : FuncId} {fn : Func} {c : Code} {args : List Value} {args' : Array Value} {ex : Exit} {fr : Fr} {s1 s' : S} {r : CRes}
    (hf : P.funcs[f]? = some fn) (hc : fn.body = some c) (hl : args.length ≤ fn.ntmps) (h : e.code c ⟨envOf fn.ntmps args 0 .empty, fn.ntmps, [], f, none⟩ s = some (ex, fr, s1))
    (hfin : finishA P fn ex fr s1 = some (r, s')) (hs : SR P ok m B s w) (hB : B ≤ w.heap.size) (ha : LR m args args'.toList) (cs : List Frame) :
    ∃ m' w' fr2, m.le m' ∧ SR P ok m' B s' w' ∧ Below B w w' ∧ fr2.fn = f ∧ Steps P (lone (Frame.enter P f args' .normal) cs w) (lone fr2 cs w') ∧ Leaves P m' fr2 w' r := by
  let b : Frame := { fn := f, tmps := #[], todo := [], defers := [], mode := .run, kind := .normal }
  have hent : Frame.enter P f args' .normal = b.atR ⟨args' ++ Array.replicate (fn.ntmps - args'.size) undef, []⟩ [.code c] := by
    simp [Frame.enter, Frame.atR, hf, hc, b]
  rw [hent]
  have hfr : FrR P m ⟨envOf fn.ntmps args 0 .empty, fn.ntmps, [], f, none⟩ b ⟨args' ++ Array.replicate (fn.ntmps - args'.size) undef, []⟩ :=
    ⟨enter_env ha hl, trivial, rfl, trivial, rfl⟩
  obtain ⟨m1, w1, a1, h1, h2, h3, h4, h5⟩ := he.code h (hP.body hf hc) hs hB hfr (k := []) (cs := cs) (.inl rfl)
  obtain ⟨w2, fr2, g1, g2, g3, g4, g5⟩ := finishA_sim (b := b) hf rfl h2 h4 hfin h5
  exact ⟨m1, w2, fr2, h1, g1, h3.trans g2, g3, g4, g5⟩

theorem Leaves.resR {M : Machine} {fr c : Frame} {cs : List Frame} {r : CRes} (h : Leaves P m fr w r) (hc : c.mode = .run) (hs : Steps P M (lone fr (c :: cs) w)) : ResR P m M c cs w r := by
  cases r with
  | ret v =>
    obtain ⟨v', hv, hl⟩ := h
    exact ⟨v', hv, hs.trans (.one (step_leave_returned hl))⟩
  | pan ch =>
    obtain ⟨ch', hch, hl⟩ := h
    refine ⟨ch', hch, hs.trans (.one ?_)⟩
    rw [step_leave_panicked hl]
    simp [Frame.raise, hc]

/-- What is asked of the hooks. -/
def ExtOK (P : Program) (ok : Cx) (B : Nat) (ext : Ev → FuncId → List Value → S → Option (CRes × S)) : Prop :=
  ∀ e, Sound P ok B e → ∀ {f args s r s'}, ext e f args s = some (r, s') → ∀ {m w args'}, SR P ok m B s w → B ≤ w.heap.size → LR m args args'.toList → Inv P ok B m (callFunc f args') w r s'

theorem stepCall_sim (hP : ProgOK P ok) {ext : Ev → FuncId → List Value → S → Option (CRes × S)} (hext : ExtOK P ok B ext) {e : Ev} (he : Sound P ok B e) {f : FuncId} {args : List Value} {r : CRes} {s' : S}
    (h : stepCall P ext e f args s = some (r, s')) {args' : Array Value} (hs : SR P ok m B s w) (hB : B ≤ w.heap.size) (ha : LR m args args'.toList) :
    Inv P ok B m (callFunc f args') w r s' := by
  unfold stepCall at h
  split at h
  · rename_i r0 hx
    simp only [Option.some.injEq] at h; subst h
    exact hext e he hx hs hB ha
  · split at h
    · rename_i fn hf
      have hf' : P.funcs[f]? = some fn := by simpa using hf
      split at h
      · rename_i c hc
        obtain ⟨hl, h⟩ := cond_some h
        rw [Nat.ble_eq] at hl
        split at h
        · rename_i ex fr s1 hcode
          intro M fr0 cs hw hb
          obtain ⟨m1, w1, fr2, g1, g2, g3, g4, g5, g6⟩ := enter_sim hP he hf' hc hl hcode h hs hB ha (fr0 :: cs)
          refine ⟨m1, w1, g1, g2, g3, g6.resR hw.1 ?_⟩
          exact .head (hw.enters hb (callFunc_enter hP hf' hc args')) g5
        · simp at h
      · simp at h
    · simp at h
end
end Go.Sv
