/-
  Lemmas of this claim's own: the operations that write to memory, append and copy among them. No condition.
-/
import Derived.Test.YtdmahionfllhnaaGreatDoorSim6
import Derived.IntWalk
namespace Sim
open Go Go.MapKept

theorem VR.one {ρ : Rho} {v : V} {x : Value} (h : VR ρ v x) (ho : v.one = true) : x.oneCell' = true := by
  cases h <;> first | rfl | (simp [V.one] at ho)

theorem VRs.one {ρ : Rho} : ∀ {l : List V} {xs : List Value}, VRs ρ l xs → l.all V.one = true → ∀ x ∈ xs, x.oneCell' = true
  | _, _, .nil, _, x, hx => by simp at hx
  | _, _, .cons v y l xs hv t, ho, x, hx => by
    simp only [List.all_cons, Bool.and_eq_true] at ho
    rcases List.mem_cons.1 hx with rfl | hx
    · exact hv.one ho.1
    · exact VRs.one t ho.2 x hx

theorem Wrote.refl {w : World} {cb : Nat} {o : Obj} (h : w.heap[cb]? = some o) : Wrote w w cb o := ⟨rfl, rfl, rfl, rfl, h, fun _ _ => rfl⟩
theorem Wrote.trans {w w1 w2 : World} {cb : Nat} {o1 o2 : Obj} (h : Wrote w w1 cb o1) (k : Wrote w1 w2 cb o2) : Wrote w w2 cb o2 :=
  ⟨k.os.trans h.os, k.tape.trans h.tape, k.output.trans h.output, k.size.trans h.size, k.new, fun i hi => (k.old i hi).trans (h.old i hi)⟩

theorem Wrote.setCell {w : World} {cb o : Nat} {C : Array Value} {el : TypeId} {fz : Nat × Nat} (v : Value) (h : w.heap[cb]? = some (.cells C el fz)) :
    Wrote w (w.setCell ⟨cb, o, none⟩ v) cb (.cells (C.setIfInBounds o v) el fz) := by
  have hlt : cb < w.heap.size := (Array.getElem?_eq_some_iff.1 h).1
  refine ⟨rfl, rfl, rfl, by simp [World.setCell], ?_, fun i hi => ?_⟩
  · simp only [World.setCell, Array.getElem?_modify, if_pos, h, Option.map_some]
    simp
  · simp only [World.setCell, Array.getElem?_modify]
    rw [if_neg (fun e => hi e.symm)]

/-- A row of cells, stored. -/
theorem storeCells_run {P : Program} (cb o : Nat) (el : TypeId) (fz : Nat × Nat) : ∀ (xs : List Value) (i : Nat) (w : World) (C : Array Value), w.heap[cb]? = some (.cells C el fz) → o + i + xs.length ≤ C.size →
    (∀ j, o + i ≤ j → j < o + i + xs.length → ¬ (fz.1 ≤ j ∧ j < fz.2)) → (∀ x ∈ xs, x.oneCell' = true) →
    ∃ w' C', (storeCells ⟨cb, o, none⟩ xs i).run P w = .ok () w' ∧ Wrote w w' cb (.cells C' el fz) ∧ C'.size = C.size ∧
      ∀ j : Nat, C'[j]? = if o + i ≤ j ∧ j < o + i + xs.length then xs[j - (o + i)]? else C[j]?
  | [], i, w, C, h, _, _, _ => ⟨w, C, rfl, .refl h, rfl, fun j => by rw [if_neg (by simp)]⟩
  | x :: xs, i, w, C, h, hl, hf, ho => by
    simp only [List.length_cons] at hl
    have hc : w.cell? ⟨cb, o + i, none⟩ = some C[o + i] := by simp [World.cell?, h]
    have hfz : w.frozen? ⟨cb, o + i, none⟩ = false := by
      have := hf (o + i) (Nat.le_refl _) (by simp)
      simp only [World.frozen?, h]
      simp; omega
    have hw := Wrote.setCell (w := w) (cb := cb) (o := o + i) x h
    obtain ⟨w', C', h1, h2, h3, h4⟩ := storeCells_run (P := P) cb o el fz xs (i + 1) _ _ hw.new (by rw [Array.size_setIfInBounds]; omega)
      (fun j hj1 hj2 => hf j (by omega) (by simp; omega)) (fun y hy => ho y (List.mem_cons_of_mem _ hy))
    refine ⟨w', C', ?_, hw.trans h2, by rw [h3]; simp, fun j => ?_⟩
    · unfold storeCells
      simp only [Sem.run_bind, Addr.add_none, run_store P w _ x _ (ho x List.mem_cons_self), hc, hfz]
      simpa using h1
    · rw [h4]
      by_cases hj : o + (i + 1) ≤ j ∧ j < o + (i + 1) + xs.length
      · rw [if_pos hj, if_pos (by simp; omega), show j - (o + i) = (j - (o + (i + 1))) + 1 from by omega]; simp
      · rw [if_neg hj]
        by_cases hj2 : j = o + i
        · subst hj2
          rw [if_pos (by simp), Array.getElem?_setIfInBounds, if_pos rfl, if_pos (by omega)]; simp
        · rw [if_neg (by simp; omega), Array.getElem?_setIfInBounds, if_neg (by omega)]

/-- A stretch of a block of cells, written over. -/
theorem write_rel {P : Program} {ρ : Rho} {m : Mem} {w : World} (hm : MR ρ m w) {b off : Nat} {e : Ext} {c l : List V} {xs : List Value} (hb : ρ b = some e) (hc : m.wr b = some c) (hle : off + l.length ≤ c.length)
    (hl : VRs ρ l xs) (ho : l.all V.one = true) :
    ∃ w', (storeCells ⟨e.cb, e.base + off, none⟩ xs).run P w = .ok () w' ∧ Nxt ρ m w ρ (m.set b (.cells (splice c off l))) w' := by
  have hbr : BlkR ρ e w (some (.cells c)) := by have := hm.blk b e hb; rwa [Mem.wr_get hc] at this
  obtain ⟨C, el, fz, h1, h2, h3⟩ := hbr
  obtain ⟨q1, q2, q3, q4⟩ := h2
  have hxl := hl.length
  obtain ⟨w', C', r1, r2, r3, r4⟩ := storeCells_run (P := P) e.cb (e.base + off) el fz xs 0 w C h1 (by omega) (fun j h4 h5 => h3.out j (by omega) (by omega)) (hl.one ho)
  refine ⟨w', r1, Nxt.write hm hb hc h1 r2 r3 (fun i hi => by rw [r4, if_neg (by omega)]) ⟨by rw [splice_length hle]; exact q1, q2, by rw [r3]; exact q3, fun i v hv => ?_⟩⟩
  rw [splice_get hle] at hv
  rw [r4]
  split at hv
  · rw [if_neg (by omega)]; exact q4 i v hv
  · split at hv
    · rw [if_pos (by omega), show e.base + i - (e.base + off + 0) = i - off from by omega]; exact hl.get hv
    · rw [if_neg (by omega)]; exact q4 i v hv

def storeV (P : Program) (t : TypeId) (p v : V) (m : Mem) : Option Mem :=
  match p with
  | .ptr b off =>
    match szT P t, m.wr b with
    | some n, some c => if v.cells.length = n ∧ v.cells.all V.one = true ∧ off + n ≤ c.length then some (m.set b (.cells (splice c off v.cells))) else none
    | _, _ => none
  | _ => none

theorem storeV_rel {P : Program} {ρ : Rho} {m m' : Mem} {w : World} (hm : MR ρ m w) {t : TypeId} {p v : V} {px vx : Value} (h : storeV P t p v m = some m') (hp : VR ρ p px) (hv : VR ρ v vx) :
    ∃ w', (Instr.storeAt t px vx).run P w = .ok () w' ∧ Nxt ρ m w ρ m' w' := by
  unfold storeV at h
  split at h
  case h_2 => cases h
  rename_i b off
  split at h
  case h_2 => cases h
  rename_i n c hn hc
  split at h
  case isFalse => cases h
  rename_i hcond
  cases h
  cases hp with
  | ptr _ _ e hb =>
    obtain ⟨w', h1, h2⟩ := write_rel (P := P) (off := off) (l := v.cells) hm hb hc (by rw [hcond.1]; exact hcond.2.2) hv.cells hcond.2.1
    have hl := hv.cells.length
    simp only [Array.length_toList] at hl
    refine ⟨w', ?_, h2⟩
    have : ¬ (vx.cells.size ≠ n) := by omega
    simp only [Instr.storeAt, Instr.sureAddr, Sem.run_bind, Sem.run_pure, Result.andThen_ok, storeVar, run_sz hn, if_neg this, h1]

def makeSliceV (P : Program) (t : TypeId) (l c : V) (m : Mem) : Option (V × Mem) :=
  match P.underlying t, l, c with
  | some (.slice el), .int _ l, .int _ c =>
    match szT P el, zeroCells P el, (P.info? el).map (·.bytes) with
    | some size, some z, some by_ =>
      if z.length = size ∧ 0 < size ∧ 0 ≤ l ∧ l ≤ c ∧ by_ * c ≤ 281474976710656 ∧ c ≤ 9223372036854775807 then some (.slc m.size 0 l.toNat c.toNat size, m.push (.cells (repV z (c.toNat * size)))) else none
    | _, _, _ => none
  | _, _, _ => none

theorem i64_in {n : Int} (h : 0 ≤ n) (h2 : n ≤ 9223372036854775807) : IntKind.i64.wrap n = n := IntWalk.i64_in n (by omega)

theorem makeSliceV_rel {P : Program} {ρ : Rho} {m m' : Mem} {w : World} (hm : MR ρ m w) {t : TypeId} {lv cv v : V} {lx cx : Value} (h : makeSliceV P t lv cv m = some (v, m')) (hl : VR ρ lv lx) (hc : VR ρ cv cx) :
    Gives P ρ m w (Instr.makeSlice t lx cx) v m' := by
  unfold makeSliceV at h
  split at h
  case h_2 => cases h
  rename_i el k l k' c hu
  split at h
  case h_2 => cases h
  rename_i size z by_ hs hz hby
  split at h
  case isFalse => cases h
  rename_i hcond
  obtain ⟨c1, c2, c3, c4, c5, c6⟩ := hcond
  cases h
  cases hl; cases hc
  obtain ⟨zv, hz1, hz2⟩ := zeroCells_rel hz w ρ
  have hinfo : ∃ i, P.info? el = some i ∧ i.bytes = by_ := by
    cases hi : P.info? el with
    | none => simp [hi] at hby
    | some i => simp [hi] at hby; exact ⟨i, rfl, hby⟩
  obtain ⟨i, hi, hib⟩ := hinfo
  have hwl : IntKind.i64.wrap l = l := i64_in c3 (by omega)
  have hwc : IntKind.i64.wrap c = c := i64_in (by omega) c6
  have hcn : (c.toNat : Int) = c := Int.toNat_of_nonneg (by omega)
  have ht : (decide (c < 0) || decide ((by_ : Int) * c > 2 ^ 48)) = false := by
    have : ¬ ((by_ : Int) * c > 2 ^ 48) := by
      have : (2 ^ 48 : Int) = 281474976710656 := by decide
      rw [this]; omega
    simp only [this, decide_false, Bool.or_false, decide_eq_false_iff_not]; omega
  have key : ∀ Z : Array Value, VRs ρ (repV z (c.toNat * size)) ((Array.range (c.toNat * size)).map (Z[· % Z.size]!)).toList →
      (Instr.makeSlice t (.int k l) (.int k' c)).run P w = (do pure (.slice (some (← newRow el ((Array.range (c.toNat * size)).map (Z[· % Z.size]!)))) l.toNat c.toNat) : Sem Value).run P w → Gives P ρ m w (Instr.makeSlice t (.int k l) (.int k' c)) (.slc m.size 0 l.toNat c.toNat size) (m.push (.cells (repV z (c.toNat * size)))) := by
    intro Z hZ hrun
    obtain ⟨x, ρ', w', g1, g2, g3⟩ := newRow_rel (P := P) (el := el) (len := l.toNat) (cap := c.toNat) (sz := size) hm hZ (by simp [repV]) (by omega)
    exact ⟨x, ρ', w', by rw [hrun]; exact g1, g2, g3⟩
  by_cases h0 : c.toNat * size = 0
  · refine key #[] (by rw [h0]; simp [repV]; exact .nil) ?_
    unfold Instr.makeSlice
    have hnl : ¬ (l < 0) := by omega
    have hnc : ¬ (l > c) := by omega
    simp only [Sem.run_bind, run_underlying hu, Result.andThen_ok, asInt, asIntOf, Sem.run_pure, typeInfo, run_program, hi, hwl, hwc, hib, ht, Bool.false_or, hnl, hnc, decide_false, Bool.false_eq_true, if_false, run_askRoom, run_sz hs, if_pos h0]
  · refine key zv.cells (repV_rel hz2 (.inr (by omega))) ?_
    unfold Instr.makeSlice
    have hnl : ¬ (l < 0) := by omega
    have hnc : ¬ (l > c) := by omega
    simp only [Sem.run_bind, run_underlying hu, Result.andThen_ok, asInt, asIntOf, Sem.run_pure, typeInfo, run_program, hi, hwl, hwc, hib, ht, Bool.false_or, hnl, hnc, decide_false, Bool.false_eq_true, if_false, run_askRoom, run_sz hs, if_neg h0, hz1]

end Sim
