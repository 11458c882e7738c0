/-
  Lemmas of this claim's own: operations that make memory and do nothing else, and append, where other new memory stands by. No condition.
-/
import Derived.Test.YtdmahionfllhnaaGreatDoorSim10
namespace Sim
open Go Go.MapKept

def newOp : Op → Bool
  | .alloc _ | .box .. | .buildSlice .. | .makeSlice .. | .makeMap _ none => true
  | _ => false
def appOp : Op → Bool
  | .call { callee := .builtin .append, .. } => true
  | _ => false

def Mem.add (m : Mem) (x : Blk) : Option (TypeId × Option Nat) → Mem
  | none => m.push x
  | some (el, sz) => (m.push x).tag ⟨m.size, el, sz⟩

@[simp] theorem Mem.size_add (m : Mem) (x : Blk) (t : Option (TypeId × Option Nat)) : (m.add x t).size = m.size + 1 := by
  cases t <;> simp [Mem.add]
theorem Mem.get_add (m : Mem) (x : Blk) (t : Option (TypeId × Option Nat)) (b : Nat) : (m.add x t).get b = if b = m.size then some x else m.get b := by
  cases t <;> simp [Mem.add, Mem.get_push]
theorem Mem.ty_add {m : Mem} {x : Blk} {t : Option (TypeId × Option Nat)} {u : Tag} (h : u ∈ (m.add x t).ty) : u ∈ m.ty ∨ (∃ el sz, t = some (el, sz) ∧ u = ⟨m.size, el, sz⟩) := by
  cases t with
  | none => exact .inl h
  | some p =>
    obtain ⟨el, sz⟩ := p
    rcases List.mem_cons.1 h with rfl | h
    · exact .inr ⟨el, sz, rfl, rfl⟩
    · exact .inl h
@[simp] theorem Mem.gl_add (m : Mem) (x : Blk) (t : Option (TypeId × Option Nat)) : (m.add x t).gl = m.gl := by cases t <;> rfl

/-- What comes of an operation that makes memory, whatever the new block is called. -/
def Fresh (P : Program) (ρ : Rho) (w : World) (s : Sem Value) (mk : Nat → V) (x : Blk) (tg : Option (TypeId × Option Nat)) : Prop :=
  ∃ xv w' e ob, s.run P w = .ok xv w' ∧ Grew w w' ob ∧ e.cb = w.heap.size ∧ (∀ ρ', ρ.le ρ' → ∀ w'' : World, w''.heap[e.cb]? = some ob → BlkR ρ' e w'' (some x)) ∧
    (∀ ρ' b, ρ' b = some e → VR ρ' (mk b) xv) ∧ ∀ el sz, tg = some (el, sz) → ∀ (b : Nat) (w'' : World), w''.heap[e.cb]? = some ob → TagR e ⟨b, el, sz⟩ w''

theorem Fresh.run {P : Program} {ρ : Rho} {w : World} {s s' : Sem Value} {mk : Nat → V} {x : Blk} {tg : Option (TypeId × Option Nat)} (h : Fresh P ρ w s mk x tg) (e : s'.run P w = s.run P w) : Fresh P ρ w s' mk x tg := by
  obtain ⟨xv, w', e', ob, h1, h2⟩ := h
  exact ⟨xv, w', e', ob, by rw [e]; exact h1, h2⟩

theorem newVar_fresh {P : Program} {ρ : Rho} {w : World} {t : TypeId} {l : List V} {x : Value} (h : VRs ρ l x.cells.toList) :
    Fresh P ρ w (do pure (.pointer (some (← newVar t x)))) (fun b => .ptr b 0) (.cells l) (some (t, some l.length)) := by
  have hl := h.length
  simp only [Array.length_toList] at hl
  have hg := Grew.alloc w (.cells x.cells t)
  refine ⟨.pointer (some ⟨w.heap.size, 0, none⟩), _, ⟨w.heap.size, 0, l.length, x.cells.size⟩, _, ?_, hg, rfl, ?_, ?_, ?_⟩
  · simp only [newVar, newRow, Sem.run_bind, run_newObj, Result.andThen_ok, Sem.run_pure]; rfl
  · intro ρ' hρ w'' hh
    exact ⟨x.cells, t, _, hh, CellsR.of_take (by rw [hl, ← Array.length_toList, List.take_length]; exact h.mono hρ) (by omega), .inl rfl⟩
  · intro ρ' b hb
    have := VR.ptr b 0 _ hb
    simpa using this
  · intro el sz ht b w'' hh
    cases ht
    exact ⟨x.cells, _, hh, fun s hs => by cases hs; exact ⟨rfl, hl.symm⟩⟩

theorem newRow_fresh {P : Program} {ρ : Rho} {w : World} {el : TypeId} {c : List V} {C : Array Value} {len cap sz : Nat} (h : VRs ρ c C.toList) (hs : c.length = cap * sz) (hl : len ≤ cap) :
    Fresh P ρ w (do pure (.slice (some (← newRow el C)) len cap)) (fun b => .slc b 0 len cap sz) (.cells c) none := by
  have hcl := h.length
  simp only [Array.length_toList] at hcl
  have hg := Grew.alloc w (.cells C el)
  refine ⟨.slice (some ⟨w.heap.size, 0, none⟩) len cap, _, ⟨w.heap.size, 0, c.length, C.size⟩, _, ?_, hg, rfl, ?_, ?_, ?_⟩
  · simp only [newRow, Sem.run_bind, run_newObj, Result.andThen_ok, Sem.run_pure]; rfl
  · intro ρ' hρ w'' hh
    exact ⟨C, el, _, hh, CellsR.of_take (by rw [hcl, ← Array.length_toList, List.take_length]; exact h.mono hρ) (by omega), .inl rfl⟩
  · intro ρ' b hb
    have := VR.slc b 0 len cap cap sz _ hb hl (Nat.le_refl _) (by simp; omega) (by omega) (by simp; omega)
    simpa using this
  · intro el sz ht; cases ht

theorem buildSliceV_fresh {P : Program} {ρ : Rho} {m m' : Mem} {w : World} {t : TypeId} {len : Nat} {ps : List (Nat × V)} {qs : Array (Nat × Value)} {v : V} (h : buildSliceV P t len ps m = some (v, m')) (hp : PartsR ρ ps qs.toList) :
    ∃ (mk : Nat → V) (x : Blk) (tg : Option (TypeId × Option Nat)), v = mk m.size ∧ m' = m.add x tg ∧ Fresh P ρ w (Instr.buildSlice t len qs) mk x tg := by
  unfold buildSliceV at h
  split at h
  case h_2 => cases h
  rename_i el hu
  split at h
  case h_2 => cases h
  rename_i size z hs hz
  split at h
  case isFalse => cases h
  rename_i hc
  split at h
  case h_2 => cases h
  rename_i c hf
  cases h
  obtain ⟨zv, hz1, hz2⟩ := zeroCells_rel hz w ρ
  have hlen := fillV_length hf
  have hle : ¬ (len * size > 2 ^ 24) := by omega
  have hk : ∃ Z : Array Value, VRs ρ (repV z (len * size)) ((Array.range (len * size)).map (Z[· % Z.size]!)).toList ∧
      ∀ C', Instr.fill (fun i => some (i * size, size)) ((Array.range (len * size)).map (Z[· % Z.size]!)) qs.toList = some C' →
        (Instr.buildSlice t len qs).run P w = (do pure (.slice (some (← newRow el C')) len len) : Sem Value).run P w := by
    by_cases h0 : len * size = 0
    · refine ⟨#[], by rw [h0]; simp [repV]; exact .nil, fun C' h1 => ?_⟩
      unfold Instr.buildSlice
      simp only [Sem.run_bind, run_underlying hu, run_sz hs, Result.andThen_ok, if_neg hle, if_pos h0, Sem.run_pure, h1]
    · refine ⟨zv.cells, repV_rel hz2 (.inr (by omega)), fun C' h1 => ?_⟩
      unfold Instr.buildSlice
      simp only [Sem.run_bind, run_underlying hu, run_sz hs, Result.andThen_ok, if_neg hle, if_neg h0, hz1, Sem.run_pure, h1]
  obtain ⟨Z, hZr, hZ⟩ := hk
  obtain ⟨C', h1, h2⟩ := fillV_rel hp hZr hf
  exact ⟨_, _, none, rfl, rfl, (newRow_fresh (P := P) (w := w) (el := el) (len := len) (cap := len) (sz := size) h2 (by rw [hlen]; simp [repV]) (Nat.le_refl _)).run (hZ C' h1)⟩

theorem makeSliceV_fresh {P : Program} {ρ : Rho} {m m' : Mem} {w : World} {t : TypeId} {lv cv v : V} {lx cx : Value} (h : makeSliceV P t lv cv m = some (v, m')) (hl : VR ρ lv lx) (hc : VR ρ cv cx) :
    ∃ (mk : Nat → V) (x : Blk) (tg : Option (TypeId × Option Nat)), v = mk m.size ∧ m' = m.add x tg ∧ Fresh P ρ w (Instr.makeSlice t lx cx) mk x tg := by
  unfold makeSliceV at h
  split at h
  case h_2 => cases h
  rename_i el k l k' c hu
  split at h
  case h_2 => cases h
  rename_i size z by_ hs hz hby
  split at h
  case isFalse => cases h
  rename_i hcond
  obtain ⟨c1, c2, c3, c4, c5, c6⟩ := hcond
  cases h
  cases hl; cases hc
  obtain ⟨zv, hz1, hz2⟩ := zeroCells_rel hz w ρ
  have hinfo : ∃ i, P.info? el = some i ∧ i.bytes = by_ := by
    cases hi : P.info? el with
    | none => simp [hi] at hby
    | some i => simp [hi] at hby; exact ⟨i, rfl, hby⟩
  obtain ⟨i, hi, hib⟩ := hinfo
  have hwl : IntKind.i64.wrap l = l := i64_in c3 (by omega)
  have hwc : IntKind.i64.wrap c = c := i64_in (by omega) c6
  have hcn : (c.toNat : Int) = c := Int.toNat_of_nonneg (by omega)
  have ht : (decide (c < 0) || decide ((by_ : Int) * c > 2 ^ 48)) = false := by
    have : ¬ ((by_ : Int) * c > 2 ^ 48) := by
      have : (2 ^ 48 : Int) = 281474976710656 := by decide
      rw [this]; omega
    simp only [this, decide_false, Bool.or_false, decide_eq_false_iff_not]; omega
  have key : ∀ Z : Array Value, VRs ρ (repV z (c.toNat * size)) ((Array.range (c.toNat * size)).map (Z[· % Z.size]!)).toList →
      (Instr.makeSlice t (.int k l) (.int k' c)).run P w = (do pure (.slice (some (← newRow el ((Array.range (c.toNat * size)).map (Z[· % Z.size]!)))) l.toNat c.toNat) : Sem Value).run P w →
      ∃ (mk : Nat → V) (x : Blk) (tg : Option (TypeId × Option Nat)), V.slc m.size 0 l.toNat c.toNat size = mk m.size ∧ m.push (.cells (repV z (c.toNat * size))) = m.add x tg ∧ Fresh P ρ w (Instr.makeSlice t (.int k l) (.int k' c)) mk x tg := by
    intro Z hZ hrun
    exact ⟨_, _, none, rfl, rfl, (newRow_fresh (P := P) (w := w) (el := el) (len := l.toNat) (cap := c.toNat) (sz := size) hZ (by simp [repV]) (by omega)).run hrun⟩
  by_cases h0 : c.toNat * size = 0
  · refine key #[] (by rw [h0]; simp [repV]; exact .nil) ?_
    unfold Instr.makeSlice
    have hnl : ¬ (l < 0) := by omega
    have hnc : ¬ (l > c) := by omega
    simp only [Sem.run_bind, run_underlying hu, Result.andThen_ok, asInt, asIntOf, Sem.run_pure, typeInfo, run_program, hi, hwl, hwc, hib, ht, Bool.false_or, hnl, hnc, decide_false, Bool.false_eq_true, if_false, run_askRoom, run_sz hs, if_pos h0]
  · refine key zv.cells (repV_rel hz2 (.inr (by omega))) ?_
    unfold Instr.makeSlice
    have hnl : ¬ (l < 0) := by omega
    have hnc : ¬ (l > c) := by omega
    simp only [Sem.run_bind, run_underlying hu, Result.andThen_ok, asInt, asIntOf, Sem.run_pure, typeInfo, run_program, hi, hwl, hwc, hib, ht, Bool.false_or, hnl, hnc, decide_false, Bool.false_eq_true, if_false, run_askRoom, run_sz hs, if_neg h0, hz1]

theorem makeMap_fresh {P : Program} {ρ : Rho} {w : World} {t : TypeId} : Fresh P ρ w (Instr.makeMap t none) (fun b => .map b) (.map []) none := by
  have hg := Grew.alloc w (.map #[] 0)
  refine ⟨.map (some w.heap.size), _, ⟨w.heap.size, 0, 0, 1⟩, _, rfl, hg, rfl, ?_, ?_, ?_⟩
  · intro ρ' _ w'' hh; exact ⟨_, _, hh, .nil, rfl, rfl⟩
  · intro ρ' b hb; exact .map b _ hb
  · intro el sz ht; cases ht

theorem evE_new {P : Program} {m m' : Mem} {env : Env} {op : Op} {r : OR} (hn : newOp op = true) (h : evE P env m op = some (r, m')) : ∃ x tg v, m' = m.add x tg ∧ r = .val v := by
  unfold newOp at hn
  split at hn
  · simp only [evE] at h
    obtain ⟨l, hl, h⟩ := omap h; cases h
    exact ⟨_, some (_, some _), _, rfl, rfl⟩
  · simp only [evE] at h
    obtain ⟨l, hl, h⟩ := omap h; cases h
    exact ⟨_, some (_, some _), _, rfl, rfl⟩
  · simp only [evE] at h
    obtain ⟨l, hl, h⟩ := obind h
    obtain ⟨q, hq, h⟩ := omap h
    obtain ⟨q1, q2⟩ := q
    cases h
    unfold buildSliceV at hq
    split at hq
    case h_2 => cases hq
    split at hq
    case h_2 => cases hq
    split at hq
    case isFalse => cases hq
    split at hq
    case h_2 => cases hq
    cases hq
    exact ⟨_, none, _, rfl, rfl⟩
  · simp only [evE] at h
    obtain ⟨u, hu, h⟩ := obind h
    obtain ⟨l, hl, h⟩ := obind h
    obtain ⟨q, hq, h⟩ := omap h
    obtain ⟨q1, q2⟩ := q
    cases h
    unfold makeSliceV at hq
    split at hq
    case h_2 => cases hq
    split at hq
    case h_2 => cases hq
    split at hq
    case isFalse => cases hq
    cases hq
    exact ⟨_, none, _, rfl, rfl⟩
  · simp only [evE] at h
    cases h
    exact ⟨_, none, _, rfl, rfl⟩
  · cases hn

theorem newOp_rel {P : Program} {ρ : Rho} {m m' : Mem} {w : World} {n : Nat} {env : Env} {a : Act} (he : EnvR ρ n env a.tmps) {o : Oper} {v : V} (hn : newOp o.op = true) (h : evE P env m o.op = some (.val v, m')) :
    ∃ (mk : Nat → V) (x : Blk) (tg : Option (TypeId × Option Nat)), v = mk m.size ∧ m' = m.add x tg ∧ ∃ xv w' e ob, Ran ((execOp a.eval o).run P w) xv w' ∧ Grew w w' ob ∧ e.cb = w.heap.size ∧ (∀ ρ', ρ.le ρ' → ∀ w'' : World, w''.heap[e.cb]? = some ob → BlkR ρ' e w'' (some x)) ∧
    (∀ ρ' b, ρ' b = some e → VR ρ' (mk b) xv) ∧ ∀ el sz, tg = some (el, sz) → ∀ (b : Nat) (w'' : World), w''.heap[e.cb]? = some ob → TagR e ⟨b, el, sz⟩ w'' := by
  obtain ⟨dst, op, ty, pos, after, guard⟩ := o
  simp only at h hn
  have giv : ∀ {s : Sem Value} {v : V} {m' : Mem} {mk : Nat → V} {x : Blk} {tg : Option (TypeId × Option Nat)}, v = mk m.size → m' = m.add x tg → Fresh P ρ w s mk x tg → execOp a.eval ⟨dst, op, ty, pos, after, guard⟩ = (do pure (.value (← s))) →
      ∃ (mk : Nat → V) (x : Blk) (tg : Option (TypeId × Option Nat)), v = mk m.size ∧ m' = m.add x tg ∧ ∃ xv w' e ob, Ran ((execOp a.eval ⟨dst, op, ty, pos, after, guard⟩).run P w) xv w' ∧ Grew w w' ob ∧ e.cb = w.heap.size ∧ (∀ ρ', ρ.le ρ' → ∀ w'' : World, w''.heap[e.cb]? = some ob → BlkR ρ' e w'' (some x)) ∧
    (∀ ρ' b, ρ' b = some e → VR ρ' (mk b) xv) ∧ ∀ el sz, tg = some (el, sz) → ∀ (b : Nat) (w'' : World), w''.heap[e.cb]? = some ob → TagR e ⟨b, el, sz⟩ w'' := by
    rintro s v m' mk x tg h1 h2 ⟨xv, w', e, ob, h3, h4⟩ hs
    exact ⟨mk, x, tg, h1, h2, xv, w', e, ob, .inl (by rw [hs, Sem.run_bind, h3]; rfl), h4⟩
  unfold newOp at hn
  split at hn
  · rename_i t
    simp only [evE] at h
    obtain ⟨l, hl, h⟩ := omap h
    cases h
    obtain ⟨z, h1, h2⟩ := zeroCells_rel hl w ρ
    refine giv rfl rfl ((newVar_fresh (P := P) (t := t) (w := w) h2).run ?_) rfl
    simp only [Instr.alloc, Sem.run_bind, h1, Result.andThen_ok]
  · simp only [evE] at h
    obtain ⟨v, hv, h⟩ := omap h
    cases h
    exact giv rfl rfl (newVar_fresh (P := P) (evX_rel he hv).cells) rfl
  · rename_i t k ps
    simp only [evE] at h
    obtain ⟨l, hl, h⟩ := obind h
    obtain ⟨q, hq, h⟩ := omap h
    obtain ⟨q1, q2⟩ := q
    cases h
    obtain ⟨mk, x, tg, g1, g2, g3⟩ := buildSliceV_fresh (P := P) (w := w) (qs := ps.map fun (p : Nat × Operand) => (p.1, a.eval p.2)) hq (by simpa using partsX_rel he hl)
    exact giv g1 g2 g3 rfl
  · simp only [evE] at h
    obtain ⟨u, hu, h⟩ := obind h
    obtain ⟨v, hv, h⟩ := obind h
    obtain ⟨q, hq, h⟩ := omap h
    obtain ⟨q1, q2⟩ := q
    cases h
    obtain ⟨mk, x, tg, g1, g2, g3⟩ := makeSliceV_fresh (P := P) (w := w) hq (evX_rel he hu) (evX_rel he hv)
    exact giv g1 g2 g3 rfl
  · simp only [evE] at h
    cases h
    exact giv (mk := fun b => .map b) (tg := none) rfl rfl (makeMap_fresh (P := P)) rfl
  · cases hn

/-- New memory that the world does not have yet. -/
theorem Nxt.late {ρ0 ρ : Rho} {m0 m : Mem} {w0 w : World} (h : Nxt ρ0 m0 w0 ρ m w) (x : Blk) (tg : Option (TypeId × Option Nat)) : Nxt ρ0 m0 w0 ρ (m.add x tg) w := by
  have hd : ∀ b e, ρ b = some e → b ≠ m.size := fun b e hb => by have := h.mr.dom hb; omega
  have hrw : ∀ {b : Nat}, b ≠ m.size → (m.add x tg).isRw b → m.isRw b := fun {b} hne ⟨y, h1, h2⟩ => ⟨y, by rw [Mem.get_add, if_neg hne] at h1; exact h1, h2⟩
  have hlv : ∀ {b : Nat}, b ≠ m.size → (m.add x tg).isLive b → m.isLive b := fun {b} hne ⟨y, h1, h2⟩ => ⟨y, by rw [Mem.get_add, if_neg hne] at h1; exact h1, h2⟩
  refine ⟨⟨fun b e hb => ?_, h.mr.cb, fun b1 b2 e1 e2 h1 h2 hne hr hl => h.mr.sep b1 b2 e1 e2 h1 h2 hne (hrw (hd _ _ h1) hr) (hlv (hd _ _ h2) hl), fun t ht => ?_, fun p hp => h.mr.gl p (by simpa using hp)⟩,
    h.old, by rw [Mem.size_add]; have := h.msize; omega, h.os, h.tape, h.output, h.size, h.frame, fun cb hcb ho => ?_⟩
  · rw [Mem.get_add, if_neg (hd _ _ hb)]; exact h.mr.blk b e hb
  · rcases Mem.ty_add ht with ht | ⟨el, sz, _, rfl⟩
    · obtain ⟨q1, q2⟩ := h.mr.ty t ht
      exact ⟨by rw [Mem.size_add]; omega, q2⟩
    · exact ⟨by simp, fun e he => absurd rfl (hd _ _ he)⟩
  · obtain ⟨b, e, h1, h2, h3⟩ := ho
    exact h.own cb hcb ⟨b, e, h1, h2, hrw (hd _ _ h1) h3⟩

/-- The world gets a block that the memory has. -/
theorem Nxt.fill {ρ0 ρ : Rho} {m0 m : Mem} {w0 w w' : World} (h : Nxt ρ0 m0 w0 ρ m w) {b : Nat} {x : Blk} {e : Ext} {ob : Obj} (hb : ρ b = none) (hlo : m0.size ≤ b) (hget : m.get b = some x) (hg : Grew w w' ob) (he : e.cb = w.heap.size)
    (hx : ∀ ρ', ρ.le ρ' → ∀ w'' : World, w''.heap[e.cb]? = some ob → BlkR ρ' e w'' (some x)) (ht : ∀ t ∈ m.ty, t.b = b → ∀ w'' : World, w''.heap[e.cb]? = some ob → TagR e t w'') : ρ.le (ρ.put b e) ∧ Nxt ρ0 m0 w0 (ρ.put b e) m w' := by
  have hle : ρ.le (ρ.put b e) := fun c f hc => by
    have : c ≠ b := fun q => by rw [q, hb] at hc; cases hc
    rw [Rho.put_ne _ _ this]; exact hc
  refine ⟨hle, ⟨⟨?_, ?_, ?_, fun t htm => ?_, fun p hp => ?_⟩, fun c hc => ?_, h.msize, hg.os.trans h.os, hg.tape.trans h.tape, hg.output.trans h.output, by rw [hg.size]; have := h.size; omega, ?_, ?_⟩⟩
  · intro c f hc
    by_cases q : c = b
    · subst q
      rw [Rho.put_same] at hc; cases hc
      rw [hget]
      exact hx _ hle _ (by rw [he]; exact hg.new)
    · rw [Rho.put_ne _ _ q] at hc
      exact (BlkR.of_heap (hg.old _ (h.mr.cb c f hc)) (h.mr.blk c f hc)).mono hle
  · intro c f hc
    by_cases q : c = b
    · subst q
      rw [Rho.put_same] at hc; cases hc
      rw [he, hg.size]; omega
    · rw [Rho.put_ne _ _ q] at hc
      have := h.mr.cb c f hc
      rw [hg.size]; omega
  · intro b1 b2 e1 e2 h1 h2 hne hr hl
    by_cases k1 : b1 = b
    · subst k1
      rw [Rho.put_same] at h1; cases h1
      rw [Rho.put_ne _ _ (Ne.symm hne)] at h2
      have := h.mr.cb b2 e2 h2
      exact (show e.cb ≠ e2.cb by rw [he]; omega)
    · rw [Rho.put_ne _ _ k1] at h1
      have c1 := h.mr.cb b1 e1 h1
      by_cases k2 : b2 = b
      · subst k2
        rw [Rho.put_same] at h2; cases h2
        exact (show e1.cb ≠ e.cb by rw [he]; omega)
      · rw [Rho.put_ne _ _ k2] at h2
        exact h.mr.sep b1 b2 e1 e2 h1 h2 hne hr hl
  · obtain ⟨q1, q2⟩ := h.mr.ty t htm
    refine ⟨q1, fun f hf => ?_⟩
    by_cases q : t.b = b
    · rw [q, Rho.put_same] at hf; cases hf
      exact ht t htm q _ (by rw [he]; exact hg.new)
    · rw [Rho.put_ne _ _ q] at hf
      obtain ⟨C, fz, q3, q4⟩ := q2 f hf
      exact ⟨C, fz, (hg.old _ (h.mr.cb _ f hf)).trans q3, q4⟩
  · obtain ⟨f, h1, h2⟩ := h.mr.gl p hp
    exact ⟨f, hle _ _ h1, h2⟩
  · rw [Rho.put_ne _ _ (by omega)]; exact h.old c hc
  · intro cb hcb hn
    rw [hg.old cb (Nat.lt_of_lt_of_le hcb h.size)]
    exact h.frame cb hcb hn
  · rintro cb hcb ⟨c, f, h1, h2, h3⟩
    by_cases q : c = b
    · subst q
      rw [Rho.put_same] at h1; cases h1
      have := h.size
      omega
    · rw [Rho.put_ne _ _ q] at h1
      exact h.own cb hcb ⟨c, f, h1, h2, h3⟩

theorem Mem.rowIf_get {m : Mem} {t : Tag} {el : TypeId} {l : List V} {b : Nat} (h : b < m.size) : (m.rowIf t el l).get b = m.get b := by
  unfold Mem.rowIf Mem.row
  split <;> simp [Mem.get_push, Nat.ne_of_lt h]

theorem appendV_frame {P : Program} {t1 t2 : TypeId} {s x v : V} {m m' : Mem} (h : appendV P t1 t2 s x m = some (v, m')) :
    m.size ≤ m'.size ∧ (∀ b, b < m.size → (∀ off len cap sz, s ≠ .slc b off len cap sz) → m'.get b = m.get b) ∧ ∀ t ∈ m'.ty, t ∈ m.ty ∨ m.size ≤ t.b := by
  unfold appendV at h
  split at h
  case h_2 => cases h
  split at h
  · cases h
  split at h
  case h_2 => cases h
  split at h
  case isFalse => cases h
  split at h
  case h_2 => cases h
  split at h
  case isFalse => cases h
  split at h
  · split at h
    · cases h; exact ⟨Nat.le_refl _, fun _ _ _ => rfl, fun _ h => .inl h⟩
    · split at h
      · cases h
        refine ⟨by simp [Mem.row], fun b hb _ => by simp [Mem.row, Mem.get_push, Nat.ne_of_lt hb], fun t ht => ?_⟩
        rcases List.mem_cons.1 ht with rfl | ht
        · exact .inr (Nat.le_refl _)
        · exact .inl ht
      · cases h
  · rename_i bs off _ cap sz _
    split at h
    · split at h
      · cases h; exact ⟨Nat.le_refl _, fun _ _ _ => rfl, fun _ h => .inl h⟩
      · split at h
        · split at h
          · cases h
            refine ⟨by simp, fun b hb hne => Mem.get_set_ne _ _ (fun q => hne _ _ _ _ (by rw [q])), fun t ht => .inl ht⟩
          · cases h
        · cases h
    · split at h
      · split at h
        · cases h
          split
          · refine ⟨?_, fun b hb hne => ?_, fun t ht => ?_⟩
            · unfold Mem.rowIf Mem.row; split <;> simp
            · rw [Mem.rowIf_get (by simpa using hb)]
              exact Mem.get_set_ne _ _ (fun q => hne _ _ _ _ (by rw [q]))
            · unfold Mem.rowIf at ht
              split at ht
              · rcases List.mem_cons.1 ht with rfl | ht
                · exact .inr (by simp)
                · exact .inl ht
              · exact .inl ht
          · refine ⟨by simp [Mem.row], fun b hb _ => by simp [Mem.row, Mem.get_push, Nat.ne_of_lt hb], fun t ht => ?_⟩
            rcases List.mem_cons.1 ht with rfl | ht
            · exact .inr (Nat.le_refl _)
            · exact .inl ht
        · cases h
          refine ⟨by simp [Mem.row], fun b hb _ => by simp [Mem.row, Mem.get_push, Nat.ne_of_lt hb], fun t ht => ?_⟩
          rcases List.mem_cons.1 ht with rfl | ht
          · exact .inr (Nat.le_refl _)
          · exact .inl ht
        · cases h
      · cases h
  · cases h

/-- Append leaves what the world does not have as it is. -/
theorem appOp_frame {P : Program} {ρ : Rho} {m m' : Mem} {n : Nat} {env : Env} {a : Act} (he : EnvR ρ n env a.tmps) {op : Op} {r : OR} (hn : appOp op = true) (h : evE P env m op = some (r, m')) :
    m.size ≤ m'.size ∧ (∀ b, b < m.size → ρ b = none → m'.get b = m.get b) ∧ ∀ t ∈ m'.ty, t ∈ m.ty ∨ m.size ≤ t.b := by
  unfold appOp at hn
  split at hn
  case h_2 => cases hn
  simp only [evE] at h
  split at h
  case h_2 => cases h
  obtain ⟨s, hs, h⟩ := obind h
  obtain ⟨v, hv, h⟩ := obind h
  obtain ⟨q, hq, h⟩ := omap h
  obtain ⟨q1, q2⟩ := q
  cases h
  obtain ⟨f1, f2, f3⟩ := appendV_frame hq
  refine ⟨f1, fun b hb hnone => f2 b hb fun off len cap sz hsl => ?_, f3⟩
  subst hsl
  have := evX_rel he hs
  generalize a.eval _ = xv at this
  cases this with
  | slc _ _ _ _ _ _ e he' => rw [hnone] at he'; cases he'
  | slc0 _ _ _ e _ he' => rw [hnone] at he'; cases he'

end Sim
