/-
  Lemmas of this claim's own: the steps from one pair of states (abstract memory, world) to the next. No condition.
-/
import Derived.Test.YtdmahionfllhnaaGreatDoorSim1
namespace Sim
open Go

def Rho.put (ρ : Rho) (b : Nat) (e : Ext) : Rho := fun b' => if b' = b then some e else ρ b'

theorem Rho.put_same (ρ : Rho) (b : Nat) (e : Ext) : ρ.put b e b = some e := by simp [Rho.put]
theorem Rho.put_ne (ρ : Rho) {b b' : Nat} (e : Ext) (h : b' ≠ b) : ρ.put b e b' = ρ b' := by simp [Rho.put, h]

/-- One block more. -/
structure Grew (w w' : World) (o : Obj) : Prop where
  os : w'.os = w.os
  tape : w'.tape = w.tape
  output : w'.output = w.output
  size : w'.heap.size = w.heap.size + 1
  new : w'.heap[w.heap.size]? = some o
  old : ∀ i, i < w.heap.size → w'.heap[i]? = w.heap[i]?

/-- One block written over. -/
structure Wrote (w w' : World) (cb : Nat) (o : Obj) : Prop where
  os : w'.os = w.os
  tape : w'.tape = w.tape
  output : w'.output = w.output
  size : w'.heap.size = w.heap.size
  new : w'.heap[cb]? = some o
  old : ∀ i, i ≠ cb → w'.heap[i]? = w.heap[i]?

theorem Grew.of_push (w w' : World) (o : Obj) (h : w'.heap = w.heap.push o) (h1 : w'.os = w.os) (h2 : w'.tape = w.tape) (h3 : w'.output = w.output) : Grew w w' o :=
  ⟨h1, h2, h3, by rw [h]; simp, by rw [h]; simp, fun i hi => by rw [h, Array.getElem?_push, if_neg (by omega)]⟩

theorem Grew.alloc (w : World) (o : Obj) : Grew w (w.alloc o) o := .of_push _ _ _ rfl rfl rfl rfl
theorem Grew.drew_alloc (w : World) (o : Obj) : Grew w (w.drew.alloc o) o := .of_push _ _ _ rfl rfl rfl rfl

theorem Mem.isRw_push {m : Mem} {x : Blk} {b : Nat} (h : (m.push x).isRw b) (hb : b ≠ m.size) : m.isRw b := by
  obtain ⟨y, hy, r⟩ := h
  rw [Mem.get_push, if_neg hb] at hy
  exact ⟨y, hy, r⟩
theorem Mem.isLive_push {m : Mem} {x : Blk} {b : Nat} (h : (m.push x).isLive b) (hb : b ≠ m.size) : m.isLive b := by
  obtain ⟨y, hy, r⟩ := h
  rw [Mem.get_push, if_neg hb] at hy
  exact ⟨y, hy, r⟩
theorem Mem.isRw_set {m : Mem} {x : Blk} {b c : Nat} (h : (m.set c x).isRw b) (hb : c ≠ b) : m.isRw b := by
  obtain ⟨y, hy, r⟩ := h
  rw [Mem.get_set_ne _ _ hb] at hy
  exact ⟨y, hy, r⟩
theorem Mem.isLive_set {m : Mem} {x : Blk} {b c : Nat} (h : (m.set c x).isLive b) (hb : c ≠ b) : m.isLive b := by
  obtain ⟨y, hy, r⟩ := h
  rw [Mem.get_set_ne _ _ hb] at hy
  exact ⟨y, hy, r⟩

/-- A new block, of whatever kind. -/
theorem Nxt.new {ρ : Rho} {m : Mem} {w w' : World} {o : Obj} {x : Blk} {e : Ext} (hm : MR ρ m w) (hg : Grew w w' o) (he : e.cb = w.heap.size)
    (hx : ∀ ρ', ρ.le ρ' → ∀ w' : World, w'.heap[e.cb]? = some o → BlkR ρ' e w' (some x)) : Nxt ρ m w (ρ.put m.size e) (m.push x) w' := by
  have hle : ρ.le (ρ.put m.size e) := fun b e' hb => by
    have := hm.dom hb
    rw [Rho.put_ne _ _ (by omega)]; exact hb
  refine ⟨⟨?_, ?_, ?_, fun t ht => ?_, fun p hp => by
    obtain ⟨e', h1, h2⟩ := hm.gl p hp
    exact ⟨e', hle _ _ h1, h2⟩⟩, ?_, by simp, hg.os, hg.tape, hg.output, by rw [hg.size]; omega, ?_, ?_⟩
  · intro b e' hb
    by_cases h : b = m.size
    · subst h
      rw [Rho.put_same] at hb; cases hb
      rw [Mem.get_push_new]
      exact hx _ hle _ (by rw [he]; exact hg.new)
    · rw [Rho.put_ne _ _ h] at hb
      rw [Mem.get_push, if_neg h]
      exact (BlkR.of_heap (hg.old _ (hm.cb b e' hb)) (hm.blk b e' hb)).mono hle
  · intro b e' hb
    by_cases h : b = m.size
    · subst h
      rw [Rho.put_same] at hb; cases hb
      rw [he, hg.size]; omega
    · rw [Rho.put_ne _ _ h] at hb
      have := hm.cb b e' hb
      rw [hg.size]; omega
  · intro b1 b2 e1 e2 h1 h2 hne hr hl
    by_cases k1 : b1 = m.size
    · subst k1
      rw [Rho.put_same] at h1; cases h1
      rw [Rho.put_ne _ _ (Ne.symm hne)] at h2
      have := hm.cb b2 e2 h2
      exact (show e.cb ≠ e2.cb by rw [he]; omega)
    · rw [Rho.put_ne _ _ k1] at h1
      have c1 := hm.cb b1 e1 h1
      by_cases k2 : b2 = m.size
      · subst k2
        rw [Rho.put_same] at h2; cases h2
        exact (show e1.cb ≠ e.cb by rw [he]; omega)
      · rw [Rho.put_ne _ _ k2] at h2
        exact hm.sep b1 b2 e1 e2 h1 h2 hne (Mem.isRw_push hr k1) (Mem.isLive_push hl k2)
  · obtain ⟨h1, h2⟩ := hm.ty t ht
    refine ⟨by simp; omega, fun e' hb => ?_⟩
    rw [Rho.put_ne _ _ (by omega)] at hb
    obtain ⟨C, fz, q1, q2⟩ := h2 e' hb
    exact ⟨C, fz, (hg.old _ (hm.cb _ e' hb)).trans q1, q2⟩
  · intro b hb
    rw [Rho.put_ne _ _ (by omega)]
  · intro cb hcb _
    exact hg.old cb hcb
  · rintro cb hcb ⟨b, e', hb, hc, hr⟩
    by_cases h : b = m.size
    · subst h
      rw [Rho.put_same] at hb; cases hb
      omega
    · rw [Rho.put_ne _ _ h] at hb
      exact ⟨b, e', hb, hc, Mem.isRw_push hr h⟩

theorem CellsR.of_take {ρ : Rho} {c : List V} {C : Array Value} {cb : Nat} (h : VRs ρ c (C.toList.take c.length)) (hl : c.length ≤ C.size) :
    CellsR ρ ⟨cb, 0, c.length, C.size⟩ c C := by
  refine ⟨rfl, hl, by simp, fun i v hv => ?_⟩
  obtain ⟨x, hx, r⟩ := h.get hv
  rw [List.getElem?_take] at hx
  split at hx
  · exact ⟨x, by simpa using hx, r⟩
  · cases hx

theorem Nxt.new_cells {ρ : Rho} {m : Mem} {w w' : World} {C : Array Value} {el : TypeId} {fz : Nat × Nat} {c : List V} (hm : MR ρ m w)
    (hg : Grew w w' (.cells C el fz)) (hz : fz.1 = fz.2 ∨ C.size ≤ fz.1) (hc : VRs ρ c (C.toList.take c.length)) (hl : c.length ≤ C.size) :
    Nxt ρ m w (ρ.put m.size ⟨w.heap.size, 0, c.length, C.size⟩) (m.push (.cells c)) w' :=
  Nxt.new hm hg rfl fun _ hρ _ hh => ⟨C, el, fz, hh, CellsR.of_take (hc.mono hρ) hl, hz.imp id fun h => by simpa using h⟩

theorem Nxt.new_map {ρ : Rho} {m : Mem} {w w' : World} {E : Array MapEntry} {clk : Nat} {es : List (V × V)} (hm : MR ρ m w)
    (hg : Grew w w' (.map E clk)) (he : ERs ρ es E.toList) :
    Nxt ρ m w (ρ.put m.size ⟨w.heap.size, 0, 0, 1⟩) (m.push (.map es)) w' :=
  Nxt.new hm hg rfl fun _ hρ _ hh => ⟨E, clk, hh, he.mono hρ, rfl, rfl⟩

theorem Mem.wr_get {m : Mem} {b : Nat} {c : List V} (h : m.wr b = some c) : m.get b = some (.cells c) := by
  unfold Mem.wr at h
  split at h
  · cases h; assumption
  · cases h

theorem Mem.wr_rw {m : Mem} {b : Nat} {c : List V} (h : m.wr b = some c) : m.isRw b := ⟨_, Mem.wr_get h, rfl⟩
theorem Mem.wr_live {m : Mem} {b : Nat} {c : List V} (h : m.wr b = some c) : m.isLive b := ⟨_, Mem.wr_get h, rfl⟩

/-- What lies elsewhere is as it was. -/
theorem BlkR.elsewhere {ρ : Rho} {e f : Ext} {w w' : World} {o : Option Blk} {ob : Obj} (hw : Wrote w w' e.cb ob) (ha : Apart e f) (h : BlkR ρ f w o) : BlkR ρ f w' o := by
  exact h.of_heap (hw.old _ (Ne.symm ha))

theorem TagR.wrote {e f : Ext} {t : Tag} {w w' : World} {C C' : Array Value} {el : TypeId} {fz fz' : Nat × Nat} (hold : w.heap[e.cb]? = some (.cells C el fz)) (hw : Wrote w w' e.cb (.cells C' el fz')) (hs : C'.size = C.size) (h : TagR f t w) : TagR f t w' := by
  obtain ⟨D, fz2, h1, h2⟩ := h
  by_cases hcb : f.cb = e.cb
  · rw [hcb, hold] at h1; cases h1
    exact ⟨C', fz', by rw [hcb]; exact hw.new, fun s hs' => by rw [hs]; exact h2 s hs'⟩
  · exact ⟨D, fz2, (hw.old _ hcb).trans h1, h2⟩

/-- A block of cells is written over. -/
theorem Nxt.write {ρ : Rho} {m : Mem} {w w' : World} {b : Nat} {e : Ext} {c c' : List V} {C C' : Array Value} {el : TypeId} {fz : Nat × Nat} (hm : MR ρ m w)
    (hb : ρ b = some e) (hc : m.wr b = some c) (hold : w.heap[e.cb]? = some (.cells C el fz)) (hw : Wrote w w' e.cb (.cells C' el fz)) (hs : C'.size = C.size)
    (_hout : ∀ i, (i < e.base ∨ e.base + e.ext ≤ i) → C'[i]? = C[i]?) (hrel : CellsR ρ e c' C') : Nxt ρ m w ρ (m.set b (.cells c')) w' := by
  have hget := Mem.wr_get hc
  have hlt := Mem.get_lt hget
  have hwarm : Warm e fz := by
    have := hm.blk b e hb
    rw [hget] at this
    obtain ⟨D, el', fz', h1, _, h3⟩ := this
    rw [hold] at h1; cases h1; exact h3
  refine ⟨⟨?_, ?_, ?_, fun t ht => ⟨by simpa using (hm.ty t ht).1, fun e' hb' => TagR.wrote hold hw hs ((hm.ty t ht).2 e' hb')⟩, hm.gl⟩, fun _ _ => rfl, by simp, hw.os, hw.tape, hw.output, by rw [hw.size]; omega, ?_, ?_⟩
  · intro b' e' hb'
    by_cases h : b = b'
    · subst h
      rw [hb] at hb'; cases hb'
      rw [Mem.get_set_same _ hlt]
      exact ⟨C', el, fz, hw.new, hrel, hwarm⟩
    · rw [Mem.get_set_ne _ _ h]
      by_cases hl : m.isLive b'
      · exact BlkR.elsewhere hw (hm.sep b b' e e' hb hb' h (Mem.wr_rw hc) hl) (hm.blk b' e' hb')
      · have := hm.blk b' e' hb'
        cases hg : m.get b' with
        | none => rw [hg] at this; exact this.elim
        | some x => cases x with
          | dead => trivial
          | cells _ => exact absurd ⟨_, hg, rfl⟩ hl
          | ro _ => exact absurd ⟨_, hg, rfl⟩ hl
          | map _ => exact absurd ⟨_, hg, rfl⟩ hl
  · intro b' e' hb'
    rw [hw.size]; exact hm.cb b' e' hb'
  · intro b1 b2 e1 e2 h1 h2 hne hr hl
    refine hm.sep b1 b2 e1 e2 h1 h2 hne ?_ ?_
    · by_cases k : b = b1
      · subst k; exact Mem.wr_rw hc
      · exact Mem.isRw_set hr k
    · by_cases k : b = b2
      · subst k; exact Mem.wr_live hc
      · exact Mem.isLive_set hl k
  · intro cb hcb hno
    refine hw.old cb fun h => hno ⟨b, e, hb, h.symm, Mem.wr_rw hc⟩
  · rintro cb hcb ⟨b', e', hb', hcb', hr⟩
    refine ⟨b', e', hb', hcb', ?_⟩
    by_cases k : b = b'
    · subst k; exact Mem.wr_rw hc
    · exact Mem.isRw_set hr k

/-- A map is written over. -/
theorem Nxt.setmap {ρ : Rho} {m : Mem} {w w' : World} {r : Nat} {e : Ext} {es es' : List (V × V)} {E' : Array MapEntry} {clk' : Nat} (hm : MR ρ m w)
    (hb : ρ r = some e) (hc : m.get r = some (.map es)) (hw : Wrote w w' e.cb (.map E' clk')) (hrel : ERs ρ es' E'.toList) : Nxt ρ m w ρ (m.set r (.map es')) w' := by
  have hlt := Mem.get_lt hc
  have hrw : m.isRw r := ⟨_, hc, rfl⟩
  obtain ⟨E, clk, hE, _, hb0, hb1⟩ : BlkR ρ e w (some (.map es)) := by have := hm.blk r e hb; rwa [hc] at this
  refine ⟨⟨?_, ?_, ?_, fun t ht => ⟨by simpa using (hm.ty t ht).1, fun e' hb' => ?_⟩, hm.gl⟩, fun _ _ => rfl, by simp, hw.os, hw.tape, hw.output, by rw [hw.size]; omega, ?_, ?_⟩
  · intro b' e' hb'
    by_cases h : r = b'
    · subst h
      rw [hb] at hb'; cases hb'
      rw [Mem.get_set_same _ hlt]
      exact ⟨E', clk', hw.new, hrel, hb0, hb1⟩
    · rw [Mem.get_set_ne _ _ h]
      have hbr := hm.blk b' e' hb'
      cases hg : m.get b' with
      | none => rw [hg] at hbr; exact hbr.elim
      | some x =>
        rw [hg] at hbr
        by_cases hcb : e'.cb = e.cb
        · cases x with
          | dead => trivial
          | cells _ => obtain ⟨_, _, _, h1, _⟩ := hbr; rw [hcb, hE] at h1; cases h1
          | ro _ => obtain ⟨_, _, _, h1, _⟩ := hbr; rw [hcb, hE] at h1; cases h1
          | map es2 =>
            obtain ⟨_, _, h1, _, hb0', hb1'⟩ := hbr
            have := hm.sep r b' e e' hb hb' h hrw ⟨_, hg, rfl⟩
            exact absurd hcb.symm this
        · exact hbr.of_heap (hw.old _ hcb)
  · intro b' e' hb'
    rw [hw.size]; exact hm.cb b' e' hb'
  · intro b1 b2 e1 e2 h1 h2 hne hr hl
    refine hm.sep b1 b2 e1 e2 h1 h2 hne ?_ ?_
    · by_cases k : r = b1
      · subst k; exact hrw
      · exact Mem.isRw_set hr k
    · by_cases k : r = b2
      · subst k; exact ⟨_, hc, rfl⟩
      · exact Mem.isLive_set hl k
  · obtain ⟨C, fz, q1, q2⟩ := (hm.ty t ht).2 e' hb'
    by_cases hcb : e'.cb = e.cb
    · rw [hcb, hE] at q1; cases q1
    · exact ⟨C, fz, (hw.old _ hcb).trans q1, q2⟩
  · intro cb hcb hno
    refine hw.old cb fun h => hno ⟨r, e, hb, h.symm, hrw⟩
  · rintro cb hcb ⟨b', e', hb', hcb', hr⟩
    refine ⟨b', e', hb', hcb', ?_⟩
    by_cases k : r = b'
    · subst k; exact hrw
    · exact Mem.isRw_set hr k

/-- A block is spoken of no more. -/
theorem Nxt.kill {ρ : Rho} {m : Mem} {w : World} (b : Nat) (hm : MR ρ m w) : Nxt ρ m w ρ (m.set b .dead) w := by
  refine ⟨⟨?_, hm.cb, ?_, fun t ht => ⟨by simpa using (hm.ty t ht).1, (hm.ty t ht).2⟩, hm.gl⟩, fun _ _ => rfl, by simp, rfl, rfl, rfl, Nat.le_refl _, fun _ _ _ => rfl, ?_⟩
  · intro b' e' hb'
    by_cases h : b = b'
    · subst h
      rw [Mem.get_set_same _ (hm.dom hb')]
      trivial
    · rw [Mem.get_set_ne _ _ h]
      exact hm.blk b' e' hb'
  · intro b1 b2 e1 e2 h1 h2 hne hr hl
    have k1 : b ≠ b1 := by
      rintro rfl
      obtain ⟨x, hx, r⟩ := hr
      rw [Mem.get_set_same _ (hm.dom h1)] at hx; cases hx; cases r
    have k2 : b ≠ b2 := by
      rintro rfl
      obtain ⟨x, hx, r⟩ := hl
      rw [Mem.get_set_same _ (hm.dom h2)] at hx; cases hx; cases r
    exact hm.sep b1 b2 e1 e2 h1 h2 hne (Mem.isRw_set hr k1) (Mem.isLive_set hl k2)
  · rintro cb hcb ⟨b', e', hb', hcb', hr⟩
    have k1 : b ≠ b' := by
      rintro rfl
      obtain ⟨x, hx, r⟩ := hr
      rw [Mem.get_set_same _ (hm.dom hb')] at hx; cases hx; cases r
    exact ⟨b', e', hb', hcb', Mem.isRw_set hr k1⟩

/-- A row is marked behind its last cell. -/
theorem Nxt.refreeze {ρ : Rho} {m : Mem} {w : World} {b : Nat} {e : Ext} {c : List V} {C : Array Value} {el : TypeId} {fz : Nat × Nat} (hm : MR ρ m w)
    (hb : ρ b = some e) (hc : m.wr b = some c) (hold : w.heap[e.cb]? = some (.cells C el fz)) : Nxt ρ m w ρ m (w.freeze ⟨e.cb, C.size, none⟩ 1) := by
  have hcb : e.cb < w.heap.size := hm.cb b e hb
  let fz' : Nat × Nat := if fz.1 == fz.2 then (C.size, C.size + 1) else (min fz.1 C.size, max fz.2 (C.size + 1))
  let g : Obj → Obj := fun
    | .cells c elem (lo, hi) => .cells c elem (if lo == hi then (C.size, C.size + 1) else (min lo C.size, max hi (C.size + 1)))
    | o => o
  have hg : g (.cells C el fz) = .cells C el fz' := by
    obtain ⟨lo, hi⟩ := fz
    rfl
  have hheap : (w.freeze ⟨e.cb, C.size, none⟩ 1).heap = w.heap.modify e.cb g := by
    unfold World.freeze
    rw [if_neg (by decide)]
    rfl
  have hw : Wrote w (w.freeze ⟨e.cb, C.size, none⟩ 1) e.cb (.cells C el fz') := by
    refine ⟨?_, ?_, ?_, ?_, ?_, fun i hi => ?_⟩
    · unfold World.freeze; rw [if_neg (by decide)]
    · unfold World.freeze; rw [if_neg (by decide)]
    · unfold World.freeze; rw [if_neg (by decide)]
    · rw [hheap]; simp
    · rw [hheap, Array.getElem?_modify, if_pos rfl, hold, Option.map_some, hg]
    · rw [hheap, Array.getElem?_modify, if_neg (Ne.symm hi)]
  have hget := Mem.wr_get hc
  have hbr : BlkR ρ e w (some (.cells c)) := by have := hm.blk b e hb; rwa [hget] at this
  have hwarm : ∀ f : Ext, f.cb = e.cb → Warm f fz → f.base + f.ext ≤ C.size → Warm f fz' := by
    intro f _ h1 h2
    right
    show f.base + f.ext ≤ (if fz.1 == fz.2 then (C.size, C.size + 1) else (min fz.1 C.size, max fz.2 (C.size + 1)) : Nat × Nat).1
    split
    · exact h2
    · rename_i hne
      rcases h1 with h1 | h1
      · simp [h1] at hne
      · simp only [Nat.le_min]; exact ⟨h1, h2⟩
  refine ⟨⟨fun b' e' hb' => ?_, fun b' e' hb' => by rw [hw.size]; exact hm.cb b' e' hb', hm.sep, fun t ht => ⟨(hm.ty t ht).1, fun e' hb' => TagR.wrote hold hw rfl ((hm.ty t ht).2 e' hb')⟩, hm.gl⟩, fun _ _ => rfl, Nat.le_refl _, hw.os, hw.tape, hw.output, by rw [hw.size]; exact Nat.le_refl _, fun cb _ hno => ?_, fun _ _ h => h⟩
  · by_cases h : b = b'
    · subst h
      rw [hb] at hb'; cases hb'
      rw [hget]
      obtain ⟨D, el', fz2, q1, q2, q3⟩ := hbr
      rw [hold] at q1; cases q1
      exact ⟨C, el, fz', hw.new, q2, hwarm e rfl q3 q2.2.2.1⟩
    · by_cases hl : m.isLive b'
      · exact BlkR.elsewhere hw (hm.sep b b' e e' hb hb' h (Mem.wr_rw hc) hl) (hm.blk b' e' hb')
      · have h5 := hm.blk b' e' hb'
        cases hg : m.get b' with
        | none => rw [hg] at h5; exact h5
        | some x =>
          cases x with
          | dead => trivial
          | _ => exact absurd ⟨_, hg, rfl⟩ hl
  · by_cases h : cb = e.cb
    · exact absurd ⟨b, e, hb, h.symm, Mem.wr_rw hc⟩ hno
    · exact hw.old cb h

/-- A block is touched a last time, and spoken of no more. -/
theorem Nxt.spend {ρ : Rho} {m : Mem} {w w' : World} {b : Nat} {e : Ext} {c : List V} {C C' : Array Value} {el : TypeId} {fz fz' : Nat × Nat} (hm : MR ρ m w)
    (hb : ρ b = some e) (hc : m.wr b = some c) (hold : w.heap[e.cb]? = some (.cells C el fz)) (hw : Wrote w w' e.cb (.cells C' el fz')) (hs : C'.size = C.size) : Nxt ρ m w ρ (m.set b .dead) w' := by
  have hk := Nxt.kill (w := w) b hm
  refine ⟨⟨?_, ?_, hk.mr.sep, fun t ht => ⟨by simpa using (hm.ty t ht).1, fun e' hb' => TagR.wrote hold hw hs ((hm.ty t ht).2 e' hb')⟩, hm.gl⟩, fun _ _ => rfl, by simp, hw.os, hw.tape, hw.output, by rw [hw.size]; omega, ?_, fun cb _ ho => hk.own cb (by
    obtain ⟨b', e', h1, h2, _⟩ := ho
    rw [← h2]; exact hm.cb b' e' h1) ho⟩
  · intro b' e' hb'
    by_cases h : b = b'
    · subst h
      rw [Mem.get_set_same _ (hm.dom hb')]
      trivial
    · rw [Mem.get_set_ne _ _ h]
      by_cases hl : m.isLive b'
      · exact BlkR.elsewhere hw (hm.sep b b' e e' hb hb' h (Mem.wr_rw hc) hl) (hm.blk b' e' hb')
      · have := hm.blk b' e' hb'
        cases hg : m.get b' with
        | none => rw [hg] at this; exact this.elim
        | some x => cases x with
          | dead => trivial
          | cells _ => exact absurd ⟨_, hg, rfl⟩ hl
          | ro _ => exact absurd ⟨_, hg, rfl⟩ hl
          | map _ => exact absurd ⟨_, hg, rfl⟩ hl
  · intro b' e' hb'
    rw [hw.size]; exact hm.cb b' e' hb'
  · intro cb hcb hno
    refine hw.old cb fun h => hno ⟨b, e, hb, h.symm, Mem.wr_rw hc⟩

/-- A block grows in its place: the old one is spoken of no more, a new one lies where it lay. -/
theorem Nxt.extend {ρ : Rho} {m : Mem} {w w' : World} {b : Nat} {e : Ext} {c c' : List V} {C C' : Array Value} {el : TypeId} {fz : Nat × Nat} (hm : MR ρ m w)
    (hb : ρ b = some e) (hc : m.wr b = some c) (hold : w.heap[e.cb]? = some (.cells C el fz)) (hw : Wrote w w' e.cb (.cells C' el fz)) (hs : C'.size = C.size)
    (_hout : ∀ i, (i < e.base ∨ e.base + e.ext ≤ i) → C'[i]? = C[i]?) (base' ext' : Nat) (_hbase : e.base ≤ base') (hext : base' + ext' = e.base + e.ext)
    (hrel : CellsR ρ ⟨e.cb, base', c'.length, ext'⟩ c' C') :
    Nxt ρ m w (ρ.put m.size ⟨e.cb, base', c'.length, ext'⟩) ((m.set b .dead).push (.cells c')) w' := by
  have hget := Mem.wr_get hc
  have hlt := Mem.get_lt hget
  have hwarm : Warm e fz := by
    have := hm.blk b e hb
    rw [hget] at this
    obtain ⟨D, el', fz', h1, _, h3⟩ := this
    rw [hold] at h1; cases h1; exact h3
  have hle : ρ.le (ρ.put m.size ⟨e.cb, base', c'.length, ext'⟩) := fun b e' hb => by
    have := hm.dom hb
    rw [Rho.put_ne _ _ (by omega)]; exact hb
  have hap : ∀ b' e', ρ b' = some e' → b ≠ b' → m.isLive b' → Apart e e' := fun b' e' hb' hne hl => hm.sep b b' e e' hb hb' hne (Mem.wr_rw hc) hl
  have hap2 : ∀ b' e', ρ b' = some e' → b ≠ b' → m.isLive b' → Apart ⟨e.cb, base', c'.length, ext'⟩ e' := hap
  have hsz : (m.set b .dead).size = m.size := by simp
  have hput : ∀ b', b' ≠ m.size → ((m.set b .dead).push (.cells c')).get b' = (m.set b .dead).get b' := fun b' h => by rw [Mem.get_push, if_neg (by simpa using h)]
  have hnew : ((m.set b .dead).push (.cells c')).get m.size = some (.cells c') := by rw [Mem.get_push, if_pos (by simp)]
  have hdead : ((m.set b .dead).push (.cells c')).get b = some .dead := by rw [hput b (by omega), Mem.get_set_same _ hlt]
  have hoth : ∀ b', b' ≠ m.size → b ≠ b' → ((m.set b .dead).push (.cells c')).get b' = m.get b' := fun b' h k => by rw [hput b' h, Mem.get_set_ne _ _ k]
  refine ⟨⟨?_, ?_, ?_, fun t ht => ⟨by simp; have := (hm.ty t ht).1; omega, fun e' hb' => ?_⟩, fun p hp => by
    obtain ⟨e', h1, h2⟩ := hm.gl p hp
    exact ⟨e', hle _ _ h1, h2⟩⟩, ?_, by simp, hw.os, hw.tape, hw.output, by rw [hw.size]; omega, ?_, ?_⟩
  · intro b' e' hb'
    by_cases h : b' = m.size
    · subst h
      rw [Rho.put_same] at hb'; cases hb'
      rw [hnew]
      exact ⟨C', el, fz, hw.new, hrel.mono hle, hwarm.imp id fun h => by simp; omega⟩
    · rw [Rho.put_ne _ _ h] at hb'
      by_cases k : b = b'
      · subst k; rw [hdead]; trivial
      · rw [hoth b' h k]
        by_cases hl : m.isLive b'
        · exact (BlkR.elsewhere hw (hap b' e' hb' k hl) (hm.blk b' e' hb')).mono hle
        · have := hm.blk b' e' hb'
          cases hg : m.get b' with
          | none => rw [hg] at this; exact this.elim
          | some x => cases x with
            | dead => trivial
            | cells _ => exact absurd ⟨_, hg, rfl⟩ hl
            | ro _ => exact absurd ⟨_, hg, rfl⟩ hl
            | map _ => exact absurd ⟨_, hg, rfl⟩ hl
  · intro b' e' hb'
    rw [hw.size]
    by_cases h : b' = m.size
    · subst h
      rw [Rho.put_same] at hb'; cases hb'
      exact hm.cb b e hb
    · rw [Rho.put_ne _ _ h] at hb'; exact hm.cb b' e' hb'
  · intro b1 b2 e1 e2 h1 h2 hne hr hl
    have n1 : b1 ≠ b := by rintro rfl; obtain ⟨x, hx, r⟩ := hr; rw [hdead] at hx; cases hx; cases r
    have n2 : b2 ≠ b := by rintro rfl; obtain ⟨x, hx, r⟩ := hl; rw [hdead] at hx; cases hx; cases r
    have live_of : ∀ b', b' ≠ m.size → b' ≠ b → ((m.set b .dead).push (.cells c')).isLive b' → m.isLive b' := fun b' h k ⟨x, hx, r⟩ => ⟨x, by rw [← hoth b' h (Ne.symm k)]; exact hx, r⟩
    have rw_of : ∀ b', b' ≠ m.size → b' ≠ b → ((m.set b .dead).push (.cells c')).isRw b' → m.isRw b' := fun b' h k ⟨x, hx, r⟩ => ⟨x, by rw [← hoth b' h (Ne.symm k)]; exact hx, r⟩
    by_cases k1 : b1 = m.size
    · subst k1
      rw [Rho.put_same] at h1; cases h1
      rw [Rho.put_ne _ _ (Ne.symm hne)] at h2
      exact hap2 b2 e2 h2 (Ne.symm n2) (live_of b2 (Ne.symm hne) n2 hl)
    · rw [Rho.put_ne _ _ k1] at h1
      have hr' := rw_of b1 k1 n1 hr
      have hl1 : m.isLive b1 := by obtain ⟨x, hx, r⟩ := hr'; exact ⟨x, hx, by cases x <;> simp_all [Blk.rw, Blk.live]⟩
      by_cases k2 : b2 = m.size
      · subst k2
        rw [Rho.put_same] at h2; cases h2
        exact (hap2 b1 e1 h1 (Ne.symm n1) hl1).symm
      · rw [Rho.put_ne _ _ k2] at h2
        exact hm.sep b1 b2 e1 e2 h1 h2 hne hr' (live_of b2 k2 n2 hl)
  · have := (hm.ty t ht).1
    rw [Rho.put_ne _ _ (by omega)] at hb'
    exact TagR.wrote hold hw hs ((hm.ty t ht).2 e' hb')
  · intro b' hb'
    rw [Rho.put_ne _ _ (by omega)]
  · intro cb hcb hno
    refine hw.old cb fun h => hno ⟨b, e, hb, h.symm, Mem.wr_rw hc⟩
  · rintro cb hcb ⟨b', e', hb', hcb', hr⟩
    by_cases h : b' = m.size
    · subst h
      rw [Rho.put_same] at hb'; cases hb'
      exact ⟨b, e, hb, hcb', Mem.wr_rw hc⟩
    · rw [Rho.put_ne _ _ h] at hb'
      by_cases k : b = b'
      · subst k; exact ⟨b, e', hb', hcb', Mem.wr_rw hc⟩
      · obtain ⟨x, hx, r⟩ := hr
        exact ⟨b', e', hb', hcb', x, by rw [← hoth b' h k]; exact hx, r⟩

end Sim
