/-
  Lemmas of this claim's own: building values, and the operations that make memory or write to it. No condition.
-/
import Derived.Test.YtdmahionfllhnaaGreatDoorSim5
namespace Sim
open Go Go.MapKept

def splice (c : List V) (off : Nat) (l : List V) : List V := c.take off ++ l ++ c.drop (off + l.length)

theorem splice_length {c : List V} {off : Nat} {l : List V} (h : off + l.length ≤ c.length) : (splice c off l).length = c.length := by
  simp [splice]; omega

theorem splice_get {c : List V} {off : Nat} {l : List V} (h : off + l.length ≤ c.length) (i : Nat) :
    (splice c off l)[i]? = if i < off then c[i]? else if i < off + l.length then l[i - off]? else c[i]? := by
  unfold splice
  by_cases h1 : i < off
  · rw [if_pos h1, List.append_assoc, List.getElem?_append_left (by simp; omega), List.getElem?_take, if_pos h1]
  · rw [if_neg h1]
    by_cases h2 : i < off + l.length
    · rw [if_pos h2, List.getElem?_append_left (by simp; omega), List.getElem?_append_right (by simp; omega)]
      congr 1; simp; try omega
    · rw [if_neg h2, List.getElem?_append_right (by simp; omega), List.getElem?_drop]
      congr 1; simp; try omega

/-- The model's way of laying a row of cells into another one. -/
theorem lay_toList (off : Nat) : ∀ (xs : List Value) (k : Nat) (C : Array Value), off + k + xs.length ≤ C.size →
    ((xs.zipIdx k).foldl (fun cs (p : Value × Nat) => cs.setIfInBounds (off + p.2) p.1) C).size = C.size ∧
    ∀ i : Nat, ((xs.zipIdx k).foldl (fun cs (p : Value × Nat) => cs.setIfInBounds (off + p.2) p.1) C)[i]? = if off + k ≤ i ∧ i < off + k + xs.length then xs[i - (off + k)]? else C[i]?
  | [], k, C, _ => by
    refine ⟨rfl, fun i => ?_⟩
    rw [if_neg (by simp)]; rfl
  | x :: xs, k, C, h => by
    simp only [List.zipIdx_cons, List.foldl_cons]
    obtain ⟨h1, h2⟩ := lay_toList off xs (k + 1) (C.setIfInBounds (off + k) x) (by rw [Array.size_setIfInBounds]; simp at h; omega)
    refine ⟨by rw [h1]; simp, fun i => ?_⟩
    rw [h2]
    by_cases hi : off + (k + 1) ≤ i ∧ i < off + (k + 1) + xs.length
    · rw [if_pos hi, if_pos (by simp; omega)]
      rw [show i - (off + k) = (i - (off + (k + 1))) + 1 from by omega]; simp
    · rw [if_neg hi]
      by_cases hi2 : i = off + k
      · subst hi2
        rw [if_pos (by simp), Array.getElem?_setIfInBounds, if_pos rfl, if_pos (by simp at h; omega)]
        simp
      · rw [if_neg (by simp; omega), Array.getElem?_setIfInBounds, if_neg (by omega)]

theorem VR.cells {ρ : Rho} {v : V} {x : Value} (h : VR ρ v x) : VRs ρ v.cells x.cells.toList := by
  cases h with
  | agg l xs h => exact h
  | bool => exact .cons _ _ _ _ (.bool _) .nil
  | int => exact .cons _ _ _ _ (.int _ _) .nil
  | str => exact .cons _ _ _ _ (.str _) .nil
  | ptr b off e h => exact .cons _ _ _ _ (.ptr b off e h) .nil
  | nilp => exact .cons _ _ _ _ .nilp .nil
  | slc b off len cap cap' sz e h hl hc hn hx he => exact .cons _ _ _ _ (.slc b off len cap cap' sz e h hl hc hn hx he) .nil
  | slc0 b off sz e a h hn => exact .cons _ _ _ _ (.slc0 b off sz e a h hn) .nil
  | nils => exact .cons _ _ _ _ .nils .nil
  | map r e h => exact .cons _ _ _ _ (.map r e h) .nil
  | nilm => exact .cons _ _ _ _ .nilm .nil
  | fn g f c fv cv hf hc => exact .cons _ _ _ _ (.fn g f c fv cv hf hc) .nil
  | nilf => exact .cons _ _ _ _ .nilf .nil
  | iface t v x h => exact .cons _ _ _ _ (.iface t v x h) .nil
  | nili => exact .cons _ _ _ _ .nili .nil
  | tup l xs h => exact .cons _ _ _ _ (.tup l xs h) .nil

def fillV (place : Nat → Option (Nat × Nat)) : List V → List (Nat × V) → Option (List V)
  | cs, [] => some cs
  | cs, (i, v) :: rest =>
    match place i with
    | none => none
    | some (off, size) => if v.cells.length = size ∧ off + size ≤ cs.length then fillV place (splice cs off v.cells) rest else none

inductive PartsR (ρ : Rho) : List (Nat × V) → List (Nat × Value) → Prop where
  | nil : PartsR ρ [] []
  | cons (i : Nat) (v : V) (x : Value) (l : List (Nat × V)) (xs : List (Nat × Value)) (h : VR ρ v x) (t : PartsR ρ l xs) : PartsR ρ ((i, v) :: l) ((i, x) :: xs)

theorem VRs.splice {ρ : Rho} {c l : List V} {C xs : List Value} {off : Nat} {C' : Array Value} (hc : VRs ρ c C) (hl : VRs ρ l xs) (hle : off + l.length ≤ c.length)
    (hs : C'.size = C.length) (hg : ∀ i : Nat, C'[i]? = if off ≤ i ∧ i < off + xs.length then xs[i - off]? else C[i]?) : VRs ρ (splice c off l) C'.toList := by
  have e1 := hc.length
  have e2 := hl.length
  refine VRs.of_get (by rw [splice_length hle]; simp; omega) fun i v hv => ?_
  rw [splice_get hle] at hv
  have hg' := hg i
  rw [← Array.getElem?_toList] at hg'
  rw [hg']
  split at hv
  · rw [if_neg (by omega)]; exact hc.get hv
  · split at hv
    · rw [if_pos (by omega)]; exact hl.get hv
    · rw [if_neg (by omega)]; exact hc.get hv

theorem fillV_rel {ρ : Rho} {place : Nat → Option (Nat × Nat)} : ∀ {ps : List (Nat × V)} {qs : List (Nat × Value)} {cs r : List V} {C : Array Value}, PartsR ρ ps qs → VRs ρ cs C.toList → fillV place cs ps = some r →
    ∃ C', Instr.fill place C qs = some C' ∧ VRs ρ r C'.toList
  | [], _, cs, r, C, .nil, hc, h => by simp [fillV] at h; subst h; exact ⟨C, rfl, hc⟩
  | _ :: _, _, cs, r, C, .cons i v x l xs hv t, hc, h => by
    unfold fillV at h
    unfold Instr.fill
    cases hp : place i with
    | none => simp [hp] at h
    | some p =>
      obtain ⟨off, size⟩ := p
      simp only [hp] at h ⊢
      split at h
      case isFalse => cases h
      rename_i hcond
      have hcl := hc.length
      have hvl := hv.cells.length
      simp only [Array.length_toList] at hcl hvl
      have hno : ¬ ((decide (x.cells.size ≠ size) || decide (off + x.cells.size > C.size)) = true) := by simp; omega
      rw [if_neg hno]
      have hl := lay_toList off x.cells.toList 0 C (by simp; omega)
      have he : x.cells.zipIdx.foldl (fun cs (p : Value × Nat) => cs.setIfInBounds (off + p.2) p.1) C = (x.cells.toList.zipIdx 0).foldl (fun cs (p : Value × Nat) => cs.setIfInBounds (off + p.2) p.1) C := by
        rw [← Array.foldl_toList]; simp
      refine fillV_rel t ?_ h
      rw [he]
      exact VRs.splice hc hv.cells (by omega) (by rw [hl.1]; simp) (fun i => by rw [hl.2 i]; simp)

def placesV (P : Program) : List Field → Option (List (Nat × Nat))
  | [] => some []
  | f :: r => match szT P f.type, placesV P r with
    | some n, some l => some ((f.offset, n) :: l)
    | _, _ => none

theorem run_places {P : Program} (w : World) : ∀ {fs : List Field} {l : List (Nat × Nat)}, placesV P fs = some l →
    (fs.mapM fun f => do pure (f.offset, ← Go.sizeOf f.type) : Sem (List (Nat × Nat))).run P w = .ok l w
  | [], l, h => by simp [placesV] at h; subst h; rfl
  | f :: r, l, h => by
    unfold placesV at h
    split at h
    · rename_i n l' hn hl
      cases h
      have ih := run_places w hl
      simp only [List.mapM_cons, Sem.run_bind, run_sz hn, Result.andThen_ok, Sem.run_pure, ih]
    · cases h

def buildV (P : Program) (t : TypeId) (parts : List (Nat × V)) : Option V :=
  match zeroCells P t, P.underlying t with
  | some z, some (.struct fs) => match placesV P fs.toList with
    | some pl => (fillV (fun i => pl.toArray[i]?) z parts).map .agg
    | none => none
  | some z, some (.array _ el) => match szT P el with
    | some size => (fillV (fun i => some (i * size, size)) z parts).map .agg
    | none => none
  | _, _ => none

theorem buildV_rel {P : Program} {ρ : Rho} {w : World} {t : TypeId} {ps : List (Nat × V)} {qs : Array (Nat × Value)} {v : V} (h : buildV P t ps = some v) (hp : PartsR ρ ps qs.toList) :
    ∃ r, (Instr.build t qs).run P w = .ok r w ∧ VR ρ v r := by
  unfold buildV at h
  split at h
  · rename_i z fs hz hu
    split at h
    · rename_i pl hpl
      cases hf : fillV (fun i => pl.toArray[i]?) z ps with
      | none => simp only [hf, Option.map_none] at h; cases h
      | some r =>
        simp only [hf, Option.map_some] at h; cases h
        obtain ⟨zv, hz1, hz2⟩ := zeroCells_rel hz w ρ
        obtain ⟨C', h1, h2⟩ := fillV_rel hp hz2 hf
        refine ⟨.agg C', ?_, .agg _ _ h2⟩
        have hm : (fs.mapM fun f => do pure (f.offset, ← Go.sizeOf f.type) : Sem (Array (Nat × Nat))).run P w = .ok pl.toArray w := by
          rw [Array.mapM_eq_mapM_toList]
          simp only [Sem.run_map, run_places w hpl, Result.andThen_ok]
        simp only [Instr.build, Sem.run_bind, hz1, Result.andThen_ok, run_underlying hu, hm, h1, Sem.run_pure]
    · cases h
  · rename_i z n el hz hu
    split at h
    · rename_i size hs
      cases hf : fillV (fun i => some (i * size, size)) z ps with
      | none => simp [hf] at h
      | some r =>
        simp [hf] at h; subst h
        obtain ⟨zv, hz1, hz2⟩ := zeroCells_rel hz w ρ
        obtain ⟨C', h1, h2⟩ := fillV_rel hp hz2 hf
        exact ⟨.agg C', by simp only [Instr.build, Sem.run_bind, hz1, Result.andThen_ok, run_underlying hu, run_sz hs, h1, Sem.run_pure], .agg _ _ h2⟩
    · cases h
  · cases h

/-! memory that is made -/

def repV (z : List V) (n : Nat) : List V := (List.range n).map fun i => z.getD (i % z.length) .und

theorem repV_rel {ρ : Rho} {z : List V} {Z : Array Value} (h : VRs ρ z Z.toList) {n : Nat} (hz : n = 0 ∨ 0 < z.length) : VRs ρ (repV z n) ((Array.range n).map (Z[· % Z.size]!)).toList := by
  have hl := h.length
  simp only [Array.length_toList] at hl
  refine VRs.of_get (by simp [repV]) fun i v hv => ?_
  have hi : i < n := by have := (List.getElem?_eq_some_iff.1 hv).1; simpa [repV] using this
  have hz' : 0 < z.length := by omega
  have hm : i % z.length < z.length := Nat.mod_lt _ hz'
  simp only [repV, List.getElem?_map, List.getElem?_range hi, Option.map_some, Option.some.injEq] at hv
  obtain ⟨x, hx, r⟩ := h.get (i := i % z.length) (v := v) (by rw [← hv, List.getD_eq_getElem?_getD, List.getElem?_eq_getElem hm]; rfl)
  refine ⟨x, ?_, r⟩
  simp only [Array.toList_map, Array.toList_range, List.getElem?_map, List.getElem?_range hi, Option.map_some, Option.some.injEq]
  have : Z[i % z.length]? = some x := by simpa using hx
  rw [← hl]
  have hlt : i % z.length < Z.size := by omega
  rw [getElem!_pos Z _ hlt]
  have := (Array.getElem?_eq_some_iff.1 this).2
  exact this

/-- What an operation answers: a value in the world that follows. -/
def Gives (P : Program) (ρ : Rho) (m : Mem) (w : World) (s : Sem Value) (v : V) (m' : Mem) : Prop :=
  ∃ x ρ' w', s.run P w = .ok x w' ∧ Nxt ρ m w ρ' m' w' ∧ VR ρ' v x

theorem Gives.quiet {P : Program} {ρ : Rho} {m : Mem} {w : World} (hm : MR ρ m w) {s : Sem Value} {v : V} (h : ∃ x, s.run P w = .ok x w ∧ VR ρ v x) : Gives P ρ m w s v m :=
  let ⟨x, h1, h2⟩ := h; ⟨x, ρ, w, h1, .refl hm, h2⟩

/-- A new variable's block. -/
def Mem.var (m : Mem) (t : TypeId) (l : List V) : Mem := (m.push (.cells l)).tag ⟨m.size, t, some l.length⟩
def boxV (m : Mem) (t : TypeId) (l : List V) : V × Mem := (.ptr m.size 0, m.var t l)

theorem newVar_rel {P : Program} {ρ : Rho} {m : Mem} {w : World} (hm : MR ρ m w) {t : TypeId} {l : List V} {x : Value} (h : VRs ρ l x.cells.toList) :
    Gives P ρ m w (do pure (.pointer (some (← newVar t x)))) (boxV m t l).1 (boxV m t l).2 := by
  have hl := h.length
  simp only [Array.length_toList] at hl
  have hn := Nxt.new_cells (c := l) hm (Grew.alloc w (.cells x.cells t)) (.inl rfl) (by rw [hl, ← Array.length_toList, List.take_length]; exact h) (by omega)
  have hg := Grew.alloc w (.cells x.cells t)
  refine ⟨.pointer (some ⟨w.heap.size, 0, none⟩), _, _, ?_, hn.tag ⟨m.size, t, some l.length⟩ (by simp) (fun e he => ?_), ?_⟩
  rotate_left
  · rw [Rho.put_same] at he; cases he
    exact ⟨x.cells, _, hg.new, fun s hs => by cases hs; exact ⟨rfl, hl.symm⟩⟩
  rotate_left
  · simp only [newVar, newRow, Sem.run_bind, run_newObj, Result.andThen_ok, Sem.run_pure]; rfl
  · have := VR.ptr (ρ := ρ.put m.size ⟨w.heap.size, 0, l.length, x.cells.size⟩) m.size 0 _ (Rho.put_same _ _ _)
    simpa [boxV] using this

/-- A new slice over new memory. -/
theorem newRow_rel {P : Program} {ρ : Rho} {m : Mem} {w : World} (hm : MR ρ m w) {el : TypeId} {c : List V} {C : Array Value} {len cap sz : Nat} (h : VRs ρ c C.toList) (hs : c.length = cap * sz) (hl : len ≤ cap) :
    Gives P ρ m w (do pure (.slice (some (← newRow el C)) len cap)) (.slc m.size 0 len cap sz) (m.push (.cells c)) := by
  have hcl := h.length
  simp only [Array.length_toList] at hcl
  have hn := Nxt.new_cells (c := c) hm (Grew.alloc w (.cells C el)) (.inl rfl) (by rw [hcl, ← Array.length_toList, List.take_length]; exact h) (by omega)
  refine ⟨.slice (some ⟨w.heap.size, 0, none⟩) len cap, _, _, ?_, hn, ?_⟩
  · simp only [newRow, Sem.run_bind, run_newObj, Result.andThen_ok, Sem.run_pure]; rfl
  · have := VR.slc (ρ := ρ.put m.size ⟨w.heap.size, 0, c.length, C.size⟩) m.size 0 len cap cap sz _ (Rho.put_same _ _ _) hl (Nat.le_refl _) (by simp; omega) (by omega) (by simp; omega)
    simpa using this

def buildSliceV (P : Program) (t : TypeId) (len : Nat) (parts : List (Nat × V)) (m : Mem) : Option (V × Mem) :=
  match P.underlying t with
  | some (.slice el) =>
    match szT P el, zeroCells P el with
    | some size, some z =>
      if z.length = size ∧ 0 < size ∧ len * size ≤ 16777216 then
        match fillV (fun i => some (i * size, size)) (repV z (len * size)) parts with
        | some c => some (.slc m.size 0 len len size, m.push (.cells c))
        | none => none
      else none
    | _, _ => none
  | _ => none

theorem fillV_length {place : Nat → Option (Nat × Nat)} : ∀ {ps : List (Nat × V)} {cs r : List V}, fillV place cs ps = some r → r.length = cs.length
  | [], cs, r, h => by simp [fillV] at h; rw [h]
  | (i, v) :: rest, cs, r, h => by
    unfold fillV at h
    split at h
    · cases h
    · split at h
      · rename_i hc
        rw [fillV_length h, splice_length (by omega)]
      · cases h

theorem buildSliceV_rel {P : Program} {ρ : Rho} {m m' : Mem} {w : World} (hm : MR ρ m w) {t : TypeId} {len : Nat} {ps : List (Nat × V)} {qs : Array (Nat × Value)} {v : V} (h : buildSliceV P t len ps m = some (v, m')) (hp : PartsR ρ ps qs.toList) :
    Gives P ρ m w (Instr.buildSlice t len qs) v m' := by
  unfold buildSliceV at h
  split at h
  case h_2 => cases h
  rename_i el hu
  split at h
  case h_2 => cases h
  rename_i size z hs hz
  split at h
  case isFalse => cases h
  rename_i hc
  split at h
  case h_2 => cases h
  rename_i c hf
  cases h
  obtain ⟨zv, hz1, hz2⟩ := zeroCells_rel hz w ρ
  have hlen := fillV_length hf
  have hle : ¬ (len * size > 2 ^ 24) := by omega
  have hk : ∃ Z : Array Value, VRs ρ (repV z (len * size)) ((Array.range (len * size)).map (Z[· % Z.size]!)).toList ∧
      ∀ C', Instr.fill (fun i => some (i * size, size)) ((Array.range (len * size)).map (Z[· % Z.size]!)) qs.toList = some C' →
        (Instr.buildSlice t len qs).run P w = (do pure (.slice (some (← newRow el C')) len len) : Sem Value).run P w := by
    by_cases h0 : len * size = 0
    · refine ⟨#[], by rw [h0]; simp [repV]; exact .nil, fun C' h1 => ?_⟩
      unfold Instr.buildSlice
      simp only [Sem.run_bind, run_underlying hu, run_sz hs, Result.andThen_ok, if_neg hle, if_pos h0, Sem.run_pure, h1]
    · refine ⟨zv.cells, repV_rel hz2 (.inr (by omega)), fun C' h1 => ?_⟩
      unfold Instr.buildSlice
      simp only [Sem.run_bind, run_underlying hu, run_sz hs, Result.andThen_ok, if_neg hle, if_neg h0, hz1, Sem.run_pure, h1]
  obtain ⟨Z, hZr, hZ⟩ := hk
  obtain ⟨C', h1, h2⟩ := fillV_rel hp hZr hf
  obtain ⟨x, ρ', w', hrun, hn, hv⟩ := newRow_rel (P := P) (el := el) (len := len) (cap := len) (sz := size) hm h2 (by rw [hlen]; simp [repV]) (Nat.le_refl _)
  exact ⟨x, ρ', w', by rw [hZ C' h1]; exact hrun, hn, hv⟩

end Sim
