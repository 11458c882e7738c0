/-
  Lemmas of this claim's own: what a call is handed, as abstract values over memory that is only read. Conditions: the types are numbers, bools, texts, and slices, arrays and structs of these.
-/
import Derived.Test.YtdmahionfllhnaaGreatDoorSim2
import GoSem.ClaimChange
import Derived.Below
namespace Sim
open Go

def RdL (R : TypeId → List V → Prop) : List TypeId → List V → Prop
  | [], vs => vs = []
  | t :: ts, vs => ∃ u v, vs = u ++ v ∧ R t u ∧ RdL R ts v

/-- These abstract cells read as a value of the type. -/
def Rd (P : Program) (m : Mem) : Nat → TypeId → List V → Prop
  | 0, _, _ => False
  | d + 1, t, vs => match P.underlying t with
    | some .bool => ∃ b, vs = [.bool b]
    | some (.int k) => ∃ n, vs = [.int k n] ∧ k.min ≤ n ∧ n ≤ k.max
    | some .string => ∃ s, vs = [.str s] ∧ s.length ≤ maxLen
    | some (.slice e) => vs = [.nils] ∨ ∃ b len cap c, vs = [.slc b 0 len cap (P.cellsOf e)] ∧ len ≤ cap ∧ cap ≤ maxLen ∧ m.get b = some (.ro c) ∧ c.length = cap * P.cellsOf e ∧
        ∀ i, i < cap → Rd P m d e ((c.drop (i * P.cellsOf e)).take (P.cellsOf e))
    | some (.struct fs) => RdL (Rd P m d) (fs.toList.map (·.type)) vs
    | some (.array n e) => RdL (Rd P m d) (List.replicate n e) vs
    | _ => False

def contig (P : Program) : Nat → List Field → Nat → Bool
  | o, [], n => Nat.beq o n
  | o, f :: r, n => Nat.beq f.offset o && contig P (o + P.cellsOf f.type) r n

/-- Types that are read so. -/
def plainT (P : Program) : Nat → TypeId → Bool
  | 0, _ => false
  | d + 1, t => match P.underlying t with
    | some .bool | some (.int _) | some .string => true
    | some (.slice e) => Nat.blt 0 (P.cellsOf e) && plainT P d e
    | some (.struct fs) => contig P 0 fs.toList (P.cellsOf t) && fs.toList.all fun f => plainT P d f.type
    | some (.array n e) => Nat.beq (n * P.cellsOf e) (P.cellsOf t) && plainT P d e
    | _ => false

structure MExt (m m' : Mem) : Prop where
  size : m.size ≤ m'.size
  get : ∀ b, b < m.size → m'.get b = m.get b
  ty : m'.ty = m.ty
  gl : m'.gl = m.gl

theorem MExt.refl (m : Mem) : MExt m m := ⟨Nat.le_refl _, fun _ _ => rfl, rfl, rfl⟩
theorem MExt.trans {a b c : Mem} (h : MExt a b) (k : MExt b c) : MExt a c :=
  ⟨Nat.le_trans h.size k.size, fun i hi => (k.get i (Nat.lt_of_lt_of_le hi h.size)).trans (h.get i hi), k.ty.trans h.ty, k.gl.trans h.gl⟩

theorem RdL.mono {R S : TypeId → List V → Prop} (h : ∀ t vs, R t vs → S t vs) : ∀ {ts : List TypeId} {vs : List V}, RdL R ts vs → RdL S ts vs
  | [], _, hr => hr
  | _ :: _, _, ⟨u, v, e, h1, h2⟩ => ⟨u, v, e, h _ _ h1, RdL.mono h h2⟩

theorem Rd.mono {P : Program} {m m' : Mem} (h : MExt m m') : ∀ {d : Nat} {t : TypeId} {vs : List V}, Rd P m d t vs → Rd P m' d t vs
  | 0, _, _, hr => hr
  | d + 1, t, vs, hr => by
    unfold Rd at hr ⊢
    split at hr
    · exact hr
    · exact hr
    · exact hr
    · rcases hr with hr | ⟨b, len, cap, c, h1, h2, h3, h4, h5, h6⟩
      · exact .inl hr
      · exact .inr ⟨b, len, cap, c, h1, h2, h3, (h.get b (Mem.get_lt h4)).trans h4, h5, fun i hi => Rd.mono h (h6 i hi)⟩
    · exact RdL.mono (fun t vs => Rd.mono h) hr
    · exact RdL.mono (fun t vs => Rd.mono h) hr
    · exact hr

def AllRo (m : Mem) : Prop := ∀ b x, m.get b = some x → x.rw = false

theorem AllRo.push {m : Mem} (h : AllRo m) (c : List V) : AllRo (m.push (.ro c)) := fun b x hx => by
  rw [Mem.get_push] at hx
  split at hx
  · cases hx; rfl
  · exact h b x hx

/-- A block that is only read, spoken of from now on. -/
theorem MR.add_ro {ρ : Rho} {m : Mem} {w : World} (hm : MR ρ m w) {e : Ext} {c : List V} (ha : AllRo m) (hc : ∀ ρ', ρ.le ρ' → BlkR ρ' e w (some (.ro c))) (hcb : e.cb < w.heap.size) :
    ρ.le (ρ.put m.size e) ∧ MR (ρ.put m.size e) (m.push (.ro c)) w := by
  have hle : ρ.le (ρ.put m.size e) := fun b e' hb => by
    have := hm.dom hb
    rw [Rho.put_ne _ _ (by omega)]; exact hb
  refine ⟨hle, fun b e' hb => ?_, fun b e' hb => ?_, fun b1 b2 e1 e2 h1 h2 hne hr hl => ?_, fun t ht => ?_, fun p hp => ?_⟩
  · by_cases h : b = m.size
    · subst h
      rw [Rho.put_same] at hb; cases hb
      rw [Mem.get_push_new]
      exact hc _ hle
    · rw [Rho.put_ne _ _ h] at hb
      rw [Mem.get_push, if_neg h]
      exact (hm.blk b e' hb).mono hle
  · by_cases h : b = m.size
    · subst h
      rw [Rho.put_same] at hb; cases hb
      exact hcb
    · rw [Rho.put_ne _ _ h] at hb
      exact hm.cb b e' hb
  · obtain ⟨x, hx, hxr⟩ := hr
    rw [(ha.push c) b1 x hx] at hxr; cases hxr
  · obtain ⟨h1, h2⟩ := hm.ty t ht
    refine ⟨by simp; omega, fun e' hb => ?_⟩
    rw [Rho.put_ne _ _ (by omega)] at hb
    exact h2 e' hb
  · obtain ⟨e', h1, h2⟩ := hm.gl p hp
    exact ⟨e', hle _ _ h1, h2⟩

inductive Two {α β : Type} (R : α → β → Prop) : List α → List β → Prop where
  | nil : Two R [] []
  | cons (a : α) (b : β) (l : List α) (k : List β) (h : R a b) (t : Two R l k) : Two R (a :: l) (b :: k)

theorem Two.mono {α β : Type} {R S : α → β → Prop} (h : ∀ a b, R a b → S a b) : ∀ {l : List α} {k : List β}, Two R l k → Two S l k
  | _, _, .nil => .nil
  | _, _, .cons a b l k hr t => .cons a b l k (h a b hr) (Two.mono h t)

theorem Two.length {α β : Type} {R : α → β → Prop} : ∀ {l : List α} {k : List β}, Two R l k → l.length = k.length
  | _, _, .nil => rfl
  | _, _, .cons _ _ _ _ _ t => by simp [Two.length t]

theorem Two.get {α β : Type} {R : α → β → Prop} : ∀ {l : List α} {k : List β}, Two R l k → ∀ {i : Nat} {a : α}, l[i]? = some a → ∃ b, k[i]? = some b ∧ R a b
  | _, _, .nil, i, a, h => by simp at h
  | _, _, .cons a b l k hr t, 0, c, h => by simp at h; subst h; exact ⟨b, by simp, hr⟩
  | _, _, .cons a b l k hr t, i + 1, c, h => by simp at h; obtain ⟨y, h1, h2⟩ := Two.get t h; exact ⟨y, by simpa using h1, h2⟩

section
variable {H : Type} {enc : TypeId × Value → H} {P : Program} {w : World}

abbrev tr (enc : TypeId × Value → H) (P : Program) (w : World) := DataW.trod enc P w 0 (fun _ => true) true

/-- What reading a row of cells as a type gives. -/
def Got (P : Program) (w : World) (d : Nat) (ρ : Rho) (m : Mem) (t : TypeId) (cs : List Value) : Prop :=
  ∃ ρ' m' vs, MR ρ' m' w ∧ ρ.le ρ' ∧ MExt m m' ∧ AllRo m' ∧ VRs ρ' vs cs ∧ Rd P m' d t vs

theorem read_many {d : Nat} (ih : ∀ {fuel : Nat} {t : TypeId} {cs : List Value} {x : DataW H × List MemPlace}, plainT P d t = true → tr enc P w fuel t cs = some x → ∀ {ρ : Rho} {m : Mem}, MR ρ m w → AllRo m → Got P w d ρ m t cs) :
    ∀ (l : List (TypeId × List Value)), (∀ p ∈ l, plainT P d p.1 = true ∧ ∃ fuel x, tr enc P w fuel p.1 p.2 = some x) → ∀ {ρ : Rho} {m : Mem}, MR ρ m w → AllRo m →
      ∃ ρ' m' vss, MR ρ' m' w ∧ ρ.le ρ' ∧ MExt m m' ∧ AllRo m' ∧ Two (fun p vs => VRs ρ' vs p.2 ∧ Rd P m' d p.1 vs) l vss
  | [], _, ρ, m, hm, ha => ⟨ρ, m, [], hm, Rho.le_refl _, .refl m, ha, .nil⟩
  | p :: l, h, ρ, m, hm, ha => by
    obtain ⟨hp, fuel, x, hx⟩ := h p List.mem_cons_self
    obtain ⟨ρ1, m1, vs, a1, a2, a3, a4, a5, a6⟩ := ih hp hx hm ha
    obtain ⟨ρ2, m2, vss, b1, b2, b3, b4, b5⟩ := read_many ih l (fun q hq => h q (List.mem_cons_of_mem _ hq)) a1 a4
    exact ⟨ρ2, m2, vs :: vss, b1, Rho.le_trans a2 b2, a3.trans b3, b4, .cons _ _ _ _ ⟨a5.mono b2, a6.mono b3⟩ b5⟩

theorem flat_rel {ρ : Rho} {m : Mem} {d : Nat} : ∀ {l : List (TypeId × List Value)} {vss : List (List V)}, Two (fun p vs => VRs ρ vs p.2 ∧ Rd P m d p.1 vs) l vss →
    VRs ρ vss.flatten (l.map (·.2)).flatten ∧ RdL (Rd P m d) (l.map (·.1)) vss.flatten
  | _, _, .nil => ⟨.nil, rfl⟩
  | _, _, .cons p vs l k ⟨h1, h2⟩ t => by
    obtain ⟨q1, q2⟩ := flat_rel t
    exact ⟨by simp only [List.flatten_cons, List.map_cons]; exact h1.append q1, vs, k.flatten, by simp, h2, q2⟩

theorem mapM_get {α β : Type} {f : α → Option β} : ∀ {l : List α} {r : List β}, l.mapM f = some r → ∀ x ∈ l, ∃ y, f x = some y
  | [], _, _, x, hx => by cases hx
  | a :: l, r, h, x, hx => by
    rw [List.mapM_cons] at h
    cases ha : f a with
    | none => rw [ha] at h; cases h
    | some y =>
      rw [ha] at h
      cases hl : l.mapM f with
      | none => rw [hl] at h; cases h
      | some ys =>
        rcases List.mem_cons.1 hx with rfl | hx
        · exact ⟨y, ha⟩
        · exact mapM_get hl x hx

theorem mapM_range {β : Type} {f : Nat → Option β} : ∀ {n : Nat} {r : List β}, (List.range n).mapM f = some r → r.length = n ∧ ∀ i, i < n → f i = r[i]? := by
  intro n
  have key : ∀ (l : List Nat) (r : List β), l.mapM f = some r → r.length = l.length ∧ ∀ (i a : Nat), l[i]? = some a → f a = r[i]? := by
    intro l
    induction l with
    | nil => intro r h; simp at h; subst h; exact ⟨rfl, fun i a h => by simp at h⟩
    | cons a l ih =>
      intro r h
      rw [List.mapM_cons] at h
      cases ha : f a with
      | none => rw [ha] at h; cases h
      | some y =>
        rw [ha] at h
        cases hl : l.mapM f with
        | none => rw [hl] at h; cases h
        | some ys =>
          rw [hl] at h
          cases h
          obtain ⟨q1, q2⟩ := ih ys hl
          refine ⟨by simp [q1], fun i b hb => ?_⟩
          cases i with
          | zero => simp at hb; subst hb; simpa using ha
          | succ i => simp at hb; simpa using q2 i b hb
  intro r h
  obtain ⟨q1, q2⟩ := key _ r h
  exact ⟨by simpa using q1, fun i hi => q2 i i (by simp [hi])⟩

theorem cells?_get {a : Addr} {n : Nat} {cs : List Value} (h : w.cells? 0 a n = some cs) : cs.length = n ∧ ∀ j, j < n → w.cell? (a.add j) = cs[j]? := by
  unfold World.cells? at h
  rw [if_pos (Nat.zero_le _)] at h
  exact mapM_range h

theorem cell?_at {a : Addr} {x : Value} (h : w.cell? a = some x) : ∃ C el fz, w.heap[a.block]? = some (.cells C el fz) ∧ a.spot = none ∧ C[a.off]? = some x := by
  unfold World.cell? at h
  split at h
  · rename_i C el fz hh
    split at h
    · cases h
    · rename_i hs
      exact ⟨C, el, fz, hh, by simpa using hs, h⟩
  · cases h

theorem contig_chunks {l : List Field} : ∀ {o n : Nat} {cs : List Value}, contig P o l n = true → o + cs.length = n → 
    ((l.map fun f => (f.type, (((List.replicate o undef ++ cs).drop f.offset).take (P.cellsOf f.type)))).map (·.2)).flatten = cs := by
  induction l with
  | nil =>
    intro o n cs h hl
    have : o = n := by simpa [contig] using h
    have : cs.length = 0 := by omega
    simpa using this
  | cons f r ih =>
    intro o n cs h hl
    simp only [contig, Bool.and_eq_true] at h
    have ho : f.offset = o := by simpa using h.1
    have hle : P.cellsOf f.type ≤ cs.length := by
      have : ∀ (r : List Field) (o : Nat), contig P o r n = true → o ≤ n := by
        intro r
        induction r with
        | nil => intro o h; have : o = n := by simpa [contig] using h
                 omega
        | cons g r ih => intro o h; simp only [contig, Bool.and_eq_true] at h; have := ih _ h.2; omega
      have := this r _ h.2
      omega
    have hi := ih (o := o + P.cellsOf f.type) (n := n) (cs := cs.drop (P.cellsOf f.type)) h.2 (by rw [List.length_drop]; omega)
    have hsame : ∀ g ∈ r, ((List.replicate (o + P.cellsOf f.type) undef ++ cs.drop (P.cellsOf f.type)).drop g.offset).take (P.cellsOf g.type) = ((List.replicate o undef ++ cs).drop g.offset).take (P.cellsOf g.type) := by
      intro g hg
      have hgo : ∀ (r : List Field) (o : Nat), contig P o r n = true → ∀ g ∈ r, o ≤ g.offset := by
        intro r
        induction r with
        | nil => intro o _ g hg; cases hg
        | cons x r ih =>
          intro o h g hg
          simp only [contig, Bool.and_eq_true] at h
          have hx : x.offset = o := by simpa using h.1
          rcases List.mem_cons.1 hg with rfl | hg
          · omega
          · have := ih _ h.2 g hg; omega
      have hge := hgo r _ h.2 g hg
      congr 1
      rw [List.drop_append, List.drop_append]
      simp only [List.length_replicate, List.drop_replicate, List.drop_drop]
      rw [show o + P.cellsOf f.type - g.offset = 0 from by omega, show o - g.offset = 0 from by omega]
      simp only [List.replicate_zero, List.nil_append]
      congr 1
      omega
    simp only [List.map_cons, List.flatten_cons, List.map_map] at hi ⊢
    have e1 : ((List.replicate o undef ++ cs).drop f.offset).take (P.cellsOf f.type) = cs.take (P.cellsOf f.type) := by
      rw [ho, List.drop_append]
      simp
    rw [e1]
    have e2 : (List.map ((fun x : TypeId × List Value => x.2) ∘ fun g : Field => (g.type, ((List.replicate (o + P.cellsOf f.type) undef ++ cs.drop (P.cellsOf f.type)).drop g.offset).take (P.cellsOf g.type))) r)
        = (List.map ((fun x : TypeId × List Value => x.2) ∘ fun g : Field => (g.type, ((List.replicate o undef ++ cs).drop g.offset).take (P.cellsOf g.type))) r) := by
      refine List.map_congr_left fun g hg => ?_
      exact hsame g hg
    rw [← e2, hi, List.take_append_drop]

theorem even_chunks {k : Nat} : ∀ {n : Nat} {cs : List Value}, cs.length = n * k → ((List.range n).map fun i => (cs.drop (i * k)).take k).flatten = cs
  | 0, cs, h => by simp at h; simp [h]
  | n + 1, cs, h => by
    rw [List.range_succ_eq_map, List.map_cons, List.flatten_cons, List.map_map]
    have h' : (cs.drop k).length = n * k := by rw [List.length_drop, h, Nat.succ_mul]; omega
    have ih := even_chunks h'
    have e : (List.map ((fun i => (cs.drop (i * k)).take k) ∘ Nat.succ) (List.range n)) = (List.range n).map fun i => ((cs.drop k).drop (i * k)).take k := by
      refine List.map_congr_left fun i _ => ?_
      simp only [Function.comp, List.drop_drop, Nat.succ_mul]
      rw [Nat.add_comm]
    rw [e, ih]
    simp

/-! The reader's words, one kind of type at a time. -/
theorem trod_bool {fuel : Nat} {t : TypeId} {cs : List Value} {x : DataW H × List MemPlace} (hu : P.underlying t = some .bool) (h : tr enc P w (fuel + 1) t cs = some x) : ∃ b, cs = [.bool b] := by
  unfold tr DataW.trod at h
  split at h <;> first | exact ⟨_, rfl⟩ | simp_all

theorem trod_int {fuel : Nat} {t : TypeId} {k : IntKind} {cs : List Value} {x : DataW H × List MemPlace} (hu : P.underlying t = some (.int k)) (h : tr enc P w (fuel + 1) t cs = some x) : ∃ n, cs = [.int k n] ∧ (Lit.int k n).wf = true := by
  unfold tr DataW.trod at h
  split at h
  case h_2 =>
    rename_i hk
    rw [hu] at hk; cases hk
    split at h
    · rename_i hc; obtain ⟨rfl, hc⟩ := hc; exact ⟨_, rfl, hc⟩
    · cases h
  all_goals simp_all

theorem trod_str {fuel : Nat} {t : TypeId} {cs : List Value} {x : DataW H × List MemPlace} (hu : P.underlying t = some .string) (h : tr enc P w (fuel + 1) t cs = some x) : ∃ s, cs = [.string s] ∧ s.size ≤ maxLen := by
  unfold tr DataW.trod at h
  split at h
  case h_4 =>
    split at h
    · exact ⟨_, rfl, by assumption⟩
    · cases h
  all_goals simp_all

theorem trod_struct {fuel : Nat} {t : TypeId} {fs : Array Field} {cs : List Value} {x : DataW H × List MemPlace} (hu : P.underlying t = some (.struct fs)) (h : tr enc P w (fuel + 1) t cs = some x) :
    cs.length = P.cellsOf t ∧ ∀ f ∈ fs.toList, ∃ y, tr enc P w fuel f.type ((cs.drop f.offset).take (P.cellsOf f.type)) = some y := by
  unfold tr DataW.trod at h
  rw [hu] at h
  simp only at h
  split at h
  · rename_i hc
    cases hm : (fs.toList.mapM fun f => DataW.trod enc P w 0 (fun _ => true) true fuel f.type ((cs.drop f.offset).take (P.cellsOf f.type))) with
    | none => rw [hm] at h; cases h
    | some ys => exact ⟨hc, fun f hf => mapM_get hm f hf⟩
  · cases h

theorem trod_array {fuel n : Nat} {t e : TypeId} {cs : List Value} {x : DataW H × List MemPlace} (hu : P.underlying t = some (.array n e)) (h : tr enc P w (fuel + 1) t cs = some x) :
    cs.length = P.cellsOf t ∧ ∀ i, i < n → ∃ y, tr enc P w fuel e ((cs.drop (i * P.cellsOf e)).take (P.cellsOf e)) = some y := by
  unfold tr DataW.trod at h
  rw [hu] at h
  simp only at h
  split at h
  · rename_i hc
    cases hm : ((List.range n).mapM fun i => DataW.trod enc P w 0 (fun _ => true) true fuel e ((cs.drop (i * P.cellsOf e)).take (P.cellsOf e))) with
    | none => rw [hm] at h; cases h
    | some ys => exact ⟨hc, fun i hi => mapM_get hm i (by simpa using hi)⟩
  · cases h

theorem trod_slice {fuel : Nat} {t e : TypeId} {cs : List Value} {x : DataW H × List MemPlace} (hu : P.underlying t = some (.slice e)) (h : tr enc P w (fuel + 1) t cs = some x) :
    cs = [.slice none 0 0] ∨ ∃ a len cap, cs = [.slice (some a) len cap] ∧ len ≤ cap ∧ cap ≤ maxLen ∧
      ∀ i, i < cap → ∃ es y, w.cells? 0 (a.add (i * P.cellsOf e)) (P.cellsOf e) = some es ∧ tr enc P w fuel e es = some y := by
  unfold tr DataW.trod at h
  split at h
  case h_7 => exact .inl rfl
  case h_8 =>
    rename_i e' a len cap hk
    rw [hu] at hk; cases hk
    right
    split at h
    case isFalse => cases h
    rename_i hc
    refine ⟨a, len, cap, rfl, hc.2.1, hc.2.2, ?_⟩
    simp only [if_true] at h
    cases hm : ((List.range len).mapM fun i => (w.cells? 0 (a.add (i * P.cellsOf e)) (P.cellsOf e)).bind (DataW.trod enc P w 0 (fun _ => true) true fuel e)) with
    | none => rw [hm] at h; cases h
    | some ys =>
      rw [hm] at h
      simp only [Option.bind_some] at h
      cases hm2 : ((List.range (cap - len)).mapM fun j => (w.cells? 0 (a.add ((len + j) * P.cellsOf e)) (P.cellsOf e)).bind (DataW.trod enc P w 0 (fun _ => true) true fuel e)) with
      | none => rw [hm2] at h; cases h
      | some zs =>
        have key : ∀ i y, (w.cells? 0 (a.add (i * P.cellsOf e)) (P.cellsOf e)).bind (DataW.trod enc P w 0 (fun _ => true) true fuel e) = some y → ∃ es y, w.cells? 0 (a.add (i * P.cellsOf e)) (P.cellsOf e) = some es ∧ tr enc P w fuel e es = some y := by
          intro i y hy
          cases hes : w.cells? 0 (a.add (i * P.cellsOf e)) (P.cellsOf e) with
          | none => rw [hes] at hy; cases hy
          | some es => rw [hes] at hy; exact ⟨es, y, rfl, hy⟩
        intro i hi
        rcases Nat.lt_or_ge i len with hil | hil
        · obtain ⟨y, hy⟩ := mapM_get hm i (by simpa using hil)
          exact key i y hy
        · obtain ⟨y, hy⟩ := mapM_get hm2 (i - len) (by simp; omega)
          rw [show len + (i - len) = i from by omega] at hy
          exact key i y hy
  all_goals simp_all

theorem wf_int {k : IntKind} {n : Int} (h : (Lit.int k n).wf = true) : k.min ≤ n ∧ n ≤ k.max := by
  simpa [Lit.wf, Bool.and_eq_true, decide_eq_true_eq] using h

/-- What a call is handed. -/
theorem trod_rel (hcell : ∃ (cb : Nat) (C : Array Value) (el : TypeId) (fz : Nat × Nat), w.heap[cb]? = some (.cells C el fz)) :
    ∀ {d fuel : Nat} {t : TypeId} {cs : List Value} {x : DataW H × List MemPlace}, plainT P d t = true → tr enc P w fuel t cs = some x → ∀ {ρ : Rho} {m : Mem}, MR ρ m w → AllRo m → Got P w d ρ m t cs := by
  intro d
  induction d with
  | zero => intro fuel t cs x h; cases h
  | succ d ih =>
    intro fuel t cs x hp hx ρ m hm ha
    cases fuel with
    | zero => cases hx
    | succ fuel =>
      unfold Got
      unfold plainT at hp
      split at hp
      · rename_i hu
        obtain ⟨b, rfl⟩ := trod_bool hu hx
        exact ⟨ρ, m, [.bool b], hm, Rho.le_refl _, .refl m, ha, .cons _ _ _ _ (.bool _) .nil, by unfold Rd; rw [hu]; exact ⟨_, rfl⟩⟩
      · rename_i k hu
        obtain ⟨n, rfl, hn⟩ := trod_int hu hx
        exact ⟨ρ, m, [.int k n], hm, Rho.le_refl _, .refl m, ha, .cons _ _ _ _ (.int _ _) .nil, by unfold Rd; rw [hu]; exact ⟨_, rfl, wf_int hn⟩⟩
      · rename_i hu
        obtain ⟨s, rfl, hs⟩ := trod_str hu hx
        refine ⟨ρ, m, [.str s.data.toList], hm, Rho.le_refl _, .refl m, ha, .cons _ _ _ _ ?_ .nil, by unfold Rd; rw [hu]; exact ⟨_, rfl, by simpa using hs⟩⟩
        have := VR.str (ρ := ρ) s.data.toList; rwa [str_eta] at this
      · rename_i e hu
        rw [Bool.and_eq_true] at hp
        have hpos : 0 < P.cellsOf e := by simpa [Nat.blt_eq] using hp.1
        rcases trod_slice hu hx with rfl | ⟨a, len, cap, rfl, h1, h2, h3⟩
        · exact ⟨ρ, m, [.nils], hm, Rho.le_refl _, .refl m, ha, .cons _ _ _ _ .nils .nil, by unfold Rd; rw [hu]; exact .inl rfl⟩
        · -- the elements, first
          have hex : ∃ ess : List (List Value), ess.length = cap ∧ ∀ i es, ess[i]? = some es → w.cells? 0 (a.add (i * P.cellsOf e)) (P.cellsOf e) = some es ∧ ∃ fuel y, tr enc P w fuel e es = some y := by
            refine ⟨(List.range cap).map fun i => (w.cells? 0 (a.add (i * P.cellsOf e)) (P.cellsOf e)).getD [], by simp, fun i es hes => ?_⟩
            have hi : i < cap := by have := (List.getElem?_eq_some_iff.1 hes).1; simpa using this
            simp only [List.getElem?_map, List.getElem?_range hi, Option.map_some, Option.some.injEq] at hes
            obtain ⟨es', y, q1, q2⟩ := h3 i hi
            rw [q1] at hes
            simp only [Option.getD_some] at hes
            subst hes
            exact ⟨q1, fuel, y, q2⟩
          obtain ⟨ess, e1, e2⟩ := hex
          obtain ⟨ρ1, m1, vss, g1, g2, g3, g4, g5⟩ := read_many ih (ess.map fun es => (e, es)) (fun p hp' => by
            obtain ⟨es, hes, rfl⟩ := List.mem_map.1 hp'
            obtain ⟨i, hi⟩ := List.mem_iff_getElem?.1 hes
            obtain ⟨fuel, y, hy⟩ := (e2 i es hi).2
            exact ⟨hp.2, fuel, y, hy⟩) hm ha
          have hlen : vss.length = cap := by rw [← g5.length]; simpa using e1
          have hchunk : ∀ (i : Nat) (vs : List V), vss[i]? = some vs → ∃ es, ess[i]? = some es ∧ VRs ρ1 vs es ∧ Rd P m1 d e vs ∧ vs.length = P.cellsOf e := by
            intro i vs hvs
            have hi : i < ess.length := by have := (List.getElem?_eq_some_iff.1 hvs).1; omega
            have hes : ess[i]? = some ess[i] := List.getElem?_eq_getElem hi
            obtain ⟨vs', q1, q2, q3⟩ := g5.get (i := i) (a := (e, ess[i])) (by simp [hes])
            rw [hvs] at q1; cases q1
            refine ⟨ess[i], hes, q2, q3, ?_⟩
            rw [q2.length]
            exact (cells?_get (e2 i _ hes).1).1
          have hflat : ∀ (i : Nat) (vs : List V), vss[i]? = some vs → (vss.flatten.drop (i * P.cellsOf e)).take (P.cellsOf e) = vs := by
            have : ∀ (l : List (List V)), (∀ v ∈ l, v.length = P.cellsOf e) → ∀ (i : Nat) (vs : List V), l[i]? = some vs → (l.flatten.drop (i * P.cellsOf e)).take (P.cellsOf e) = vs := by
              intro l
              induction l with
              | nil => intro _ i vs h; simp at h
              | cons u l ih =>
                intro hl i vs h
                have hu' := hl u List.mem_cons_self
                cases i with
                | zero => simp at h; subst h; simp [← hu']
                | succ i =>
                  simp at h
                  rw [List.flatten_cons, List.drop_append, hu', Nat.succ_mul, List.drop_eq_nil_of_le (by omega), List.nil_append, show i * P.cellsOf e + P.cellsOf e - P.cellsOf e = i * P.cellsOf e from by omega]
                  exact ih (fun v hv => hl v (List.mem_cons_of_mem _ hv)) i vs h
            exact this vss fun v hv => by
              obtain ⟨i, hi⟩ := List.mem_iff_getElem?.1 hv
              obtain ⟨es, _, _, _, q⟩ := hchunk i v hi
              exact q
          have hfl : vss.flatten.length = cap * P.cellsOf e := by
            have : ∀ (l : List (List V)), (∀ v ∈ l, v.length = P.cellsOf e) → l.flatten.length = l.length * P.cellsOf e := by
              intro l
              induction l with
              | nil => intro _; simp
              | cons u l ih => intro hl; rw [List.flatten_cons, List.length_append, hl u List.mem_cons_self, ih (fun v hv => hl v (List.mem_cons_of_mem _ hv)), List.length_cons, Nat.succ_mul]; omega
            rw [this vss (fun v hv => by
              obtain ⟨i, hi⟩ := List.mem_iff_getElem?.1 hv
              obtain ⟨es, _, _, _, q⟩ := hchunk i v hi
              exact q), hlen]
          have hrd : ∀ i, i < cap → Rd P m1 d e ((vss.flatten.drop (i * P.cellsOf e)).take (P.cellsOf e)) := by
            intro i hi
            have hv : vss[i]? = some vss[i] := List.getElem?_eq_getElem (by omega)
            rw [hflat i _ hv]
            obtain ⟨_, _, _, q, _⟩ := hchunk i _ hv
            exact q
          by_cases h0 : cap = 0
          · -- no element
            subst h0
            have hl0 : len = 0 := by omega
            subst hl0
            have hnil : vss = [] := by simpa using hlen
            subst hnil
            obtain ⟨cb, C, el, fz, hC⟩ := hcell
            obtain ⟨k1, k2⟩ := g1.add_ro (e := ⟨cb, 0, 0, 0⟩) (c := []) g4 (fun ρ' _ => ⟨C, el, fz, hC, ⟨rfl, Nat.le_refl _, by simp, fun i v h => by simp at h⟩, rfl⟩) (by
              have := hC
              rw [Array.getElem?_eq_some_iff] at this
              exact this.1)
            refine ⟨_, _, [.slc m1.size 0 0 0 (P.cellsOf e)], k2, Rho.le_trans g2 k1, g3.trans ⟨by simp, fun b hb => Mem.get_push_lt _ hb, rfl, rfl⟩, g4.push _, .cons _ _ _ _ (.slc0 _ _ _ ⟨cb, 0, 0, 0⟩ _ (Rho.put_same _ _ _) (Nat.le_refl _)) .nil, ?_⟩
            unfold Rd; rw [hu]
            exact .inr ⟨m1.size, 0, 0, [], rfl, Nat.le_refl _, h2, by simp, by simp, fun i hi => by omega⟩
          · -- some
            obtain ⟨es0, y0, q0, _⟩ := h3 0 (by omega)
            obtain ⟨p1, p2⟩ := cells?_get q0
            have hc0 := p2 0 hpos
            rw [Nat.zero_mul] at hc0
            have ha0 : ∀ n, (a.add 0).add n = a.add n := fun n => rfl
            rw [ha0, List.getElem?_eq_getElem (by omega)] at hc0
            obtain ⟨C, el, fz, k1, k2, k3⟩ := cell?_at hc0
            have hab : (a.add 0) = a := rfl
            rw [hab] at k1 k2 k3
            have hadd : ∀ (a : Addr) (n : Nat), (a.add n).block = a.block ∧ (a.add n).off = a.off + n := fun a n => by unfold Addr.add; split <;> simp_all
            have hC : ∀ i j, i < cap → j < P.cellsOf e → ∃ es, ess[i]? = some es ∧ C[a.off + (i * P.cellsOf e + j)]? = es[j]? ∧ j < es.length := by
              intro i j hi hj
              have hes : ess[i]? = some ess[i] := List.getElem?_eq_getElem (by omega)
              obtain ⟨r1, r2⟩ := cells?_get (e2 i _ hes).1
              refine ⟨_, hes, ?_, by omega⟩
              have r3 := r2 j hj
              rw [List.getElem?_eq_getElem (by omega)] at r3
              obtain ⟨C', el', fz', s1, _, s3⟩ := cell?_at r3
              rw [(hadd _ _).2, (hadd _ _).2] at s3
              rw [(hadd _ _).1, (hadd _ _).1, k1] at s1
              cases s1
              rw [List.getElem?_eq_getElem (by omega), ← s3, Nat.add_assoc]
            have hsize : a.off + cap * P.cellsOf e ≤ C.size := by
              obtain ⟨es, _, s2, s3⟩ := hC (cap - 1) (P.cellsOf e - 1) (by omega) (by omega)
              rw [List.getElem?_eq_getElem s3] at s2
              have := (Array.getElem?_eq_some_iff.1 s2).1
              have : (cap - 1) * P.cellsOf e + P.cellsOf e = cap * P.cellsOf e := by
                rw [← Nat.succ_mul]; congr 1; omega
              omega
            have hcells : ∀ ρ', ρ1.le ρ' → CellsR ρ' ⟨a.block, a.off, cap * P.cellsOf e, cap * P.cellsOf e⟩ vss.flatten C := by
              intro ρ' hρ
              refine ⟨hfl, Nat.le_refl _, hsize, fun k v hv => ?_⟩
              have hk : k < cap * P.cellsOf e := by rw [← hfl]; exact (List.getElem?_eq_some_iff.1 hv).1
              have hi : k / P.cellsOf e < cap := (Nat.div_lt_iff_lt_mul hpos).2 hk
              have hj : k % P.cellsOf e < P.cellsOf e := Nat.mod_lt _ hpos
              have hsum : k / P.cellsOf e * P.cellsOf e + k % P.cellsOf e = k := by rw [Nat.mul_comm]; exact Nat.div_add_mod _ _
              obtain ⟨es, s1, s2, s3⟩ := hC _ _ hi hj
              rw [hsum] at s2
              have hvs : vss[k / P.cellsOf e]? = some vss[k / P.cellsOf e] := List.getElem?_eq_getElem (by omega)
              obtain ⟨es', t1, t2, _⟩ := hchunk _ _ hvs
              rw [s1] at t1; cases t1
              have hvv : vss[k / P.cellsOf e][k % P.cellsOf e]? = some v := by
                rw [← hflat _ _ hvs, List.getElem?_take_of_lt hj, List.getElem?_drop, hsum]
                exact hv
              obtain ⟨x, u1, u2⟩ := t2.get hvv
              exact ⟨x, s2.trans u1, u2.mono hρ⟩
            obtain ⟨l1, l2⟩ := g1.add_ro (e := ⟨a.block, a.off, cap * P.cellsOf e, cap * P.cellsOf e⟩) (c := vss.flatten) g4 (fun ρ' hρ => ⟨C, el, fz, k1, hcells ρ' hρ, rfl⟩) (by
              have := k1
              rw [Array.getElem?_eq_some_iff] at this
              exact this.1)
            have haddr : a = ⟨a.block, a.off + 0, none⟩ := by cases a; simp_all
            refine ⟨_, _, [.slc m1.size 0 len cap (P.cellsOf e)], l2, Rho.le_trans g2 l1, g3.trans ⟨by simp, fun b hb => Mem.get_push_lt _ hb, rfl, rfl⟩, g4.push _, .cons _ _ _ _ ?_ .nil, ?_⟩
            · have := VR.slc (ρ := ρ1.put m1.size ⟨a.block, a.off, cap * P.cellsOf e, cap * P.cellsOf e⟩) m1.size 0 len cap cap (P.cellsOf e) _ (Rho.put_same _ _ _) h1 (Nat.le_refl _) (by simp) (by omega) (by simp)
              rw [haddr]; exact this
            · unfold Rd; rw [hu]
              exact .inr ⟨m1.size, len, cap, vss.flatten, rfl, h1, h2, by simp, hfl, fun i hi => (hrd i hi).mono ⟨by simp, fun b hb => Mem.get_push_lt _ hb, rfl, rfl⟩⟩
      · rename_i fs hu
        rw [Bool.and_eq_true, List.all_eq_true] at hp
        obtain ⟨h1, h2⟩ := trod_struct hu hx
        obtain ⟨ρ1, m1, vss, g1, g2, g3, g4, g5⟩ := read_many ih (fs.toList.map fun f => (f.type, (cs.drop f.offset).take (P.cellsOf f.type))) (fun p hp' => by
          obtain ⟨f, hf, rfl⟩ := List.mem_map.1 hp'
          obtain ⟨y, hy⟩ := h2 f hf
          exact ⟨hp.2 f hf, fuel, y, hy⟩) hm ha
        obtain ⟨q1, q2⟩ := flat_rel g5
        have hcs := contig_chunks (P := P) (cs := cs) hp.1 (by omega)
        simp only [List.replicate_zero, List.nil_append] at hcs
        rw [hcs] at q1
        refine ⟨ρ1, m1, vss.flatten, g1, g2, g3, g4, q1, ?_⟩
        unfold Rd; rw [hu]
        rw [List.map_map] at q2
        exact q2
      · rename_i n e hu
        rw [Bool.and_eq_true] at hp
        have hne : n * P.cellsOf e = P.cellsOf t := by simpa using hp.1
        obtain ⟨h1, h2⟩ := trod_array hu hx
        obtain ⟨ρ1, m1, vss, g1, g2, g3, g4, g5⟩ := read_many ih ((List.range n).map fun i => (e, (cs.drop (i * P.cellsOf e)).take (P.cellsOf e))) (fun p hp' => by
          obtain ⟨i, hi, rfl⟩ := List.mem_map.1 hp'
          obtain ⟨y, hy⟩ := h2 i (by simpa using hi)
          exact ⟨hp.2, fuel, y, hy⟩) hm ha
        obtain ⟨q1, q2⟩ := flat_rel g5
        have hcs := even_chunks (n := n) (k := P.cellsOf e) (cs := cs) (by omega)
        simp only [List.map_map, Function.comp_def] at q1 q2
        rw [hcs] at q1
        refine ⟨ρ1, m1, vss.flatten, g1, g2, g3, g4, q1, ?_⟩
        unfold Rd; rw [hu]
        have : (List.range n).map (fun _ => e) = List.replicate n e := by simp [List.map_const']
        rw [this] at q2
        exact q2
      · cases hp

end

end Sim
