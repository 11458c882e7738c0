/-
  Lemmas of this claim's own: what a piece of code comes to, said forward, operation by operation. No condition.
-/
import Derived.Test.YtdmahionfllhnaaGreatDoorSim15
namespace Sim
open Go Go.MapKept

def Bnd {α : Type} (o : Option α) (k : α → Prop) : Prop := match o with | some a => k a | none => False
abbrev Nw {α : Type} (o : Option α) (k : α → Prop) : Prop := match o with | some a => k a | none => False
def Cnd (v : V) (X Y : Prop) : Prop := match v with | .bool true => X | .bool false => Y | _ => False

theorem Bnd_some {α : Type} (a : α) (k : α → Prop) : Bnd (some a) k = k a := rfl
theorem Bnd_iff {α : Type} {o : Option α} {k : α → Prop} : Bnd o k ↔ ∃ a, o = some a ∧ k a := by
  cases o <;> simp [Bnd]
theorem Nw_iff {α : Type} {o : Option α} {k : α → Prop} : Nw o k ↔ ∃ a, o = some a ∧ k a := by
  cases o <;> simp [Nw]

def GOp (g : V) (want : Bool) (F : (V → Mem → Prop) → Prop) (m : Mem) (k : V → Mem → Prop) : Prop :=
  match g with
  | .bool b => if b = want then F k else k .und m
  | _ => k .und m
def GSplit (g : V) (want : Bool) (X Y : Prop) : Prop :=
  match g with
  | .bool b => match Bool.decEq b want with | .isTrue _ => X | .isFalse _ => Y
  | _ => False

def pickP (c : V) (a b : Option V) (k : V → Prop) : Prop := match c with | .bool true => Nw a k | .bool false => Nw b k | _ => False
def optE (env : Env) : Option Operand → Option (Option V)
  | none => some none
  | some o => match evX env o with
    | some v => some (some v)
    | none => none
def slcV (P : Program) (t : TypeId) (v : V) (lo hi mx : Option V) (m : Mem) : Option V :=
  (optI lo).bind fun l => (optI hi).bind fun h => (optI mx).bind fun k => sliceV P t v l h k m
def ifaceV (P : Program) (t : TypeId) (v : V) : Option V :=
  match P.underlying t with
  | some (.interface _) => none
  | some _ => some (.iface t v)
  | none => none
def isBytes (P : Program) (s d : TypeId) : Bool :=
  match P.underlying s, P.underlying d with
  | some .string, some (.slice _) => true
  | some (.slice _), some (.slice _) => true
  | _, _ => false

def allocV (t : TypeId) (l : List V) (m : Mem) : Option (V × Mem) := some (.ptr m.size 0, m.var t l)
def newMapV (m : Mem) : Option (V × Mem) := some (.map m.size, m.push (.map []))

section
variable (P : Program) (E : EqT) (ov : OvT)

def CallP (g : Nat) (args : List V) (m : Mem) (K : V → Mem → Prop) : Prop := ∃ k v m', evCall P E ov k g args m = some (v, m') ∧ K v m'

def CallV (f : V) (args : List V) (m : Mem) (K : V → Mem → Prop) : Prop :=
  match f with
  | .fn g first cap => CallP P E ov g (first ++ args ++ cap) m K
  | _ => False

/-- One operation. -/
def W1 (env : Env) (m : Mem) (k : V → Mem → Prop) : Op → Prop
  | .move x | .assign x => Nw (evX env x) fun v => k v m
  | .pick c a b => Nw (evX env c) fun u => pickP u (evX env a) (evX env b) fun v => k v m
  | .load t a => Nw (evX env a) fun p => Bnd (loadV P t p m) fun v => k v m
  | .nilCheck x => Nw (evX env x) fun u => Bnd (nilCheckV u) fun v => k v m
  | .binOp op t x y _ => Nw (evX env x) fun u => Nw (evX env y) fun u' => Bnd (evBin P E op t u u') fun v => k v m
  | .unOp op _ x => Nw (evX env x) fun u => Bnd (evUn op u) fun v => k v m
  | .convert s d x => match isBytes P s d with
    | true => Nw (evX env x) fun u => Bnd (bytesV P s d u m) fun r => k r.1 r.2
    | false => Nw (evX env x) fun u => Bnd (convV P s d u m) fun v => k v m
  | .makeFunc (.func g) first captured => Nw (evXs env first.toList) fun f => Nw (evXs env captured.toList) fun c => k (.fn g f c) m
  | .makeInterface t x => Nw (evX env x) fun u => Nw (ifaceV P t u) fun v => k v m
  | .slice t x lo hi mx => Nw (evX env x) fun u => Nw (optE env lo) fun l => Nw (optE env hi) fun h => Nw (optE env mx) fun q => Bnd (slcV P t u l h q m) fun v => k v m
  | .fieldAddr s x f => Nw (evX env x) fun u => Bnd (fieldAddrV P s u f) fun v => k v m
  | .field t x f => Nw (evX env x) fun u => Bnd (fieldV P t u f) fun v => k v m
  | .indexAddr t x i => Nw (evX env x) fun u => Nw (evX env i) fun q => Bnd (indexAddrV P t u q) fun v => k v m
  | .index t x i => Nw (evX env x) fun u => Nw (evX env i) fun q => Bnd (indexV P t u q) fun v => k v m
  | .lookup t x i ok => Nw (evX env x) fun u => Nw (evX env i) fun q => Bnd (lookupV P t u q ok m) fun v => k v m
  | .extract x i => Nw (evX env x) fun u => Bnd (extractV u i) fun v => k v m
  | .build t ps => Nw (partsX env ps.toList) fun l => Bnd (buildV P t l) fun v => k v m
  | .call { callee := .builtin .len, args, argTypes } => match args.toList, argTypes.toList with
    | [x], [t] => Nw (evX env x) fun u => Bnd (lenV P t u m) fun v => k v m
    | _, _ => False
  | .call { callee := .builtin .min, args, argTypes := _ } => Nw (evXs env args.toList) fun l => Bnd (minmaxV false l) fun v => k v m
  | .call { callee := .builtin .max, args, argTypes := _ } => Nw (evXs env args.toList) fun l => Bnd (minmaxV true l) fun v => k v m
  | .alloc t => Nw (zeroCells P t) fun l => Bnd (allocV t l m) fun r => k r.1 r.2
  | .box t x => Nw (evX env x) fun v => Bnd (allocV t v.cells m) fun r => k r.1 r.2
  | .buildSlice t n ps => Nw (partsX env ps.toList) fun l => Bnd (buildSliceV P t n l m) fun r => k r.1 r.2
  | .makeSlice t l c => Nw (evX env l) fun u => Nw (evX env c) fun v => Bnd (makeSliceV P t u v m) fun r => k r.1 r.2
  | .makeMap _ none => Bnd (newMapV m) fun r => k r.1 r.2
  | .store t p x => Nw (evX env p) fun u => Nw (evX env x) fun v => Bnd (storeV P t u v m) fun r => k .und r
  | .mapUpdate t x q y | .insert t x q y => Nw (evX env x) fun u => Nw (evX env q) fun v => Nw (evX env y) fun z => Bnd (mapUpdV P t u v z m) fun r => k .und r
  | .call { callee := .builtin .append, args, argTypes } => match args.toList, argTypes.toList with
    | [x, y], [t, u] => Nw (evX env x) fun s => Nw (evX env y) fun v => Bnd (appendV P t u s v m) fun r => k r.1 r.2
    | _, _ => False
  | .call { callee := .builtin .copy, args, argTypes } => match args.toList, argTypes.toList with
    | [x, y], [t, _] => Nw (evX env x) fun s => Nw (evX env y) fun v => Bnd (copyV P t s v m) fun r => k r.1 r.2
    | _, _ => False
  | .call { callee := .builtin .delete, args, argTypes } => match args.toList, argTypes.toList with
    | [x, y], [t, _] => Nw (evX env x) fun s => Nw (evX env y) fun v => Bnd (delV P t s v m) fun r => k .und r
    | _, _ => False
  | .call { callee := .builtin .unsafeSliceData, args, argTypes := _ } => match args.toList with
    | [x] => Nw (evX env x) fun u => Bnd (sliceDataV u) fun v => k v m
    | _ => False
  | .call { callee := .builtin .unsafeString, args, argTypes } => match args.toList, argTypes.toList with
    | [x, y], [t, _] => Nw (evX env x) fun s => Nw (evX env y) fun v => Bnd (textV P t s v m) fun r => k r.1 r.2
    | _, _ => False
  | .call { callee := .value f, args, argTypes := _ } => Nw (evX env f) fun u => Nw (evXs env args.toList) fun l => CallV P E ov u l m k
  | _ => False

/-- Does an operation write, make memory, or call? By its kind. -/
def isEff : Op → Bool
  | .alloc _ | .box .. | .buildSlice .. | .makeSlice .. | .makeMap .. | .store .. | .mapUpdate .. | .insert .. => true
  | .convert s d _ => isBytes P s d
  | .call { callee := .builtin .len, .. } | .call { callee := .builtin .min, .. } | .call { callee := .builtin .max, .. } | .call { callee := .builtin .unsafeSliceData, .. } => false
  | .call _ => true
  | _ => false

theorem W1_sound {env f : Env} (hs : Sub env f) {m : Mem} {k : V → Mem → Prop} {op : Op} (h : W1 P E ov env m k op) :
    ∃ i v m', runOp P E (evCall P E ov i) f m op = some (v, m', isEff P op) ∧ k v m' := by
  have X : ∀ x v, evX env x = some v → evX f x = some v := fun x v hx => evX_mono hs hx
  have XS : ∀ l v, evXs env l = some v → evXs f l = some v := fun x v hx => evXs_mono hs hx
  have XP : ∀ l v, partsX env l = some v → partsX f l = some v := fun x v hx => partsX_mono hs hx
  have quiet : ∀ {v : V}, evQ P E f m op = some v → isEff P op = false → k v m → ∃ i v m', runOp P E (evCall P E ov i) f m op = some (v, m', isEff P op) ∧ k v m' := by
    intro v h1 h2 h3
    exact ⟨0, v, m, by unfold runOp; rw [h1, h2], h3⟩
  have eff : ∀ {v : V} {m' : Mem}, evQ P E f m op = none → evE P f m op = some (.val v, m') → isEff P op = true → k v m' → ∃ i v m', runOp P E (evCall P E ov i) f m op = some (v, m', isEff P op) ∧ k v m' := by
    intro v m' h1 h2 h3 h4
    exact ⟨0, v, m', by unfold runOp; rw [h1, h2, h3], h4⟩
  unfold W1 at h
  split at h
  · obtain ⟨v, h1, h⟩ := Nw_iff.1 h; exact quiet (X _ _ h1) rfl h
  · obtain ⟨v, h1, h⟩ := Nw_iff.1 h; exact quiet (X _ _ h1) rfl h
  · obtain ⟨u, h1, h⟩ := Nw_iff.1 h
    unfold pickP at h
    split at h
    · obtain ⟨v, h2, h⟩ := Nw_iff.1 h
      exact quiet (v := v) (by simp only [evQ, X _ _ h1, if_true]; exact X _ _ h2) rfl h
    · obtain ⟨v, h2, h⟩ := Nw_iff.1 h
      exact quiet (v := v) (by simp only [evQ, X _ _ h1]; exact X _ _ h2) rfl h
    · exact h.elim
  · obtain ⟨u, h1, h⟩ := Nw_iff.1 h
    obtain ⟨v, h2, h⟩ := Bnd_iff.1 h
    exact quiet (v := v) (by simp only [evQ, X _ _ h1, Option.bind_some]; exact h2) rfl h
  · obtain ⟨u, h1, h⟩ := Nw_iff.1 h
    obtain ⟨v, h2, h⟩ := Bnd_iff.1 h
    exact quiet (v := v) (by simp only [evQ, X _ _ h1, Option.bind_some]; exact h2) rfl h
  · obtain ⟨u, h1, h⟩ := Nw_iff.1 h
    obtain ⟨u', h1', h⟩ := Nw_iff.1 h
    obtain ⟨v, h2, h⟩ := Bnd_iff.1 h
    exact quiet (v := v) (by simp only [evQ, X _ _ h1, X _ _ h1', Option.bind_some]; exact h2) rfl h
  · obtain ⟨u, h1, h⟩ := Nw_iff.1 h
    obtain ⟨v, h2, h⟩ := Bnd_iff.1 h
    exact quiet (v := v) (by simp only [evQ, X _ _ h1, Option.bind_some]; exact h2) rfl h
  · rename_i s d x
    split at h
    · rename_i hb
      obtain ⟨u, h1, h⟩ := Nw_iff.1 h
      obtain ⟨r, h2, h⟩ := Bnd_iff.1 h
      obtain ⟨r1, r2⟩ := r
      refine eff (v := r1) (m' := r2) ?_ (by simp only [evE, X _ _ h1, Option.bind_some, h2, Option.map_some]) hb h
      simp only [evQ, X _ _ h1, Option.bind_some]
      unfold isBytes at hb
      split at hb
      · rename_i e hs' hd'
        unfold convV
        rw [hs', hd']
      · rename_i e1 e hs' hd'
        unfold convV
        rw [hs', hd']
      · cases hb
    · rename_i hb
      obtain ⟨u, h1, h⟩ := Nw_iff.1 h
      obtain ⟨v, h2, h⟩ := Bnd_iff.1 h
      exact quiet (v := v) (by simp only [evQ, X _ _ h1, Option.bind_some]; exact h2) hb h
  · obtain ⟨u, h1, h⟩ := Nw_iff.1 h
    obtain ⟨v, h2, h⟩ := Nw_iff.1 h
    exact quiet (by simp only [evQ, XS _ _ h1, XS _ _ h2, Option.bind_some, Option.map_some]) rfl h
  · obtain ⟨u, h1, h⟩ := Nw_iff.1 h
    obtain ⟨v, h2, h⟩ := Nw_iff.1 h
    refine quiet (v := v) ?_ rfl h
    unfold ifaceV at h2
    simp only [evQ]
    split at h2
    · cases h2
    · rename_i d hne hd
      rw [hd, X _ _ h1]
      cases d <;> first | exact h2 | exact (hne _ rfl).elim
    · cases h2
  · obtain ⟨u, h1, h⟩ := Nw_iff.1 h
    obtain ⟨l, hl, h⟩ := Nw_iff.1 h
    obtain ⟨hi, hhi, h⟩ := Nw_iff.1 h
    obtain ⟨q, hq, h⟩ := Nw_iff.1 h
    obtain ⟨v, h2, h⟩ := Bnd_iff.1 h
    refine quiet (v := v) ?_ rfl h
    unfold slcV at h2
    obtain ⟨a1, h3, h2⟩ := obind h2
    obtain ⟨a2, h4, h2⟩ := obind h2
    obtain ⟨a3, h5, h2⟩ := obind h2
    have hoe : ∀ (o : Option Operand) (x : Option V) (i : Option Int), optE env o = some x → optI x = some i → optX f o = some i := by
      intro o x i ho hi
      cases o with
      | none => cases ho; exact hi
      | some y =>
        simp only [optE] at ho
        cases hy : evX env y with
        | none => rw [hy] at ho; cases ho
        | some w =>
          rw [hy] at ho; cases ho
          simp only [optX, X _ _ hy]
          cases w <;> simp [optI] at hi ⊢ <;> exact hi
    simp only [evQ, X _ _ h1, hoe _ _ _ hl h3, hoe _ _ _ hhi h4, hoe _ _ _ hq h5, Option.bind_some]
    exact h2
  · obtain ⟨u, h1, h⟩ := Nw_iff.1 h
    obtain ⟨v, h2, h⟩ := Bnd_iff.1 h
    exact quiet (v := v) (by simp only [evQ, X _ _ h1, Option.bind_some]; exact h2) rfl h
  · obtain ⟨u, h1, h⟩ := Nw_iff.1 h
    obtain ⟨v, h2, h⟩ := Bnd_iff.1 h
    exact quiet (v := v) (by simp only [evQ, X _ _ h1, Option.bind_some]; exact h2) rfl h
  · obtain ⟨u, h1, h⟩ := Nw_iff.1 h
    obtain ⟨u', h1', h⟩ := Nw_iff.1 h
    obtain ⟨v, h2, h⟩ := Bnd_iff.1 h
    exact quiet (v := v) (by simp only [evQ, X _ _ h1, X _ _ h1', Option.bind_some]; exact h2) rfl h
  · obtain ⟨u, h1, h⟩ := Nw_iff.1 h
    obtain ⟨u', h1', h⟩ := Nw_iff.1 h
    obtain ⟨v, h2, h⟩ := Bnd_iff.1 h
    exact quiet (v := v) (by simp only [evQ, X _ _ h1, X _ _ h1', Option.bind_some]; exact h2) rfl h
  · obtain ⟨u, h1, h⟩ := Nw_iff.1 h
    obtain ⟨u', h1', h⟩ := Nw_iff.1 h
    obtain ⟨v, h2, h⟩ := Bnd_iff.1 h
    exact quiet (v := v) (by simp only [evQ, X _ _ h1, X _ _ h1', Option.bind_some]; exact h2) rfl h
  · obtain ⟨u, h1, h⟩ := Nw_iff.1 h
    obtain ⟨v, h2, h⟩ := Bnd_iff.1 h
    exact quiet (v := v) (by simp only [evQ, X _ _ h1, Option.bind_some]; exact h2) rfl h
  · obtain ⟨u, h1, h⟩ := Nw_iff.1 h
    obtain ⟨v, h2, h⟩ := Bnd_iff.1 h
    exact quiet (v := v) (by simp only [evQ, XP _ _ h1, Option.bind_some]; exact h2) rfl h
  · split at h
    · rename_i x t ha ht
      obtain ⟨u, h1, h⟩ := Nw_iff.1 h
      obtain ⟨v, h2, h⟩ := Bnd_iff.1 h
      exact quiet (v := v) (by simp only [evQ, ha, ht, X _ _ h1, Option.bind_some]; exact h2) rfl h
    · exact h.elim
  · obtain ⟨u, h1, h⟩ := Nw_iff.1 h
    obtain ⟨v, h2, h⟩ := Bnd_iff.1 h
    exact quiet (v := v) (by simp only [evQ, XS _ _ h1, Option.bind_some]; exact h2) rfl h
  · obtain ⟨u, h1, h⟩ := Nw_iff.1 h
    obtain ⟨v, h2, h⟩ := Bnd_iff.1 h
    exact quiet (v := v) (by simp only [evQ, XS _ _ h1, Option.bind_some]; exact h2) rfl h
  · obtain ⟨l, h1, h⟩ := Nw_iff.1 h
    exact eff (v := .ptr m.size 0) (m' := m.var _ l) rfl (by simp only [evE, h1, Option.map_some, boxV]) rfl h
  · obtain ⟨v, h1, h⟩ := Nw_iff.1 h
    exact eff (v := .ptr m.size 0) (m' := m.var _ v.cells) rfl (by simp only [evE, X _ _ h1, Option.map_some, boxV]) rfl h
  · obtain ⟨l, h1, h⟩ := Nw_iff.1 h
    obtain ⟨r, h2, h⟩ := Bnd_iff.1 h
    exact eff (v := r.1) (m' := r.2) rfl (by simp only [evE, XP _ _ h1, Option.bind_some, h2, Option.map_some]) rfl h
  · obtain ⟨u, h1, h⟩ := Nw_iff.1 h
    obtain ⟨u', h1', h⟩ := Nw_iff.1 h
    obtain ⟨r, h2, h⟩ := Bnd_iff.1 h
    exact eff (v := r.1) (m' := r.2) rfl (by simp only [evE, X _ _ h1, X _ _ h1', Option.bind_some, h2, Option.map_some]) rfl h
  · exact eff (v := .map m.size) (m' := m.push (.map [])) rfl rfl rfl h
  · obtain ⟨u, h1, h⟩ := Nw_iff.1 h
    obtain ⟨u', h1', h⟩ := Nw_iff.1 h
    obtain ⟨r, h2, h⟩ := Bnd_iff.1 h
    exact eff (v := .und) (m' := r) rfl (by simp only [evE, X _ _ h1, X _ _ h1', Option.bind_some, h2, Option.map_some]) rfl h
  · obtain ⟨u, h1, h⟩ := Nw_iff.1 h
    obtain ⟨u', h1', h⟩ := Nw_iff.1 h
    obtain ⟨u2, h2', h⟩ := Nw_iff.1 h
    obtain ⟨r, h2, h⟩ := Bnd_iff.1 h
    exact eff (v := .und) (m' := r) rfl (by simp only [evE, X _ _ h1, X _ _ h1', X _ _ h2', Option.bind_some, h2, Option.map_some]) rfl h
  · obtain ⟨u, h1, h⟩ := Nw_iff.1 h
    obtain ⟨u', h1', h⟩ := Nw_iff.1 h
    obtain ⟨u2, h2', h⟩ := Nw_iff.1 h
    obtain ⟨r, h2, h⟩ := Bnd_iff.1 h
    exact eff (v := .und) (m' := r) rfl (by simp only [evE, X _ _ h1, X _ _ h1', X _ _ h2', Option.bind_some, h2, Option.map_some]) rfl h
  · split at h
    · rename_i x y t u ha ht
      obtain ⟨s, h1, h⟩ := Nw_iff.1 h
      obtain ⟨v, h1', h⟩ := Nw_iff.1 h
      obtain ⟨r, h2, h⟩ := Bnd_iff.1 h
      exact eff (v := r.1) (m' := r.2) rfl (by simp only [evE, ha, ht, X _ _ h1, X _ _ h1', Option.bind_some, h2, Option.map_some]) rfl h
    · exact h.elim
  · split at h
    · rename_i x y t u ha ht
      obtain ⟨s, h1, h⟩ := Nw_iff.1 h
      obtain ⟨v, h1', h⟩ := Nw_iff.1 h
      obtain ⟨r, h2, h⟩ := Bnd_iff.1 h
      exact eff (v := r.1) (m' := r.2) rfl (by simp only [evE, ha, ht, X _ _ h1, X _ _ h1', Option.bind_some, h2, Option.map_some]) rfl h
    · exact h.elim
  · split at h
    · rename_i x y t u ha ht
      obtain ⟨s, h1, h⟩ := Nw_iff.1 h
      obtain ⟨v, h1', h⟩ := Nw_iff.1 h
      obtain ⟨r, h2, h⟩ := Bnd_iff.1 h
      exact eff (v := .und) (m' := r) rfl (by simp only [evE, ha, ht, X _ _ h1, X _ _ h1', Option.bind_some, h2, Option.map_some]) rfl h
    · exact h.elim
  · split at h
    · rename_i x ha
      obtain ⟨u, h1, h⟩ := Nw_iff.1 h
      obtain ⟨v, h2, h⟩ := Bnd_iff.1 h
      exact quiet (v := v) (by simp only [evQ, ha, X _ _ h1, Option.bind_some]; exact h2) rfl h
    · exact h.elim
  · split at h
    · rename_i x y t u ha ht
      obtain ⟨s, h1, h⟩ := Nw_iff.1 h
      obtain ⟨v, h1', h⟩ := Nw_iff.1 h
      obtain ⟨r, h2, h⟩ := Bnd_iff.1 h
      exact eff (v := r.1) (m' := r.2) rfl (by simp only [evE, ha, ht, X _ _ h1, X _ _ h1', Option.bind_some, h2, Option.map_some]) rfl h
    · exact h.elim
  · obtain ⟨u, h1, h⟩ := Nw_iff.1 h
    obtain ⟨l, h2, h⟩ := Nw_iff.1 h
    unfold CallV at h
    split at h
    · obtain ⟨i, v, m', hc, hk⟩ := h
      refine ⟨i, v, m', ?_, hk⟩
      unfold runOp
      simp only [evQ, evE, X _ _ h1, XS _ _ h2, hc, Option.map_some, isEff]
    · exact h.elim
  · exact h.elim

end

end Sim
