/-
  Lemmas of this claim's own: the other operations that leave memory as it is. No condition.
-/
import Derived.Test.YtdmahionfllhnaaGreatDoorSim4
import Derived.MapKept
namespace Sim
open Go Go.MapKept

def fieldAddrV (P : Program) (s : TypeId) (v : V) (f : Nat) : Option V :=
  match P.underlying s, v with
  | some (.struct fs), .ptr b off =>
    match (fs[f]? : Option Field) with
    | some fd => match szT P fd.type with
      | some n => if n = 0 then none else some (.ptr b (off + fd.offset))
      | none => none
    | none => none
  | _, _ => none

theorem fieldAddrV_rel {P : Program} {ρ : Rho} {w : World} {s : TypeId} {p v : V} {x : Value} {f : Nat} (h : fieldAddrV P s p f = some v) (hp : VR ρ p x) :
    ∃ r, (Instr.fieldAt s x f).run P w = .ok r w ∧ VR ρ v r := by
  unfold fieldAddrV at h
  split at h
  case h_2 => cases h
  rename_i fs b off hu
  split at h
  case h_2 => cases h
  rename_i fd hf
  split at h
  case h_2 => cases h
  rename_i n hs
  split at h
  case isTrue => cases h
  rename_i hn
  cases h
  cases hp with
  | ptr _ _ e hb =>
    refine ⟨.pointer (some ⟨e.cb, e.base + (off + fd.offset), none⟩), ?_, .ptr _ _ e hb⟩
    simp only [Instr.fieldAt, Sem.run_bind, run_underlying hu, Result.andThen_ok, hf, Instr.sureAddr, Sem.run_pure, fieldPlace, run_sz hs, if_neg hn, Addr.add_none, Nat.add_assoc]

def fieldV (P : Program) (t : TypeId) (v : V) (f : Nat) : Option V :=
  match P.underlying t, v with
  | some (.struct fs), .agg l =>
    match (fs[f]? : Option Field) with
    | some fd => partV P fd.type l fd.offset
    | none => none
  | _, _ => none

theorem fieldV_rel {P : Program} {ρ : Rho} {w : World} {s : TypeId} {p v : V} {x : Value} {f : Nat} (h : fieldV P s p f = some v) (hp : VR ρ p x) :
    ∃ r, (Instr.field s x f).run P w = .ok r w ∧ VR ρ v r := by
  unfold fieldV at h
  split at h
  case h_2 => cases h
  rename_i fs l hu
  split at h
  case h_2 => cases h
  rename_i fd hf
  cases hp with
  | agg _ xs hxs =>
    obtain ⟨r, h1, h2⟩ := part_rel hxs h w
    exact ⟨r, by simp [Instr.field, run_underlying hu, hf, asAgg, h1], h2⟩

def indexAddrV (P : Program) (t : TypeId) (v i : V) : Option V :=
  match P.underlying t, v, i with
  | some (.slice el), .slc b off len _ sz, .int _ n =>
    if szT P el = some sz ∧ 0 ≤ n ∧ n < (len : Int) then some (.ptr b (off + n.toNat * sz)) else none
  | some (.array len el), .ptr b off, .int _ n =>
    match szT P el with
    | some sz => if 0 ≤ n ∧ n < (len : Int) then some (.ptr b (off + n.toNat * sz)) else none
    | none => none
  | _, _, _ => none

theorem indexAddrV_rel {P : Program} {ρ : Rho} {w : World} {t : TypeId} {p i v : V} {x ix : Value} (h : indexAddrV P t p i = some v) (hp : VR ρ p x) (hi : VR ρ i ix) :
    ∃ r, (Instr.indexAt t x ix).run P w = .ok r w ∧ VR ρ v r := by
  unfold indexAddrV at h
  split at h
  · rename_i el b off len cap sz k n hu
    split at h
    case isFalse => cases h
    rename_i hc
    cases h
    cases hi
    cases hp with
    | slc _ _ _ _ cap' _ e hb =>
      refine ⟨.pointer (some ⟨e.cb, e.base + (off + n.toNat * sz), none⟩), ?_, .ptr _ _ e hb⟩
      simp [Instr.indexAt, run_underlying hu, asIntOf, hc.2.1, hc.2.2, run_sz hc.1, Addr.add_none, Nat.add_assoc]
    | slc0 => omega
  · rename_i len el b off k n hu
    split at h
    case h_2 => cases h
    rename_i sz hs
    split at h
    case isFalse => cases h
    rename_i hc
    cases h
    cases hi
    cases hp with
    | ptr _ _ e hb =>
      refine ⟨.pointer (some ⟨e.cb, e.base + (off + n.toNat * sz), none⟩), ?_, .ptr _ _ e hb⟩
      simp [Instr.indexAt, run_underlying hu, asIntOf, hc.1, hc.2, run_sz hs, Instr.sureAddr, Addr.add_none, Nat.add_assoc]
  · cases h

def indexV (P : Program) (t : TypeId) (v i : V) : Option V :=
  match P.underlying t, v, i with
  | some .string, .str s, .int _ n => if 0 ≤ n then (s[n.toNat]?).map fun b => .int .u8 (b.toNat : Int) else none
  | some (.array len el), .agg l, .int _ n =>
    match szT P el with
    | some sz => if 0 ≤ n ∧ n < (len : Int) then partV P el l (n.toNat * sz) else none
    | none => none
  | _, _, _ => none

theorem indexV_rel {P : Program} {ρ : Rho} {w : World} {t : TypeId} {p i v : V} {x ix : Value} (h : indexV P t p i = some v) (hp : VR ρ p x) (hi : VR ρ i ix) :
    ∃ r, (Instr.index t x ix).run P w = .ok r w ∧ VR ρ v r := by
  unfold indexV at h
  split at h
  · rename_i s k n hu
    cases hi; cases hp
    split at h
    case isFalse => cases h
    rename_i h0
    cases hb : s[n.toNat]? with
    | none => simp [hb] at h
    | some b =>
      simp [hb] at h; subst h
      have hlt : n.toNat < s.length := (List.getElem?_eq_some_iff.1 hb).1
      refine ⟨.int .u8 (b.toNat : Int), ?_, .int _ _⟩
      have hsz : (⟨s.toArray⟩ : ByteArray).size = s.length := by simp [ByteArray.size]
      rw [run_index_string w t _ k n hu, dif_pos ⟨h0, by rw [hsz]; omega⟩]
      have : (⟨s.toArray⟩ : ByteArray)[n.toNat]'(by rw [hsz]; exact hlt) = b := by
        have := (List.getElem?_eq_some_iff.1 hb).2
        rw [← this]; rfl
      rw [this]
  · rename_i len el l k n hu
    split at h
    case h_2 => cases h
    rename_i sz hs
    split at h
    case isFalse => cases h
    rename_i hc
    cases hi
    cases hp with
    | agg _ xs hxs =>
      obtain ⟨r, h1, h2⟩ := part_rel hxs h w
      exact ⟨r, by simp [Instr.index, run_underlying hu, asIntOf, hc.1, hc.2, run_sz hs, h1], h2⟩
  · cases h

def extractV (v : V) (i : Nat) : Option V :=
  match v with
  | .tup l => l[i]?
  | _ => none

theorem extractV_rel {P : Program} {ρ : Rho} {w : World} {p v : V} {x : Value} {i : Nat} (h : extractV p i = some v) (hp : VR ρ p x) :
    ∃ r, (Instr.extract x i).run P w = .ok r w ∧ VR ρ v r := by
  unfold extractV at h
  split at h
  case h_2 => cases h
  cases hp with
  | tup _ xs hxs =>
    obtain ⟨r, h1, h2⟩ := hxs.get h
    have h1' : xs[i]? = some r := by simpa using h1
    exact ⟨r, by simp [Instr.extract, h1'], h2⟩

/-! maps -/

def keyV (d : TypeDesc) : V → Bool
  | .int k _ => match d with | .int k' => k == k' | _ => false
  | .str _ => match d with | .string => true | _ => false
  | .bool _ => match d with | .bool => true | _ => false
  | _ => false

def eqKey : V → V → Bool
  | .int k a, .int k' b => k == k' && a == b
  | .str a, .str b => a == b
  | .bool a, .bool b => a == b
  | _, _ => false

def findE (k : V) : List (V × V) → Nat → Option (Nat × V)
  | [], _ => none
  | (k', v) :: r, i => if eqKey k k' then some (i, v) else findE k r (i + 1)

theorem keyV_isKey {d : TypeDesc} {k : V} {ρ : Rho} {x : Value} (h : keyV d k = true) (hx : VR ρ k x) : IsKey d x := by
  unfold keyV at h
  split at h
  · cases hx; split at h
    · simp at h; subst h; simp [IsKey]
    · cases h
  · cases hx; split at h
    · simp [IsKey]
    · cases h
  · cases hx; split at h
    · simp [IsKey]
    · cases h
  · cases h

theorem ba_beq (a b : List UInt8) : ((⟨a.toArray⟩ : ByteArray) == ⟨b.toArray⟩) = (a == b) := by
  rw [Bool.eq_iff_iff, bytes_beq, beq_iff_eq]
  constructor
  · intro h
    have : a.toArray = b.toArray := congrArg ByteArray.data h
    simpa using this
  · rintro rfl; rfl

theorem sameNow_rel {d : TypeDesc} {k k' : V} {ρ : Rho} {x x' : Value} (h : keyV d k = true) (h' : keyV d k' = true) (hx : VR ρ k x) (hx' : VR ρ k' x') : Instr.sameNow d x x' = some (eqKey k k') := by
  cases k <;> simp [keyV] at h <;> split at h <;> (try cases h) <;> cases hx <;> cases k' <;> simp [keyV] at h' <;> cases hx' <;> simp_all [Instr.sameNow, eqKey, ba_beq]

theorem findE_rel {d : TypeDesc} {k : V} {ρ : Rho} {x : Value} (hk : keyV d k = true) (hx : VR ρ k x) : ∀ {es : List (V × V)} {E : List MapEntry} (i : Nat), ERs ρ es E → (∀ p ∈ es, keyV d p.1 = true) →
    match findE k es i with
    | none => Instr.findNow d x E i = some none
    | some (j, v) => ∃ y, Instr.findNow d x E i = some (some (j, y)) ∧ VR ρ v y ∧ i ≤ j ∧ (∃ k', es[j - i]? = some (k', v) ∧ eqKey k k' = true)
  | [], _, i, .nil, _ => by simp [findE, Instr.findNow]
  | (k', v) :: r, _, i, .cons _ _ e _ xs hk' hv t, hall => by
    have h0 := sameNow_rel hk (hall (k', v) (by simp)) hx hk'
    unfold findE Instr.findNow
    rw [h0]
    cases hq : eqKey k k' with
    | true => exact ⟨e.val, rfl, hv, Nat.le_refl _, k', by simp, hq⟩
    | false =>
      simp only [Bool.false_eq_true, if_false]
      have ih := findE_rel hk hx (i + 1) t (fun p hp => hall p (by simp [hp]))
      split at ih
      · rename_i heq; exact ih
      · rename_i j u heq
        obtain ⟨y, h1, h2, h3, k2, h4, h5⟩ := ih
        refine ⟨y, h1, h2, by omega, k2, ?_, h5⟩
        rw [show j - i = (j - (i + 1)) + 1 from by omega]; simpa using h4

def zeroCells (P : Program) (t : TypeId) : Option (List V) := ((P.info? t).bind (·.zero)).bind fun z => csts z.cells.toList
def zeroV (P : Program) (t : TypeId) : Option V :=
  match (P.info? t).bind (·.zero) with
  | some (.agg xs) => (csts xs.toList).map .agg
  | some z => cst z
  | none => none

theorem zeroV_rel {P : Program} {t : TypeId} {v : V} (h : zeroV P t = some v) (w : World) (ρ : Rho) : ∃ z, (zeroValue t).run P w = .ok z w ∧ VR ρ v z := by
  unfold zeroV at h
  cases hi : P.info? t with
  | none => simp [hi] at h
  | some i =>
    simp only [hi, Option.bind_some] at h
    split at h
    · rename_i xs hz
      cases hc : csts xs.toList with
      | none => simp [hc] at h
      | some l => simp [hc] at h; subst h; exact ⟨.agg xs, by simp [zeroValue, typeInfo, hi, hz], .agg _ _ (csts_rel ρ hc)⟩
    · rename_i z hz hzz
      exact ⟨z, by simp [zeroValue, typeInfo, hi, hzz], cst_rel ρ h⟩
    · cases h

theorem zeroCells_rel {P : Program} {t : TypeId} {l : List V} (h : zeroCells P t = some l) (w : World) (ρ : Rho) : ∃ z, (zeroValue t).run P w = .ok z w ∧ VRs ρ l z.cells.toList := by
  unfold zeroCells at h
  cases hi : P.info? t with
  | none => simp [hi] at h
  | some i =>
    simp only [hi, Option.bind_some] at h
    cases hz : i.zero with
    | none => simp [hz] at h
    | some z => simp only [hz, Option.bind_some] at h; exact ⟨z, by simp [zeroValue, typeInfo, hi, hz], csts_rel ρ h⟩

def mapOf (m : Mem) (v : V) : Option (List (V × V)) :=
  match v with
  | .nilm => some []
  | .map r => match m.get r with
    | some (.map es) => some es
    | _ => none
  | _ => none

theorem mapOf_rel {ρ : Rho} {m : Mem} {w : World} (hm : MR ρ m w) {r : Nat} {e : Ext} {es : List (V × V)} (hr : ρ r = some e) (h : m.get r = some (.map es)) :
    ∃ E clk, w.heap[e.cb]? = some (.map E clk) ∧ ERs ρ es E.toList := by
  have := hm.blk r e hr
  rw [h] at this
  obtain ⟨E, clk, h1, h2, _⟩ := this
  exact ⟨E, clk, h1, h2⟩

def lookupV (P : Program) (t : TypeId) (mv k : V) (ok : Bool) (m : Mem) : Option V :=
  match P.underlying t with
  | some (.map kt et) =>
    match P.underlying kt, mapOf m mv, zeroV P et with
    | some d, some es, some z =>
      if keyV d k && es.all (fun p => keyV d p.1) then
        match findE k es 0 with
        | some (_, v) => some (if ok then .tup [v, .bool true] else v)
        | none => some (if ok then .tup [z, .bool false] else z)
      else none
    | _, _, _ => none
  | _ => none

theorem lookupV_rel {P : Program} {ρ : Rho} {m : Mem} {w : World} (hm : MR ρ m w) {t : TypeId} {mv k v : V} {ok : Bool} {x y : Value} (h : lookupV P t mv k ok m = some v) (hx : VR ρ mv x) (hy : VR ρ k y) :
    ∃ r, (Instr.lookup t x y ok).run P w = .ok r w ∧ VR ρ v r := by
  unfold lookupV at h
  split at h
  case h_2 => cases h
  rename_i kt et hu
  split at h
  case h_2 => cases h
  rename_i d es z hk hes hz
  split at h
  case isFalse => cases h
  rename_i hc
  simp only [Bool.and_eq_true, List.all_eq_true] at hc
  obtain ⟨zv, hz1, hz2⟩ := zeroV_rel hz w ρ
  have hck : ∀ em, (Instr.checkKey em 10000 kt y).run P w = .ok () w := fun em => run_checkKey hk (keyV_isKey hc.1 hy) em 9999
  have tail : ∀ (E : Array MapEntry), ERs ρ es E.toList → ∃ r, VR ρ v r ∧
      (((Instr.findKey kt y E.toList).run P w = .ok none w ∧ r = if ok then .tuple #[zv, .bool false] else zv) ∨
       ∃ j u, (Instr.findKey kt y E.toList).run P w = .ok (some (j, u)) w ∧ r = if ok then .tuple #[u, .bool true] else u) := by
    intro E hE
    have hf := findE_rel hc.1 hy 0 hE (fun p hp => hc.2 p hp)
    split at hf
    · rename_i heq
      rw [heq] at h
      simp only [Option.some.injEq] at h
      subst h
      refine ⟨if ok then .tuple #[zv, .bool false] else zv, ?_, .inl ⟨run_findKey hk hf, rfl⟩⟩
      cases ok with
      | false => simpa using hz2
      | true => exact .tup _ _ (.cons _ _ _ _ hz2 (.cons _ _ _ _ (.bool _) .nil))
    · rename_i j u heq
      rw [heq] at h
      simp only [Option.some.injEq] at h
      subst h
      obtain ⟨yv, h1, h2, _⟩ := hf
      refine ⟨if ok then .tuple #[yv, .bool true] else yv, ?_, .inr ⟨j, yv, run_findKey hk h1, rfl⟩⟩
      cases ok with
      | false => simpa using h2
      | true => exact .tup _ _ (.cons _ _ _ _ h2 (.cons _ _ _ _ (.bool _) .nil))
  unfold mapOf at hes
  split at hes
  · cases hes; cases hx
    obtain ⟨r, h1, ⟨h2, rfl⟩ | ⟨j, u, h2, rfl⟩⟩ := tail #[] .nil
    · exact ⟨_, by simp at h2; simp [Instr.lookup, run_underlying hu, hck, h2, hz1], h1⟩
    · exact ⟨_, by simp at h2; simp [Instr.lookup, run_underlying hu, hck, h2], h1⟩
  · rename_i r0
    split at hes
    · cases hes
      rename_i hg
      cases hx with
      | map _ e hr =>
        obtain ⟨E, clk, h1, h2⟩ := mapOf_rel hm hr hg
        obtain ⟨r, h3, ⟨h4, rfl⟩ | ⟨j, u, h4, rfl⟩⟩ := tail E h2
        · exact ⟨_, by simp [Instr.lookup, run_underlying hu, run_getObj_map h1, hck, h4, hz1], h3⟩
        · exact ⟨_, by simp [Instr.lookup, run_underlying hu, run_getObj_map h1, hck, h4], h3⟩
    · cases hes
  · cases hes

def lenV (P : Program) (t : TypeId) (v : V) (m : Mem) : Option V :=
  match P.underlying t, v with
  | some .string, .str s => some (.int .i64 s.length)
  | some (.slice _), .slc _ _ len _ _ => some (.int .i64 len)
  | some (.slice _), .nils => some (.int .i64 0)
  | some (.array n _), _ => some (.int .i64 n)
  | some (.pointer arr), _ => match P.underlying arr with
    | some (.array n _) => some (.int .i64 n)
    | _ => none
  | some (.map _ _), mv => (mapOf m mv).map fun es => .int .i64 es.length
  | _, _ => none

theorem ERs.length {ρ : Rho} : ∀ {l : List (V × V)} {xs : List MapEntry}, ERs ρ l xs → l.length = xs.length
  | _, _, .nil => rfl
  | _, _, .cons _ _ _ _ _ _ _ t => by simp [ERs.length t]

theorem lenV_rel {P : Program} {ρ : Rho} {m : Mem} {w : World} (hm : MR ρ m w) {t ty : TypeId} {p v : V} {x : Value} (h : lenV P t p m = some v) (hp : VR ρ p x) :
    ∃ r, (Builtin.len_ #[t] ty #[x]).run P w = .ok r w ∧ VR ρ v r := by
  unfold lenV at h
  split at h
  · rename_i s hu
    cases h; cases hp
    refine ⟨_, by simp [Builtin.len_, run_underlying hu, goInt]; rfl, ?_⟩
    have hsz : (⟨s.toArray⟩ : ByteArray).size = s.length := by simp [ByteArray.size]
    rw [hsz]; exact .int _ _
  · rename_i hu
    cases h
    cases hp with
    | slc => exact ⟨_, by simp [Builtin.len_, run_underlying hu, goInt], .int _ _⟩
    | slc0 => exact ⟨_, by simp [Builtin.len_, run_underlying hu, goInt], .int _ _⟩
  · rename_i hu
    cases h; cases hp
    exact ⟨_, by simp [Builtin.len_, run_underlying hu, goInt], .int _ _⟩
  · rename_i n el hu
    cases h
    exact ⟨_, by simp [Builtin.len_, run_underlying hu, goInt], .int _ _⟩
  · rename_i arr hu
    split at h
    · rename_i n el hua
      cases h
      exact ⟨_, by simp [Builtin.len_, run_underlying hu, run_underlying hua, goInt], .int _ _⟩
    · cases h
  · rename_i kt et hu
    unfold mapOf at h
    split at h
    · cases hp; simp at h; subst h
      exact ⟨_, by simp [Builtin.len_, run_underlying hu, goInt], .int _ _⟩
    · rename_i r0
      split at h
      · rename_i es hg
        simp at h; subst h
        cases hp with
        | map _ e hr =>
          obtain ⟨E, clk, h1, h2⟩ := mapOf_rel hm hr hg
          refine ⟨.int .i64 E.size, by simp [Builtin.len_, run_underlying hu, goInt, run_getObj_map h1], ?_⟩
          have := h2.length
          rw [this]; simp; exact .int _ _
      · simp at h
    · simp at h
  · cases h

/-- min and max of two numbers. -/
def minmaxV (mx : Bool) : List V → Option V
  | [.int k x, .int _ y] => some (.int k (if mx then (if y > x then y else x) else (if y < x then y else x)))
  | _ => none

end Sim
