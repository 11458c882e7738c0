/-
  Lemmas of this claim's own: '==' of structs and arrays of numbers, texts and bools, cell by cell. No condition beyond what the function asks of the type.
-/
import Derived.Test.YtdmahionfllhnaaGreatDoorSim3
import Derived.Laws.StructEq
namespace Sim
open Go

def leafsF (P : Program) (rec_ : TypeId → Option (List Lf)) : Nat → List Field → Option (List Lf)
  | _, [] => some []
  | o, f :: r =>
    if f.name = "_" then none else
    if f.offset = o then
      match rec_ f.type, szT P f.type with
      | some ks, some n => if ks.length = n then (leafsF P rec_ (o + n) r).map (ks ++ ·) else none
      | _, _ => none
    else none

/-- The leaves of a type whose values can be compared cell by cell. -/
def leafs (P : Program) : Nat → TypeId → Option (List Lf)
  | 0, _ => none
  | d + 1, t => match P.underlying t with
    | some .bool => some [.b]
    | some (.int _) => some [.i]
    | some .string => some [.s]
    | some (.struct fs) => if P.stoodInHeld t then none else leafsF P (leafs P d) 0 fs.toList
    | some (.array n e) => match leafs P d e, szT P e with
      | some ks, some k => if ks.length = k then some (List.replicate n ks).flatten else none
      | _, _ => none
    | _ => none

def leafsE (P : Program) : EqT := fun t => match aggT P t with
  | some true => if P.eqGuardType P.depth t then none else leafs P 8 t
  | _ => none

def asV (P : Program) (t : TypeId) (xs : List Value) : Value := match aggT P t with
  | some true => .agg xs.toArray
  | _ => xs.headD undef

theorem eqCells_length : ∀ {ks : List Lf} {l k : List V} {b : Bool}, eqCells ks l k = some b → l.length = ks.length ∧ k.length = ks.length
  | [], [], [], _, _ => ⟨rfl, rfl⟩
  | t :: ts, x :: xs, y :: ys, b, h => by
    unfold eqCells at h
    split at h
    · rename_i a c h1 h2
      obtain ⟨q1, q2⟩ := eqCells_length h2
      simp [q1, q2]
    · cases h
  | [], _ :: _, _, _, h => by simp [eqCells] at h
  | [], [], _ :: _, _, h => by simp [eqCells] at h
  | _ :: _, [], _, _, h => by simp [eqCells] at h
  | _ :: _, _ :: _, [], _, h => by simp [eqCells] at h

theorem eqCells_append : ∀ {ks js : List Lf} {l k : List V} {b : Bool}, eqCells (ks ++ js) l k = some b →
    ∃ b1 b2, eqCells ks (l.take ks.length) (k.take ks.length) = some b1 ∧ eqCells js (l.drop ks.length) (k.drop ks.length) = some b2 ∧ b = (b1 && b2)
  | [], js, l, k, b, h => ⟨true, b, by simp [eqCells], by simpa using h, by simp⟩
  | t :: ts, js, l, k, b, h => by
    match l, k, h with
    | x :: xs, y :: ys, h =>
      simp only [List.cons_append, eqCells] at h
      split at h
      · rename_i a c h1 h2
        obtain ⟨b1, b2, q1, q2, q3⟩ := eqCells_append h2
        cases h
        refine ⟨a && b1, b2, ?_, by simpa using q2, by rw [q3, Bool.and_assoc]⟩
        simp only [List.length_cons, List.take_succ_cons, eqCells, h1, q1]
      · cases h
    | [], [], h => simp [eqCells] at h
    | [], _ :: _, h => simp [eqCells] at h
    | _ :: _, [], h => simp [eqCells] at h

theorem run_isAgg' {P : Program} {t : TypeId} {b : Bool} (h : aggT P t = some b) (w : World) : (isAgg t).run P w = .ok b w := by
  unfold aggT at h
  unfold isAgg
  cases hu : P.underlying t with
  | none => rw [hu] at h; cases h
  | some d =>
    rw [hu] at h
    simp only [Sem.run_bind, run_underlying hu, Result.andThen_ok]
    cases d <;> simp at h <;> subst h <;> rfl

theorem run_part {P : Program} {t : TypeId} {b : Bool} {n off : Nat} {cs : Array Value} (ha : aggT P t = some b) (hs : szT P t = some n) (hb : b = false → n = 1) (hle : off + n ≤ cs.size) (w : World) :
    (part t cs off).run P w = .ok (asV P t ((cs.toList.drop off).take n)) w := by
  unfold part asV
  rw [ha]
  simp only [Sem.run_bind, run_isAgg' ha, Result.andThen_ok]
  cases b with
  | true =>
    simp only [if_true, Sem.run_bind, run_sz hs, Result.andThen_ok, Sem.run_pure]
    congr 2
    apply Array.ext'
    simp [Array.toList_extract, List.extract_eq_take_drop]
  | false =>
    have hn := hb rfl
    subst hn
    simp only [Bool.false_eq_true, if_false]
    have : cs[off]? = some cs[off] := Array.getElem?_eq_getElem (by omega)
    rw [this]
    simp only [Sem.run_pure]
    congr 1
    have h2 : (cs.toList.drop off).take 1 = [cs[off]] := by
      rw [List.drop_eq_getElem_cons (by simpa using (by omega : off < cs.size))]
      simp
    rw [h2]; rfl

def eqElems (d : Nat) (e n : Nat) (xs ys : Array Value) : List Nat → Sem Bool
  | [] => pure true
  | i :: r => do
    let a ← part e xs (i * n)
    let b ← part e ys (i * n)
    let q ← Op.equalIn d e a b
    if (!q) = true then pure false else eqElems d e n xs ys r

theorem run_equalIn_array {P : Program} (w : World) (d : Nat) (t e : TypeId) (len n : Nat) (xs ys : Array Value) (ht : P.underlying t = some (.array len e)) (hs : szT P e = some n) :
    (Op.equalIn (d + 1) t (.agg xs) (.agg ys)).run P w = (eqElems d e n xs ys (List.range len)).run P w := by
  simp only [Op.equalIn, Sem.run_bind, run_underlying ht, Result.andThen_ok, run_sz hs, Std.Legacy.Range.forIn_eq_forIn_range', Std.Legacy.Range.size, Nat.sub_zero, Nat.add_sub_cancel, Nat.div_one, List.range_eq_range']
  generalize List.range' 0 len = l
  induction l generalizing w with
  | nil => simp [eqElems]
  | cons i l ih =>
    simp only [List.forIn_cons, eqElems, Sem.run_bind, Sem.run_ite]
    generalize (part e xs (i * n)).run P w = r1
    cases r1 with
    | ok a w1 =>
      simp only [Result.andThen_ok]
      generalize (part e ys (i * n)).run P w1 = r2
      cases r2 with
      | ok b w2 =>
        simp only [Result.andThen_ok]
        generalize (Op.equalIn d e a b).run P w2 = r3
        cases r3 with
        | ok r w3 =>
          cases r
          · simp only [Result.andThen_ok, Bool.not_false, if_true, Sem.run_pure]
          · simp only [Result.andThen_ok, Bool.not_true, Bool.false_eq_true, if_false, Sem.run_pure]
            exact ih w3
        | halt x w3 => simp [Result.andThen]
      | halt x w2 => simp [Result.andThen]
    | halt x w1 => simp [Result.andThen]

theorem leafs_agg {P : Program} {d : Nat} {t : TypeId} {ks : List Lf} (h : leafs P d t = some ks) : ∃ b, aggT P t = some b ∧ (b = false → ks.length = 1) := by
  cases d with
  | zero => cases h
  | succ d =>
    unfold leafs at h
    unfold aggT
    split at h
    all_goals first | (rename_i hu; rw [hu]) | (cases h; done)
    all_goals first
      | (cases h; exact ⟨false, rfl, fun _ => rfl⟩)
      | exact ⟨true, rfl, fun h => by cases h⟩
      | cases h

theorem VRs.take_drop {ρ : Rho} {l : List V} {xs : List Value} (h : VRs ρ l xs) (o n : Nat) : VRs ρ ((l.drop o).take n) ((xs.drop o).take n) := (h.drop o).take n

theorem leafs_sound {P : Program} : ∀ {d : Nat} {t : TypeId} {ks : List Lf}, leafs P d t = some ks → ∀ {fuel : Nat}, d ≤ fuel → ∀ {ρ : Rho} {l k : List V} {xs ys : List Value} {b : Bool}, VRs ρ l xs → VRs ρ k ys → eqCells ks l k = some b → ∀ (w : World),
    (Op.equalIn fuel t (asV P t xs) (asV P t ys)).run P w = .ok b w := by
  intro d
  induction d with
  | zero => intro t ks h; cases h
  | succ d ih =>
    intro t ks h fuel hfu ρ l k xs ys b hx hy hb w
    obtain ⟨fuel, rfl⟩ : ∃ f, fuel = f + 1 := ⟨fuel - 1, by omega⟩
    obtain ⟨hl1, hl2⟩ := eqCells_length hb
    unfold leafs at h
    split at h
    · rename_i hu
      cases h
      have ha : aggT P t = some false := by unfold aggT; rw [hu]
      obtain ⟨x, rfl⟩ := List.length_eq_one_iff.1 hl1
      obtain ⟨y, rfl⟩ := List.length_eq_one_iff.1 hl2
      cases hx with | cons _ xv _ _ hxv tx => cases tx; cases hy with | cons _ yv _ _ hyv ty =>
        cases ty
        unfold asV; rw [ha]
        simp only [List.headD_cons]
        cases x <;> cases y <;> simp [eqCells, eqCell] at hb
        cases hxv; cases hyv; subst hb
        exact run_equalIn_bool' w fuel t _ _ hu
    · rename_i k' hu
      cases h
      have ha : aggT P t = some false := by unfold aggT; rw [hu]
      obtain ⟨x, rfl⟩ := List.length_eq_one_iff.1 hl1
      obtain ⟨y, rfl⟩ := List.length_eq_one_iff.1 hl2
      cases hx with | cons _ xv _ _ hxv tx => cases tx; cases hy with | cons _ yv _ _ hyv ty =>
        cases ty
        unfold asV; rw [ha]
        simp only [List.headD_cons]
        cases x <;> cases y <;> simp [eqCells, eqCell] at hb
        rename_i k1 a k2 c
        cases hxv; cases hyv
        by_cases hk : k1 = k2
        · subst hk
          simp at hb; subst hb
          exact run_equalIn_int w fuel t _ _ _ _ hu
        · simp [hk] at hb
    · rename_i hu
      cases h
      have ha : aggT P t = some false := by unfold aggT; rw [hu]
      obtain ⟨x, rfl⟩ := List.length_eq_one_iff.1 hl1
      obtain ⟨y, rfl⟩ := List.length_eq_one_iff.1 hl2
      cases hx with | cons _ xv _ _ hxv tx => cases tx; cases hy with | cons _ yv _ _ hyv ty =>
        cases ty
        unfold asV; rw [ha]
        simp only [List.headD_cons]
        cases x <;> cases y <;> simp [eqCells, eqCell] at hb
        cases hxv; cases hyv; subst hb
        rw [run_equalIn_string w fuel t _ _ hu, ByteArray.toList_eq, ByteArray.toList_eq]
    · rename_i fs hu
      split at h
      · cases h
      rename_i hst
      have ha : aggT P t = some true := by unfold aggT; rw [hu]
      have hst' : P.stoodInHeld t = false := by simpa using hst
      unfold asV; rw [ha]
      simp only
      have hfo : P.fieldsOf t = fs := by unfold Program.fieldsOf; rw [hu]
      rw [run_equalIn_struct w fuel t xs.toArray ys.toArray (by rw [hfo]; exact hu) hst', hfo]
      have key : ∀ (fl : List Field) (o : Nat) (ks : List Lf), leafsF P (leafs P d) o fl = some ks → ∀ (b : Bool), o + ks.length = xs.length → o + ks.length = ys.length → eqCells ks (l.drop o) (k.drop o) = some b →
          (Op.eqFields fuel xs.toArray ys.toArray fl).run P w = .ok b w := by
        intro fl
        induction fl with
        | nil =>
          intro o ks hks b h1 h2 hq
          simp only [leafsF, Option.some.injEq] at hks
          subst hks
          have e1 : l.drop o = [] := List.drop_eq_nil_of_le (by have := hx.length; simp at h1; omega)
          have e2 : k.drop o = [] := List.drop_eq_nil_of_le (by have := hy.length; simp at h2; omega)
          rw [e1, e2] at hq
          simp [eqCells] at hq
          subst hq
          rfl
        | cons f r ihf =>
          intro o ks hks b h1 h2 hq
          unfold leafsF at hks
          split at hks
          · cases hks
          rename_i hname
          split at hks
          case isFalse => cases hks
          rename_i hoff
          split at hks
          case h_2 => cases hks
          rename_i k1 n hk1 hn
          split at hks
          case isFalse => cases hks
          rename_i hkn
          cases hr : leafsF P (leafs P d) (o + n) r with
          | none => rw [hr] at hks; cases hks
          | some k2 =>
            rw [hr] at hks
            simp only [Option.map_some, Option.some.injEq] at hks
            subst hks
            obtain ⟨b1, b2, q1, q2, rfl⟩ := eqCells_append hq
            rw [List.length_append] at h1 h2
            obtain ⟨ag, hag, hag1⟩ := leafs_agg hk1
            have hb' : ag = false → n = 1 := fun h => by rw [← hkn]; exact hag1 h
            simp only [Op.eqFields]
            rw [if_pos hname]
            rw [hoff]
            simp only [Sem.run_bind, run_part hag hn hb' (show o + n ≤ xs.toArray.size by simp; omega), run_part hag hn hb' (show o + n ≤ ys.toArray.size by simp; omega), Result.andThen_ok]
            rw [hkn] at q1
            have hrec := ih hk1 (show d ≤ fuel by omega) (hx.take_drop o n) (hy.take_drop o n) q1 w
            rw [hrec]
            simp only [Result.andThen_ok]
            cases b1 with
            | false => rfl
            | true =>
              simp only [Bool.not_true, Bool.false_eq_true, if_false, Bool.true_and]
              refine ihf (o + n) k2 hr b2 (by omega) (by omega) ?_
              rw [hkn, List.drop_drop, List.drop_drop] at q2
              exact q2
      exact key fs.toList 0 ks h b (by have := hx.length; omega) (by have := hy.length; omega) (by simpa using hb)
    · rename_i len e hu
      split at h
      case h_2 => cases h
      rename_i k1 n hk1 hn
      split at h
      case isFalse => cases h
      rename_i hkn
      cases h
      have ha : aggT P t = some true := by unfold aggT; rw [hu]
      unfold asV; rw [ha]
      simp only
      rw [run_equalIn_array w fuel t e len n xs.toArray ys.toArray hu hn]
      obtain ⟨ag, hag, hag1⟩ := leafs_agg hk1
      have hb' : ag = false → n = 1 := fun h => by rw [← hkn]; exact hag1 h
      have key : ∀ (m o : Nat) (b : Bool), (o + m) * n = xs.length → (o + m) * n = ys.length → eqCells (List.replicate m k1).flatten (l.drop (o * n)) (k.drop (o * n)) = some b →
          (eqElems fuel e n xs.toArray ys.toArray (List.range' o m)).run P w = .ok b w := by
        intro m
        induction m with
        | zero =>
          intro o b h1 h2 hq
          have e1 : l.drop (o * n) = [] := List.drop_eq_nil_of_le (by have := hx.length; simp at h1; omega)
          have e2 : k.drop (o * n) = [] := List.drop_eq_nil_of_le (by have := hy.length; simp at h2; omega)
          rw [e1, e2] at hq
          simp [eqCells] at hq
          subst hq
          rfl
        | succ m ihm =>
          intro o b h1 h2 hq
          rw [List.replicate_succ, List.flatten_cons] at hq
          obtain ⟨b1, b2, q1, q2, rfl⟩ := eqCells_append hq
          rw [List.range'_succ]
          simp only [eqElems]
          have hmul : o * n + n ≤ (o + (m + 1)) * n := by
            rw [show o + (m + 1) = o + 1 + m from by omega, Nat.add_mul, Nat.add_mul]; omega
          simp only [Sem.run_bind, run_part hag hn hb' (show o * n + n ≤ xs.toArray.size by simp; omega), run_part hag hn hb' (show o * n + n ≤ ys.toArray.size by simp; omega), Result.andThen_ok]
          rw [hkn] at q1
          have hrec := ih hk1 (show d ≤ fuel by omega) (hx.take_drop (o * n) n) (hy.take_drop (o * n) n) q1 w
          rw [hrec]
          simp only [Result.andThen_ok]
          cases b1 with
          | false => rfl
          | true =>
            simp only [Bool.not_true, Bool.false_eq_true, if_false, Bool.true_and]
            refine ihm (o + 1) b2 (by rw [← h1]; congr 1; omega) (by rw [← h2]; congr 1; omega) ?_
            rw [hkn, List.drop_drop, List.drop_drop] at q2
            rw [show (o + 1) * n = o * n + n from by rw [Nat.succ_mul]]
            exact q2
      rw [List.range_eq_range']
      have hlen : (List.replicate len k1).flatten.length = len * n := by simp [hkn]
      exact key len 0 b (by rw [Nat.zero_add, ← hlen]; have := hx.length; omega) (by rw [Nat.zero_add, ← hlen]; have := hy.length; omega) (by simpa using hb)
    · cases h

theorem leafsE_ok (P : Program) : EqOk P (leafsE P) := by
  intro t ks ht ρ l k xs ys b w x y op hop hx hy hb
  unfold leafsE at ht
  split at ht
  case h_2 => cases ht
  rename_i ha
  split at ht
  · cases ht
  rename_i hg
  have hg' : P.eqGuardType P.depth t = false := by simpa using hg
  have hrun := leafs_sound ht (show 8 ≤ 10000 by omega) hx hy hb w
  have e1 : asV P t xs.toList = .agg xs := by unfold asV; rw [ha]
  have e2 : asV P t ys.toList = .agg ys := by unfold asV; rw [ha]
  rw [e1, e2] at hrun
  rw [Sem.run_bind, run_eqGuard_agg w op t x y xs ys hg', Result.andThen_ok]
  rcases hop with rfl | rfl
  · rw [run_eql_struct, hrun]; rfl
  · rw [run_neq_struct, hrun]; rfl

end Sim
