/-
  Lemmas of this claim's own: the forward form's words, as equations to rewrite by. No condition.
-/
import Derived.Test.YtdmahionfllhnaaGreatDoorSim19
namespace Sim
open Go

attribute [simp] Bnd_some
@[simp] theorem Bnd_none {α : Type} (k : α → Prop) : Bnd none k = False := rfl
theorem Bnd_ite {α : Type} (c : Prop) [Decidable c] (a : α) (k : α → Prop) : Bnd (if c then some a else none) k ↔ c ∧ k a := by
  split <;> simp [*]
theorem Bnd_map {α β : Type} (o : Option α) (f : α → β) (k : β → Prop) : Bnd (o.map f) k = Bnd o (fun a => k (f a)) := by cases o <;> rfl

@[simp] theorem Cnd_true (X Y : Prop) : Cnd (.bool true) X Y = X := rfl
@[simp] theorem Cnd_false (X Y : Prop) : Cnd (.bool false) X Y = Y := rfl
theorem Cnd_bool (b : Bool) (X Y : Prop) : Cnd (.bool b) X Y = if b = true then X else Y := by cases b <;> rfl
@[simp] theorem GSplit_true (w : Bool) (X Y : Prop) : GSplit (.bool true) w X Y = if w = true then X else Y := by cases w <;> rfl
@[simp] theorem GSplit_false (w : Bool) (X Y : Prop) : GSplit (.bool false) w X Y = if w = true then Y else X := by cases w <;> rfl
@[simp] theorem pickP_true (a b : Option V) (k : V → Prop) : pickP (.bool true) a b k = Nw a k := rfl
@[simp] theorem pickP_false (a b : Option V) (k : V → Prop) : pickP (.bool false) a b k = Nw b k := rfl
@[simp] theorem GOp_bool (b w : Bool) (F : (V → Mem → Prop) → Prop) (m : Mem) (k : V → Mem → Prop) : GOp (.bool b) w F m k = if b = w then F k else k .und m := rfl
@[simp] theorem GOp_ret (b : Bool) (v : V) (m : Mem) (C : V → Mem → Prop) : GOp (.bool b) true (fun k => k v m) m C = C (if b = true then v else .und) m := by cases b <;> rfl
@[simp] theorem GOp_nret (b : Bool) (v : V) (m : Mem) (C : V → Mem → Prop) : GOp (.bool b) false (fun k => k v m) m C = C (if b = true then .und else v) m := by cases b <;> rfl
theorem GOp_congr {b : Bool} {F F' : (V → Mem → Prop) → Prop} {m : Mem} {C : V → Mem → Prop} (h : b = true → F = F') : GOp (.bool b) true F m C = GOp (.bool b) true F' m C := by
  cases b with
  | true => rw [h rfl]
  | false => rfl
theorem pickP_bool (b : Bool) (x y : V) (k : V → Prop) : pickP (.bool b) (some x) (some y) k = k (if b = true then x else y) := by cases b <;> rfl

section
variable (P : Program) (E : EqT) (t : TypeId) (k : IntKind) (a b : Int) (s u : List UInt8)
@[simp] theorem evBin_ieql : evBin P E .eql t (.int k a) (.int k b) = some (.bool (decide (a = b))) := by simp [evBin, evInt]; rfl
@[simp] theorem evBin_ineq : evBin P E .neq t (.int k a) (.int k b) = some (.bool (decide (a ≠ b))) := by simp [evBin, evInt]; rfl
@[simp] theorem evBin_ilss : evBin P E .lss t (.int k a) (.int k b) = some (.bool (decide (a < b))) := by simp [evBin, evInt]
@[simp] theorem evBin_ileq : evBin P E .leq t (.int k a) (.int k b) = some (.bool (decide (a ≤ b))) := by simp [evBin, evInt]
@[simp] theorem evBin_igtr : evBin P E .gtr t (.int k a) (.int k b) = some (.bool (decide (b < a))) := by simp [evBin, evInt]
@[simp] theorem evBin_igeq : evBin P E .geq t (.int k a) (.int k b) = some (.bool (decide (b ≤ a))) := by simp [evBin, evInt]
@[simp] theorem evBin_iadd : evBin P E .add t (.int k a) (.int k b) = some (.int k (k.wrap (a + b))) := by simp [evBin, evInt]
@[simp] theorem evBin_isub : evBin P E .sub t (.int k a) (.int k b) = some (.int k (k.wrap (a - b))) := by simp [evBin, evInt]
@[simp] theorem evBin_imul : evBin P E .mul t (.int k a) (.int k b) = some (.int k (k.wrap (a * b))) := by simp [evBin, evInt]
@[simp] theorem evBin_iquo : evBin P E .quo t (.int k a) (.int k b) = if b = 0 then none else some (.int k (k.wrap (a.tdiv b))) := by simp [evBin, evInt]
@[simp] theorem evBin_irem : evBin P E .rem t (.int k a) (.int k b) = if b = 0 then none else some (.int k (a.tmod b)) := by simp [evBin, evInt]
@[simp] theorem evBin_seql : evBin P E .eql t (.str s) (.str u) = some (.bool (decide (s = u))) := by simp [evBin, evStr]; by_cases h : s = u <;> simp [h]
@[simp] theorem evBin_sneq : evBin P E .neq t (.str s) (.str u) = some (.bool (decide (s ≠ u))) := by simp [evBin, evStr]; by_cases h : s = u <;> simp [h]
@[simp] theorem evBin_sadd : evBin P E .add t (.str s) (.str u) = if s.length + u.length ≤ 9223372036854775807 then some (.str (s ++ u)) else none := by simp [evBin, evStr]
@[simp] theorem evUn_not (c : Bool) : evUn .not (.bool c) = some (.bool !c) := rfl
@[simp] theorem extractV_tup (l : List V) (i : Nat) : extractV (.tup l) i = l[i]? := rfl
@[simp] theorem nilCheckV_ptr (c o : Nat) : nilCheckV (.ptr c o) = some (.ptr c o) := rfl
end

end Sim
