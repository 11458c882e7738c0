/-
  UnixNone: of no system each call says so, and what came in reads as it did. The given statement whole; no condition of its own.
-/
import Derived.Test.YtdmahionfllhnaaGreatDoorFEnd
import Derived.Test.YtdmahionfllhnaaGreatDoorULaw
set_option linter.unusedVariables false
set_option maxRecDepth 100000
namespace Go.Proofs.YtdmahionfllhnaaGreatDoor.unixNone
open Go Sim Go.ChangeShapes Go.WideShapes Go.ChangeAt Go.RowKit Go.Proofs.YtdmahionfllhnaaGreatDoor.ends

theorem plainP : ([72] : List TypeId).all (fun t => plainT PP 8 t && PP.readableRec t && Nat.blt t PP.types.size) = true := by kernel_rfl
abbrev args : Array Value := #[.agg #[.int .i64 0, .int .i64 0, .int .i64 0, .int .i64 0, .int .i64 0, .int .i64 0, .string .empty, .string .empty]]
theorem reads (os : Os) {H : Type} (enc : TypeId × Value → H) : ∃ places, DataW.whole enc Tryz.prog ((laidWorld os).forCall (fun _ _ => 0) ⟨#[], args, []⟩).memory Tryz.f14.params.toList Rows.unixNoneSpec.vars false args.toList 8 =
    some ([.agg [.lit (.int .i64 0), .lit (.int .i64 0), .lit (.int .i64 0), .agg [.lit (.int .i64 0), .lit (.int .i64 0), .lit (.int .i64 0), .lit (.string []), .lit (.string [])]]], [], places) := ⟨[], by kernel_rfl⟩
theorem lifted (os : Os) (started : os.Started) (H : Type) (enc : TypeId × Value → H) (F : Stop.Interp) :
    ReturnsInHanded {} Tryz.checked os 14 .any ((OpenSpec.ofChange Rows.unixNoneSpec).preRow enc Tryz.prog Tryz.f14 Rows.unixNoneRow.domain false Rows.unixNoneRow.laid) (((OpenSpec.ofChange Rows.unixNoneSpec).at F).post enc Tryz.prog Tryz.f14 false true false false) := by
  obtain ⟨places, hx⟩ := reads os enc
  refine returnsInHanded_of_row (C := Tryz.checked) (s := OpenSpec.ofChange Rows.unixNoneSpec) own started (by kernel_rfl) Tryz.func14
    (witness_row_at (enc := enc) (C := Tryz.checked) false (laidWorld os) args rfl (by kernel_rfl) (by kernel_rfl) (by kernel_rfl)
      (OpenSpec.preRow_of_cond 8 hx (by kernel_rfl) (fun k hk => by cases hk) (by kernel_rfl) (laid_met os args))) ?_
  intro W base args ds gs before hval hW _ _ _ hL hsh _
  exact contract_of (s := Rows.unixNoneSpec) [72] rfl (by kernel_rfl) (by kernel_rfl) rfl (fun H ds hd => by
    match ds, hd with
    | [d0], _ => exact ⟨rfl, rfl, rfl⟩) plainP law H enc W base args ds gs before hval hW hsh

theorem clo : Tryz.prog.closure 14 = [14, 38, 39, 57, 61, 112, 113, 63, 114, 115, 167, 62, 60, 90, 40, 91, 50, 17, 41, 92, 145, 198, 240, 241, 199, 200, 201, 202, 203, 204, 205, 206, 18, 64, 71, 65, 108, 163, 219, 249, 262, 282, 283, 294, 263, 284, 264, 285, 259, 280, 295, 296, 297, 301, 220, 207, 242, 164, 165, 110, 221, 222, 250, 265, 117, 118, 119, 170, 123, 171, 169, 224, 225, 147, 208, 243, 244, 260, 281, 73, 131, 180, 120, 116, 168, 223, 251, 266, 286, 298, 287, 299, 267, 268, 121, 93, 27, 66, 72, 128, 129, 130, 179, 55, 94, 22, 69, 122, 126, 172, 176, 177, 226, 227, 70, 127, 178, 21, 67, 124, 30, 173, 174, 68, 125, 175, 19, 25, 95, 146, 96, 148, 209, 245, 261, 97, 149, 98, 150, 35, 89, 143, 144, 194, 196, 239, 195, 237, 256, 238, 258, 278, 279, 257, 269, 275, 293, 270, 288, 271, 289, 290, 272, 291, 292, 300, 273, 274, 276, 277, 197, 99, 151, 100, 54, 109, 166, 101, 152, 154, 212, 246, 211, 210, 42, 24, 43, 102, 153, 36, 28, 74, 52, 49, 53, 45] := closure_of (by kernel_rfl)
theorem inPl : Tryz.prog.inPlace 14 = Rows.unixNoneRow.inPlace := by
  unfold Program.inPlace
  rw [clo]; kernel_rfl
theorem unf : Tryz.prog.unfollowed 14 = true := by
  unfold Program.unfollowed
  rw [clo]; kernel_rfl
theorem recs : Tryz.prog.recurses 14 = true := by
  unfold Program.recurses
  rw [unf]; rfl
theorem nam : Tryz.prog.varsNamed 14 = Rows.unixNoneRow.named := by
  unfold Program.varsNamed
  rw [clo]; kernel_rfl
theorem closed : joinedFacts Tryz.pinned.checked.prog 14 Tryz.f14 (OpenSpec.ofChange Rows.unixNoneSpec).bare Rows.unixNoneRow = true := by
  show joinedFacts Tryz.prog 14 Tryz.f14 (OpenSpec.ofChange Rows.unixNoneSpec).bare Rows.unixNoneRow = true
  unfold joinedFacts
  rw [laidOut, mapsOk, inPl, unf, recs, nam]
  kernel_rfl
theorem named : Tryz.prog.funcNamed "coxswain/coxswainlaw27.UnixNone" = some 14 := by kernel_rfl

theorem said : Rows.UnixNoneSaid :=
  OpenClaim.holds_of_cond 14 Tryz.f14 rfl rfl rfl rfl rfl rfl rfl ⟨rfl, rfl, rfl, rfl, rfl⟩ rfl rfl rfl rfl rfl named Tryz.func14 closed
    (of_decide_eq_true (by kernel_rfl)) (by unfold Func.isWrapper; first | (rw [if_pos (by decide +kernel)]; kernel_rfl) | (rw [if_neg (by decide +kernel)]; exact ⟨rfl, rfl⟩))
    (fun os started H enc _ F => by rw [OpenClaim.pre_eq_preRow]; exact lifted os started H enc F)

theorem looks0 : false = Tryz.prog.looks [] := by kernel_rfl
theorem plain (f : FuncId) (fn : Func) (hf : Tryz.pinned.checked.prog.funcNamed "coxswain/coxswainlaw27.UnixNone" = some f) (hfn : Tryz.pinned.checked.prog.funcs[f]? = some fn) :
    false = Tryz.pinned.checked.prog.looks [] ∧ ∀ (j : Nat) t, fn.params[j]? = some t → Tryz.pinned.checked.prog.wantsStandIn t = false := by
  obtain rfl : f = 14 := Option.some.inj (named.symm.trans hf) |>.symm
  obtain rfl : fn = Tryz.f14 := (Option.some.inj (Tryz.func14.symm.trans hfn)).symm
  refine ⟨looks0, fun j t ht => ?_⟩
  rw [Tryz.params14] at ht
  have hm := Array.mem_of_getElem? ht
  have hall : ([72] : List TypeId).all (fun t => Tryz.prog.wantsStandIn t == false) = true := by kernel_rfl
  rw [List.all_eq_true] at hall
  have h9 : Tryz.prog.wantsStandIn t = false := by simpa using hall t (by simpa using hm)
  exact h9

theorem wf : Rows.unixNoneRow.wfByText (OpenSpec.ofChange Rows.unixNoneSpec) = true := by kernel_rfl
theorem goes : false = Rows.unixNoneRow.goesBy Tryz.prog := by kernel_rfl
/-- THE CARD. -/
theorem card : Rows.UnixNoneCardSaid :=
  Claim7.holds_tied_plain_at .later [] _ _ _ _ said (fun _ h => by cases h) wf (fun _ h => by cases h) unixNone_row_tie rfl ⟨rfl, rfl⟩ (by kernel_rfl) rfl plain goes
end Go.Proofs.YtdmahionfllhnaaGreatDoor.unixNone
