/-
  FdNone: of no descriptors each call says so, and what came in reads as it did. The given statement whole; no condition of its own.
-/
import Derived.Test.YtdmahionfllhnaaGreatDoorFEnd
import Derived.Test.YtdmahionfllhnaaGreatDoorFNone
set_option linter.unusedVariables false
set_option maxRecDepth 100000
namespace Go.Proofs.YtdmahionfllhnaaGreatDoor.fdNone
open Go Sim Go.ChangeShapes Go.WideShapes Go.ChangeAt Go.RowKit Go.Proofs.YtdmahionfllhnaaGreatDoor.ends

theorem plainP : ([50] : List TypeId).all (fun t => plainT PP 8 t && PP.readableRec t && Nat.blt t PP.types.size) = true := by kernel_rfl
theorem agg50 : aggT PP 50 = some true := by kernel_rfl
theorem und50 : ∃ fs, PP.underlying 50 = some (.struct fs) ∧ fs.toList.map (·.type) = [3, 3, 3, 3, 9, 34] := ⟨_, Tryz.underlying50, by kernel_rfl⟩

theorem law (us : List V) (m : Mem) (ha : AllRo m) (h : Two (RdV PP m 8) [50] us) : CallP PP EE OV 9 us m fun v _ => v = .bool true := by
  cases h with | cons _ u _ _ hu t =>
  cases t
  unfold RdV at hu
  rw [agg50] at hu
  obtain ⟨l, rfl, hl⟩ := hu
  unfold Rd at hl
  obtain ⟨fs, h1, h2⟩ := und50
  rw [h1] at hl
  simp only [h2] at hl
  obtain ⟨u1, v1, rfl, r1, u2, v2, rfl, r2, u3, v3, rfl, r3, u4, v4, rfl, r4, u5, v5, rfl, r5, u6, v6, rfl, r6, rfl⟩ := hl
  unfold Rd at r1 r2 r3 r4 r5 r6
  rw [Tryz.underlying3] at r1 r2 r3 r4
  rw [Tryz.underlying9] at r5
  rw [Tryz.underlying34] at r6
  obtain ⟨x1, rfl, _⟩ := r1
  obtain ⟨x2, rfl, _⟩ := r2
  obtain ⟨x3, rfl, _⟩ := r3
  obtain ⟨x4, rfl, _⟩ := r4
  obtain ⟨s, rfl, _⟩ := r5
  rcases r6 with rfl | ⟨b, len, cap, c, rfl, _⟩
  · exact none_law _ _ _ _ _ _ _ _ fun _ => rfl
  · exact none_law _ _ _ _ _ _ _ _ fun _ => rfl

abbrev args : Array Value := #[.agg #[.int .i64 0, .int .i64 0, .int .i64 0, .int .i64 0, .string .empty, .slice none 0 0]]
theorem reads (os : Os) {H : Type} (enc : TypeId × Value → H) : ∃ places, DataW.whole enc Tryz.prog ((laidWorld os).forCall (fun _ _ => 0) ⟨#[], args, []⟩).memory Tryz.f9.params.toList Rows.fdNoneSpec.vars false args.toList 8 =
    some ([.agg [.lit (.int .i64 0), .lit (.int .i64 0), .lit (.int .i64 0), .lit (.int .i64 0), .lit (.string []), .nil]], [], places) := ⟨[], by kernel_rfl⟩

set_option maxRecDepth 100000 in
theorem lifted (os : Os) (started : os.Started) (H : Type) (enc : TypeId × Value → H) (F : Stop.Interp) :
    ReturnsInHanded {} Tryz.checked os 9 .any ((OpenSpec.ofChange Rows.fdNoneSpec).preRow enc Tryz.prog Tryz.f9 Rows.fdNoneRow.domain false Rows.fdNoneRow.laid) (((OpenSpec.ofChange Rows.fdNoneSpec).at F).post enc Tryz.prog Tryz.f9 false true false false) := by
  obtain ⟨places, hx⟩ := reads os enc
  refine returnsInHanded_of_row (C := Tryz.checked) (s := OpenSpec.ofChange Rows.fdNoneSpec) own started (by kernel_rfl) Tryz.func9
    (witness_row_at (enc := enc) (C := Tryz.checked) false (laidWorld os) args rfl (by kernel_rfl) (by kernel_rfl) (by kernel_rfl)
      (OpenSpec.preRow_of_cond 8 hx (by kernel_rfl) (fun k hk => by cases hk) (by kernel_rfl) (laid_met os args))) ?_
  intro W base args ds gs before hval hW _ _ _ hL hsh _
  exact contract_of (s := Rows.fdNoneSpec) [50] rfl (by kernel_rfl) (by kernel_rfl) rfl (fun H ds hd => by
    match ds, hd with
    | [d], _ => exact ⟨rfl, rfl, rfl⟩) plainP law H enc W base args ds gs before hval hW hsh

theorem clo : Tryz.prog.closure 9 = [9, 15, 16, 57, 58, 59, 111, 61, 112, 113, 63, 114, 115, 167, 62, 60, 17, 18, 64, 71, 65, 108, 163, 219, 249, 262, 282, 283, 294, 263, 284, 264, 285, 259, 280, 295, 296, 297, 301, 220, 207, 242, 164, 165, 110, 221, 222, 250, 265, 117, 118, 119, 170, 123, 171, 169, 224, 225, 147, 208, 243, 244, 260, 281, 73, 131, 180, 120, 116, 168, 223, 251, 266, 286, 298, 287, 299, 267, 268, 121, 21, 66, 67, 122, 124, 30, 172, 173, 174, 226, 68, 125, 128, 175, 25, 19, 22, 69, 126, 176, 177, 227, 70, 127, 178, 35, 89, 143, 144, 194, 196, 239, 195, 237, 256, 238, 258, 278, 279, 257, 269, 275, 293, 270, 288, 271, 289, 290, 272, 291, 292, 300, 273, 274, 276, 277, 197, 24, 36, 28, 74, 27, 72, 129, 130, 179, 55] := closure_of (by kernel_rfl)
theorem inPl : Tryz.prog.inPlace 9 = Rows.fdNoneRow.inPlace := by
  unfold Program.inPlace
  rw [clo]; kernel_rfl
theorem unf : Tryz.prog.unfollowed 9 = true := by
  unfold Program.unfollowed
  rw [clo]; kernel_rfl
theorem recs : Tryz.prog.recurses 9 = true := by
  unfold Program.recurses
  rw [unf]; rfl
theorem nam : Tryz.prog.varsNamed 9 = Rows.fdNoneRow.named := by
  unfold Program.varsNamed
  rw [clo]; kernel_rfl
theorem closed : joinedFacts Tryz.pinned.checked.prog 9 Tryz.f9 (OpenSpec.ofChange Rows.fdNoneSpec).bare Rows.fdNoneRow = true := by
  show joinedFacts Tryz.prog 9 Tryz.f9 (OpenSpec.ofChange Rows.fdNoneSpec).bare Rows.fdNoneRow = true
  unfold joinedFacts
  rw [laidOut, mapsOk, inPl, unf, recs, nam]
  kernel_rfl
theorem named : Tryz.prog.funcNamed "coxswain/coxswainlaw24.FdNone" = some 9 := by kernel_rfl

theorem said : Rows.FdNoneSaid :=
  OpenClaim.holds_of_cond 9 Tryz.f9 rfl rfl rfl rfl rfl rfl rfl ⟨rfl, rfl, rfl, rfl, rfl⟩ rfl rfl rfl rfl rfl named Tryz.func9 closed
    (of_decide_eq_true (by kernel_rfl)) (by unfold Func.isWrapper; first | (rw [if_pos (by decide +kernel)]; kernel_rfl) | (rw [if_neg (by decide +kernel)]; exact ⟨rfl, rfl⟩))
    (fun os started H enc _ F => by rw [OpenClaim.pre_eq_preRow]; exact lifted os started H enc F)

theorem looks0 : false = Tryz.prog.looks [] := by kernel_rfl
theorem plain (f : FuncId) (fn : Func) (hf : Tryz.pinned.checked.prog.funcNamed "coxswain/coxswainlaw24.FdNone" = some f) (hfn : Tryz.pinned.checked.prog.funcs[f]? = some fn) :
    false = Tryz.pinned.checked.prog.looks [] ∧ ∀ (j : Nat) t, fn.params[j]? = some t → Tryz.pinned.checked.prog.wantsStandIn t = false := by
  obtain rfl : f = 9 := Option.some.inj (named.symm.trans hf) |>.symm
  obtain rfl : fn = Tryz.f9 := (Option.some.inj (Tryz.func9.symm.trans hfn)).symm
  refine ⟨looks0, fun j t ht => ?_⟩
  rw [Tryz.params9] at ht
  obtain rfl : t = 50 := by simpa using Array.mem_of_getElem? ht
  exact (show Tryz.prog.wantsStandIn 50 = false by kernel_rfl)

/-- THE CARD. -/
theorem wf : Rows.fdNoneRow.wfByText (OpenSpec.ofChange Rows.fdNoneSpec) = true := by kernel_rfl
theorem goes : false = Rows.fdNoneRow.goesBy Tryz.prog := by kernel_rfl
theorem card : Rows.FdNoneCardSaid :=
  Claim7.holds_tied_plain_at .later [] _ _ _ _ said (fun _ h => by cases h) wf (fun _ h => by cases h) fdNone_row_tie rfl ⟨rfl, rfl⟩ (by kernel_rfl) rfl plain goes
end Go.Proofs.YtdmahionfllhnaaGreatDoor.fdNone
