/-
  MuxNames: the numbers that this layer leans on are what the statement says, and a screen that is parted in two is what the document says of it: the law answers true. No condition of my own; as the row says, the variables math/bits.deBruijn32tab, math/bits.deBruijn64tab, internal/strconv.uint64pow10, fresco/style.on and fresco/style.off hold what the program's text lays (the card ties them).
-/
import Derived.Test.YtpocgkijdllfbaaGreatDoorM8
import Derived.Test.YtpocgkijdllfbaaGreatDoorTie
import Derived.Test.YtpocgkijdllfbaaGreatDoorCards
import Derived.WalkKit
import Derived.ProofKit
import Derived.OpenShut
import Derived.Laws.Cover2
import Derived.Lib.SmallJoins
import Derived.Laws.IdiomArrays
import Derived.Lay
import Derived.LaidMore
import Derived.MakeChecks
import Derived.SevenTiedAt
import Derived.Stop.Joined
namespace Go.Proofs.YtpocgkijdllfbaaGreatDoor
open Go.ChangeShapes Go.WideShapes Go.ChangeAt Go.RowKit Go.Joins

theorem Tryz.own : ownKnob Tryz.prog.godebug = none := by kernel_rfl
theorem Tryz.laidOut : laidOutB Tryz.prog = true := by kernel_rfl

/-- What lies beside the memory stays, and every block that was there. -/
theorem kept_of {W W' : World} (hs : W.heap.size ≤ W'.heap.size) (hb : ∀ c, c < W.heap.size → W'.heap[c]? = W.heap[c]?) (hr : Go.Eng.Rest W W') (may : MemPlace → Prop) : W.keptBut W' may := by
  refine ⟨hr.1, hr.2, fun i hi => ?_⟩
  rw [hb i hi]
  split <;> simp_all

set_option maxRecDepth 100000 in
theorem muxNames_lifted (os : Os) (started : os.Started) (H : Type) (enc : TypeId × Value → H) :
    ReturnsInHanded {} Tryz.checked os 3 .any (fun w args => (Rows.muxNamesSpec.pre enc Tryz.prog Tryz.f3 [] false w args ∧ laidMetH Tryz.prog Rows.muxNamesRow.laid w) ∧ sizedMet enc Tryz.prog Tryz.f3 (OpenSpec.ofChange Rows.muxNamesSpec) false w args)
      (Rows.muxNamesSpec.post enc Tryz.prog Tryz.f3 false true false false) := by
  refine returnsInHanded_of_change_and (C := Tryz.checked) (X := fun w _ => laidMetH Tryz.prog Rows.muxNamesRow.laid w) (fun _ _ _ hh h => h.of_heap hh) Tryz.own started (by kernel_rfl) Tryz.func3
    (ChangeSpec.witness_shaped (enc := enc) (C := Tryz.checked) (os := os) (X := fun w _ => laidMetH Tryz.prog Rows.muxNamesRow.laid w) false (World.laidAll Tryz.prog os Rows.muxNamesRow.laid) #[] 8 (World.laidAll_os _ _ _)
      (World.shaped_of_ZipB (by kernel_rfl) (by kernel_rfl)) (by kernel_rfl) (by kernel_rfl) (by kernel_rfl)
      (by rw [MakeChecks.laidMetH_plain _ _ _ (by kernel_rfl)]; exact laidMet_laidAll _ (by kernel_rfl) (by kernel_rfl))) ?_
  intro W base args ds gs before hval0 hW _ _ hL _
  have hW' := hW
  obtain ⟨p, q, hA0, hV, rfl, hfz, hnd⟩ := hW
  have hA : DataW.TrodAll enc Tryz.prog W 0 (fun _ => true) true Tryz.f3.params.toList args.toList ds p := hA0
  rw [Tryz.params3] at hA
  obtain ⟨hargs, rfl, rfl⟩ := trodAll_nil hA
  obtain rfl : args = #[] := by cases args; simp_all
  obtain ⟨rfl, rfl⟩ := trodVars_none hV
  obtain ⟨e0, e1, e2, e3, e4, h5⟩ := Go.Eng.laid5_of hL
  refine (Go.Eng.names_any h5).mono fun e W' ⟨he, hs, hb, hr⟩ => ?_
  subst he
  exact ⟨_, rfl, [], [], _, [], [], [], hW', trodAll_mk1 (shut_bool Tryz.underlying4 true), rfl, rfl, kept_of hs hb hr _, fun h => by cases h⟩

theorem muxNames_said : Rows.MuxNamesSaid :=
  OpenClaim.holds_of_wide 3 Tryz.f3 rfl rfl rfl rfl rfl rfl rfl ⟨rfl, rfl, rfl, rfl, rfl⟩ rfl rfl rfl rfl rfl (by kernel_rfl) Tryz.func3 (by kernel_rfl)
    (of_decide_eq_true (by kernel_rfl)) (by unfold Func.isWrapper; rw [if_neg (of_decide_eq_false (by kernel_rfl))]; exact ⟨rfl, rfl⟩)
    (fun os started H enc _ => muxNames_lifted os started H enc)

theorem muxNames_holds : Rows.MuxNamesCardSaid :=
  Claim7.holds_tied_plain_at .later [] [.data, .data, .data, .data, .data] true (true, "46464e193f7c24200f45bec0e619fc039b5db18b2f93cba091867fb663893f93") true
    muxNames_said (fun _ h => by cases h) (by kernel_rfl) (fun _ h => by cases h) muxNames_row_tie rfl ⟨rfl, rfl⟩ (by kernel_rfl) rfl
    (fun f fn hf hfn => by
      obtain rfl : f = 3 := Option.some.inj ((show Tryz.prog.funcNamed "fresco/frescolaw28.MuxNames" = some 3 by kernel_rfl).symm.trans hf) |>.symm
      obtain rfl : fn = Tryz.f3 := (Option.some.inj (Tryz.func3.symm.trans hfn)).symm
      exact ⟨by kernel_rfl, fun j t ht => by
        rw [Tryz.params3] at ht
        simp at ht⟩)
    (by kernel_rfl)
#print axioms muxNames_holds
end Go.Proofs.YtpocgkijdllfbaaGreatDoor
