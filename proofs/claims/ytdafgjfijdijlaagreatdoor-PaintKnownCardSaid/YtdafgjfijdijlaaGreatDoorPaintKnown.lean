/-
  PaintKnown: the examples of the chapter come out as they are told, on every schedule: the law answers true, and it starts no goroutine. No condition of my own; as the row says, the variables that it lists hold what the program's text lays, and the library's pinned tables what the form's constants say (the card ties them; the law's run looks at none of them).
-/
import Derived.Test.YtdafgjfijdijlaaGreatDoorPaintL
import Derived.Test.YtdafgjfijdijlaaGreatDoorPaintF
import Derived.Test.YtdafgjfijdijlaaGreatDoorTie
import Derived.Test.YtdafgjfijdijlaaGreatDoorCards
import Derived.SevenTiedAt
import Derived.Stop.Joined
import Derived.Conc.LeavingOf
import Derived.Leaving
namespace Go.Proofs.YtdafgjfijdijlaaGreatDoor
open Go.ChangeShapes Go.WideShapes Go.ChangeAt Go.RowKit Go.Joins

/-- Who is alone at the return, and quiet, has only others that leave. -/
theorem leaving_of_handed {a : Assume} {C : Checked} {os : Os} {f : FuncId} {r : Reach} {Pre : World → Array Value → Prop} {Post : World → Array Value → Value → World → Prop} (h : ReturnsInHanded a C os f r Pre Post) : ReturnsInLeavingWide a C os f r Pre Post := fun enter => by
  obtain ⟨g0, g1, g2, g3, all⟩ := h enter
  refine ⟨g0, g1, g2, g3, fun w tape i hf => ?_⟩
  obtain ⟨n, v, w', hn, hc, hr, hp, ⟨j, last, hj, hs, hq, hh, he⟩, ha⟩ := all w tape i hf
  exact ⟨n, v, w', hn, hc, hr, hp, ⟨j, last, hj, hs, hh, onlyLeaving_of_quiet hq, he⟩, ha⟩

theorem paintKnown_said : Rows.PaintKnownSaid :=
  OpenClaim.holds_of_wide_leaving 3 Tryz.f3 rfl rfl rfl rfl rfl rfl rfl ⟨rfl, rfl, rfl, rfl, rfl⟩ rfl rfl rfl rfl rfl paint_named Tryz.func3 paint_facts
    (of_decide_eq_true (by kernel_rfl)) (by unfold Func.isWrapper; rw [if_neg (of_decide_eq_false (by kernel_rfl))]; exact ⟨rfl, rfl⟩)
    (fun os started H enc _ => leaving_of_handed (paintKnown_lifted os started H enc))

/-- A tied card whose calls may start goroutines. -/
theorem tied_goes (Lk : Looks) {p : Pinned} {s : OpenSpec} {c : OpenClaim} (al : List (List PathCond)) (kinds : List LaidKind) (tests : Bool) (har : Bool × String) (lk : Bool)
    (hc : c.holds p s) (hal : ∀ D ∈ al, (c.withDomain D).holds p s) (hw : c.wfByText s = true) (hwal : ∀ D ∈ al, (c.withDomain D).wfByText s = true)
    (htie : c.laidByTextAt Lk p kinds tests)
    (hst : c.start = .entering) (hnb : c.noBlocks = false ∧ c.again = false) (hm : p.checked.prog.mainIs = some (har.1, har.2.toList)) (hn : (!har.1 && har.2.isEmpty && !lk) = false)
    (hl : ∀ f fn, p.checked.prog.funcNamed c.func = some f → p.checked.prog.funcs[f]? = some fn → lk = p.checked.prog.looks [] ∧ ∀ (j : Nat) t, fn.params[j]? = some t → p.checked.prog.wantsStandIn t = false)
    (hg : true = c.goesBy p.checked.prog) :
    Claim7.holds p (.plain s) { stood := { row := c, standIns := [], harness := har, looks := lk }, kinds := [], alts := al, goes := true, laidByText := true, laidKinds := kinds, laidTests := tests, laidLooks := Lk } := by
  have h6 : ∀ r : OpenClaim, Claim7.isSixth { stood := { row := r, standIns := [], harness := har, looks := lk }, kinds := [] } = false := fun r => by simpa [Claim7.isSixth] using hn
  refine ⟨Claim7.tied_new_at Lk kinds tests (Claim7.new_of_sixth hc har lk hst hnb hm (h6 c) hl) hw, fun D hD => ?_, htie, (fun h => by cases h), hg⟩
  exact Claim7.tied_new_at Lk kinds tests (Claim7.new_of_sixth (hal D hD) har lk hst hnb hm (h6 _) hl) (hwal D hD)

theorem paintKnown_holds : Rows.PaintKnownCardSaid :=
  tied_goes .later [] [.data, .data, .widerDeep, .widerDeep, .data, .data, .data, .data, .data, .data, .sentinel, .sentinel, .data, .pinned, .pinned, .pinned] true (true, "2c78129dda02172418a1861ceb06d84c05753ea9a9090ed3e8a75bf9dbd329f5") true
    paintKnown_said (fun _ h => by cases h) paint_words (fun _ h => by cases h) paintKnown_row_tie rfl ⟨rfl, rfl⟩ paint_main rfl
    (fun f fn hf hfn => by
      obtain rfl : f = 3 := Option.some.inj (paint_named.symm.trans hf) |>.symm
      obtain rfl : fn = Tryz.f3 := (Option.some.inj (Tryz.func3.symm.trans hfn)).symm
      exact ⟨paint_looks, fun j t ht => by
        rw [Tryz.params3] at ht
        simp at ht⟩)
    paint_goes
#print axioms paintKnown_holds
end Go.Proofs.YtdafgjfijdijlaaGreatDoor
