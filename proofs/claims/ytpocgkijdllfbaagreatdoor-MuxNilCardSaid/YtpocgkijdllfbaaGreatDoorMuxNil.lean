/-
  MuxNil: whatever the step: a nil multiplexer answers ErrNil and tells nothing, and a screen that is parted in two is what the document says of it: the law answers true. No condition of my own; as the row says, the variables math/bits.deBruijn32tab, math/bits.deBruijn64tab, internal/strconv.uint64pow10, fresco/style.on and fresco/style.off hold what the program's text lays (the card ties them).
-/
import Derived.Test.YtpocgkijdllfbaaGreatDoorM8
import Derived.Test.YtpocgkijdllfbaaGreatDoorN2
import Derived.Test.YtpocgkijdllfbaaGreatDoorFr
import Derived.Test.YtpocgkijdllfbaaGreatDoorTie
import Derived.Test.YtpocgkijdllfbaaGreatDoorCards
import Derived.Laws.IdiomArrays
import Derived.Lay
import Derived.LaidMore
import Derived.MakeChecks
import Derived.SevenTiedAt
import Derived.Stop.Joined
namespace Go.Proofs.YtpocgkijdllfbaaGreatDoor
open Go.ChangeShapes Go.WideShapes Go.ChangeAt Go.RowKit Go.Joins

/-- What lies beside the memory stays, and every block that was there. -/
theorem kept_of {W W' : World} (hb : ∀ c, c < W.heap.size → W'.heap[c]? = W.heap[c]?) (hr : Go.Eng.Rest W W') (may : MemPlace → Prop) : W.keptBut W' may := by
  refine ⟨hr.1, hr.2, fun i hi => ?_⟩
  rw [hb i hi]
  split <;> simp_all

theorem list6 {α : Type} (l : List α) (h : l.length = 6) : ∃ a b c d e f, l = [a, b, c, d, e, f] := by
  match l, h with
  | [a, b, c, d, e, f], _ => exact ⟨a, b, c, d, e, f, rfl⟩

theorem cells_step : Tryz.prog.cellsOf 25 = 6 := by kernel_rfl
theorem types_step : Tryz.prog.cellTypes Tryz.prog.depth 25 = some [3, 3, 3, 3, 4, 23] := by kernel_rfl

set_option maxRecDepth 100000 in
/-- A step, opened. -/
theorem step_open {H : Type} {enc : TypeId × Value → H} {W : World} {base : Nat} {v : Value} {x : DataW H × List MemPlace} {fuel : Nat} (hv : Value.okWide Tryz.prog W .any base 25 v)
    (h : DataW.trod enc Tryz.prog W 0 (fun _ => true) true fuel 25 v.cells.toList = some x) :
    ∃ a b c d on p len cap, v = Go.Eng.stepV a b c d on p len cap ∧ (p = none ∨ ∃ k o, p = some ⟨k, o, none⟩ ∧ len ≤ cap) := by
  obtain ⟨cs, rfl, hsz, hok⟩ : ∃ cs, v = .agg cs ∧ cs.size = Tryz.prog.cellsOf 25 ∧ Row.okWide Tryz.prog W .any base 25 cs := by
    simpa [Value.okWide, Tryz.underlying25] using hv
  rw [cells_step] at hsz
  obtain ⟨l⟩ := cs
  obtain ⟨c0, c1, c2, c3, c4, c5, rfl⟩ := list6 l hsz
  obtain ⟨xs, n, _, _, _, hlen, hx⟩ := DataW.trod_struct Tryz.underlying25 h
  obtain ⟨y0, y1, y2, y3, y4, y5, rfl⟩ := list6 xs hlen
  have k0 := hx 0 _ rfl
  have k1 := hx 1 _ rfl
  have k2 := hx 2 _ rfl
  have k3 := hx 3 _ rfl
  have k4 := hx 4 _ rfl
  have k5 := hx 5 _ rfl
  simp only [List.getElem?_cons_succ, List.getElem?_cons_zero] at k0 k1 k2 k3 k4 k5
  obtain ⟨a, ea, _, _⟩ := DataW.trod_int Tryz.underlying3 k0
  obtain ⟨b, eb, _, _⟩ := DataW.trod_int Tryz.underlying3 k1
  obtain ⟨c, ec, _, _⟩ := DataW.trod_int Tryz.underlying3 k2
  obtain ⟨d, ed, _, _⟩ := DataW.trod_int Tryz.underlying3 k3
  obtain ⟨on, eo, _⟩ := DataW.trod_bool Tryz.underlying4 k4
  obtain rfl := (List.cons.inj ea).1
  obtain rfl := (List.cons.inj eb).1
  obtain rfl := (List.cons.inj ec).1
  obtain rfl := (List.cons.inj ed).1
  obtain rfl := (List.cons.inj eo).1
  rcases DataW.trod_slice Tryz.underlying23 k5 with ⟨e5, _⟩ | ⟨ad, len, cap, _, _, _, _, e5, _, _, hle, _⟩
  · obtain rfl := (List.cons.inj e5).1
    exact ⟨a, b, c, d, on, none, 0, 0, rfl, .inl rfl⟩
  · obtain rfl := (List.cons.inj e5).1
    obtain ⟨ts, t1, _, t2⟩ := hok
    obtain rfl := Option.some.inj (types_step.symm.trans t1)
    obtain ⟨u, u1, u2⟩ := t2 5 (.slice (some ad) len cap) rfl
    obtain rfl := Option.some.inj ((show ([3, 3, 3, 3, 4, 23] : List TypeId)[5 % 6]? = some 23 from rfl).symm.trans u1)
    have u3 : World.has Tryz.prog W .any base ad 5 cap := by
      have := u2
      simp only [Cell.okWide, Cell.ok, Tryz.underlying23] at this
      exact this.2.2
    obtain ⟨_, hs, _⟩ := u3
    obtain ⟨k, o, s⟩ := ad
    obtain rfl : s = none := hs
    exact ⟨a, b, c, d, on, some ⟨k, o, none⟩, len, cap, rfl, .inr ⟨k, o, rfl, hle⟩⟩

set_option maxRecDepth 100000 in
theorem muxNil_lifted (os : Os) (started : os.Started) (H : Type) (enc : TypeId × Value → H) :
    ReturnsInHanded {} Tryz.checked os 4 .any (fun w args => (Rows.muxNilSpec.pre enc Tryz.prog Tryz.f4 [] false w args ∧ laidMetH Tryz.prog Rows.muxNilRow.laid w) ∧ sizedMet enc Tryz.prog Tryz.f4 (OpenSpec.ofChange Rows.muxNilSpec) false w args)
      (Rows.muxNilSpec.post enc Tryz.prog Tryz.f4 false true false false) := by
  refine returnsInHanded_of_change_and (C := Tryz.checked) (X := fun w _ => laidMetH Tryz.prog Rows.muxNilRow.laid w) (fun _ _ _ hh h => h.of_heap hh) Tryz.own started (by kernel_rfl) Tryz.func4
    (ChangeSpec.witness_shaped (enc := enc) (C := Tryz.checked) (os := os) (X := fun w _ => laidMetH Tryz.prog Rows.muxNilRow.laid w) false (World.laidAll Tryz.prog os Rows.muxNilRow.laid) #[.agg #[.int .i64 0, .int .i64 0, .int .i64 0, .int .i64 0, .bool false, .slice none 0 0]] 8 (World.laidAll_os _ _ _)
      (World.shaped_of_ZipB (by kernel_rfl) (by kernel_rfl)) (by kernel_rfl) (by kernel_rfl) (by kernel_rfl)
      (by rw [MakeChecks.laidMetH_plain _ _ _ (by kernel_rfl)]; exact laidMet_laidAll _ (by kernel_rfl) (by kernel_rfl))) ?_
  intro W base args ds gs before hval0 hW _ _ hL _
  have hval : ∀ (j : Nat) t v, Tryz.f4.params[j]? = some t → args[j]? = some v → Value.okWide Tryz.prog W .any base t v := hval0
  have hW' := hW
  obtain ⟨p, q, hA0, hV, rfl, hfz, hnd⟩ := hW
  have hA : DataW.TrodAll enc Tryz.prog W 0 (fun _ => true) true Tryz.f4.params.toList args.toList ds p := hA0
  have hA1 := hA
  rw [Tryz.params4] at hA hval
  obtain ⟨v0, vs0, d0, ds0, p0, q0, hargs, rfl, rfl, h0, r0⟩ := trodAll_cons hA
  obtain ⟨rfl, rfl, rfl⟩ := trodAll_nil r0
  obtain rfl : args = #[v0] := by cases args; simp_all
  obtain ⟨rfl, rfl⟩ := trodVars_none hV
  obtain ⟨fuel, hf⟩ := h0
  obtain ⟨a, b, c, d, on, pp, len, cap, rfl, hp⟩ := step_open (hval 0 25 v0 rfl rfl) hf
  obtain ⟨e0, e1, e2, e3, e4, h5⟩ := Go.Eng.laid5_of hL
  refine (Go.Eng.nil_any h5 hp).mono fun e W' ⟨he, hs, hb, hr⟩ => ?_
  subst he
  have hbel : Below W.heap.size W { W' with tape := W.tape } := ⟨hr.1, rfl, hr.2, hs, hb⟩
  have hrd : (Tryz.f4.params.toList.all fun t => Tryz.prog.readableRec t && decide (t < Tryz.prog.types.size)) = true := by kernel_rfl
  have hA2 := below_trodAll hbel (fun t ht => by have := List.all_eq_true.1 hrd t ht; simpa using this) hA1
  exact ⟨_, rfl, [d0], [], _, [], _, [], hW', trodAll_mk1 (shut_bool Tryz.underlying4 true), hA2.of_heap (by rfl), rfl, kept_of hb hr _, fun h => by cases h⟩

theorem muxNil_said : Rows.MuxNilSaid :=
  OpenClaim.holds_of_wide 4 Tryz.f4 rfl rfl rfl rfl rfl rfl rfl ⟨rfl, rfl, rfl, rfl, rfl⟩ rfl rfl rfl rfl rfl (by kernel_rfl) Tryz.func4 (by kernel_rfl)
    (of_decide_eq_true (by kernel_rfl)) (by unfold Func.isWrapper; rw [if_neg (of_decide_eq_false (by kernel_rfl))]; exact ⟨rfl, rfl⟩)
    (fun os started H enc _ => muxNil_lifted os started H enc)

theorem muxNil_holds : Rows.MuxNilCardSaid :=
  Claim7.holds_tied_plain_at .later [] [.data, .data, .data, .data, .data] true (true, "46464e193f7c24200f45bec0e619fc039b5db18b2f93cba091867fb663893f93") true
    muxNil_said (fun _ h => by cases h) (by kernel_rfl) (fun _ h => by cases h) muxNil_row_tie rfl ⟨rfl, rfl⟩ (by kernel_rfl) rfl
    (fun f fn hf hfn => by
      obtain rfl : f = 4 := Option.some.inj ((show Tryz.prog.funcNamed "fresco/frescolaw28.MuxNil" = some 4 by kernel_rfl).symm.trans hf) |>.symm
      obtain rfl : fn = Tryz.f4 := (Option.some.inj (Tryz.func4.symm.trans hfn)).symm
      exact ⟨by kernel_rfl, fun j t ht => by
        rw [Tryz.params4] at ht
        have hm : t ∈ [25] := by simpa using Array.mem_of_getElem? ht
        have hall : ([25].all fun u => !Tryz.prog.wantsStandIn u) = true := by kernel_rfl
        exact (show Tryz.prog.wantsStandIn t = false by simpa using List.all_eq_true.1 hall t hm)⟩)
    (by kernel_rfl)
#print axioms muxNil_holds
end Go.Proofs.YtpocgkijdllfbaaGreatDoor
