/- AnimChain: what a chain answers is what its links make, the first one first; each of its functions is called once. No condition. -/
import Derived.SizedLaws
import Derived.Deep.Slices
import Derived.ChangeArms
import Derived.Test.YtkgicooplgmmpaaFr
import Derived.Test.YtkgicooplgmmpaaHSpr
import Derived.Test.YtkgicooplgmmpaaCw
namespace Go.Proofs.Ytkgicooplgmmpaa
open Go.ChangeShapes Go.WideShapes Go.ChangeAt Go.RowKit Go.Joins Go.Deep

section
variable {H : Type} {enc : TypeId × Value → H} {W : World} {spare : Nat → Bool} {held : Bool} {base : Nat}

theorem cellsLink : Try.prog.cellsOf 42 = 4 := by kernel_rfl
theorem bytesLink : Try.prog.bytesOf 42 = 32 := by kernel_rfl
theorem cellsFloat : Try.prog.cellsOf 22 = 1 := by kernel_rfl

theorem add_none (g o i : Nat) : (⟨g, o, none⟩ : Addr).add i = ⟨g, o + i, none⟩ := by
  unfold Addr.add
  split
  · rename_i h; subst h; rfl
  · rfl

theorem open_fls {r : Reach} {b0 : Nat} {v : Value} {d : DataW H} {p : List MemPlace} (hv : Value.okWide Try.prog W r b0 26 v) (h : DataW.Trod enc Try.prog W base spare held 26 v d p) : ∃ bs, FlSee W v bs := by
  obtain ⟨a, len, cap, rfl⟩ := okWide_slice Try.underlying26 hv
  obtain ⟨fuel, hf⟩ := h
  rcases open_slice1 Try.underlying26 cellsFloat hf with ⟨e, _⟩ | ⟨a', len', cap', m, n, V, D, Pl, e, _, hl, hm, hmm, _, hx⟩
  · simp [Value.cells] at e
    obtain ⟨rfl, rfl, rfl⟩ := e
    exact ⟨[], none, 0, rfl, by simp, fun i hi => by simp at hi⟩
  · simp [Value.cells] at e
    obtain ⟨rfl, rfl, rfl⟩ := e
    have hlm : len ≤ m := by rw [hmm]; split <;> omega
    have hF : ∀ i, i < len → ∃ b, V i = .float .f64 b := fun i hi => by
      obtain ⟨b, e, _⟩ := trod_float Try.underlying22 (hx i (by omega)).2
      exact ⟨b, by simpa using e⟩
    obtain ⟨B, hB⟩ := choose_lt hF
    refine ⟨(List.range len).map B, some a', cap, by simp, by simp [maxLen] at hm; simp; omega, fun i hi => ?_⟩
    simp at hi
    have hc := (hx i (by omega)).1
    have hs := World.cell?_spot (hx 0 (by omega)).1
    have hlt := World.block_lt_of_cell? _ _ (hx 0 (by omega)).1
    obtain ⟨g, o, spot⟩ := a'
    have : spot = none := by simpa [Addr.add] using hs
    subst this
    refine ⟨g, o, rfl, by simpa [Addr.add] using hlt, ?_⟩
    rw [← add_none, hc, hB i hi]
    simp [hi]

instance : Inhabited Lk := ⟨⟨0, 0, true, 0⟩⟩
set_option maxRecDepth 100000 in
theorem open_links {r : Reach} {b0 : Nat} {v : Value} {d : DataW H} {p : List MemPlace} (hv : Value.okWide Try.prog W r b0 39 v) (h : DataW.Trod enc Try.prog W base spare held 39 v d p) :
    ∃ ls, (ls = [] ∨ ∃ es ss, d = .slice es ss ∧ es.length = ls.length) ∧ (ls.length ≤ 4398046511104 → LkSee W v ls) := by
  obtain ⟨a, len, cap, rfl⟩ := okWide_slice Try.underlying39 hv
  obtain ⟨fuel, hf⟩ := h
  rcases open_slice Try.underlying39 hf with ⟨e, _⟩ | ⟨a', len', cap', m, n, D, Pl, e, _, hl, hm, hmm, hd, hx⟩
  · simp [Value.cells] at e
    obtain ⟨rfl, rfl, rfl⟩ := e
    exact ⟨[], .inl rfl, fun _ => ⟨none, 0, rfl, by simp, fun i l hi => by simp at hi⟩⟩
  · simp [Value.cells] at e
    obtain ⟨rfl, rfl, rfl⟩ := e
    have hlm : len ≤ m := by rw [hmm]; split <;> omega
    have hsp : 0 < len → a'.spot = none := fun h => by
      obtain ⟨cs', h1, _⟩ := hx 0 (by omega)
      rw [cellsLink] at h1
      obtain ⟨_, hlen, hcell⟩ := World.cells?_some h1
      have e0 := hcell 0 (by omega)
      rw [List.getElem?_eq_getElem (by omega)] at e0
      simpa [Addr.add] using World.cell?_spot e0
    have hF : ∀ i, i < len → ∃ q : Lk × Nat × Nat, a' = ⟨q.2.1, q.2.2, none⟩ ∧ q.2.1 < W.heap.size ∧ BoxAt W q.2.1 (q.2.2 + i * 4) q.1 := fun i hi => by
      obtain ⟨cs', h1, h2⟩ := hx i (by omega)
      rw [cellsLink] at h1
      obtain ⟨_, hlen, hcell⟩ := World.cells?_some h1
      obtain ⟨y0, y1, y2, y3, n', _, _, h0, h1', h2', h3⟩ := trod_struct4 Try.underlying42 h2
      match cs', hlen with
      | [c0, c1, c2, c3], _ =>
        have e0 := hcell 0 (by omega)
        have e1 := hcell 1 (by omega)
        have e2 := hcell 2 (by omega)
        have e3 := hcell 3 (by omega)
        have hs := hsp (by omega)
        have hlt := World.block_lt_of_cell? _ _ e0
        obtain ⟨g, o, spot⟩ := a'
        simp only at hs
        subst hs
        rw [add_none, add_none] at e0 e1 e2 e3
        rw [add_none, add_none] at hlt
        obtain ⟨t, q0, _⟩ := trod_float Try.underlying22 h0
        obtain ⟨p', q1, _⟩ := trod_float Try.underlying22 h1'
        obtain ⟨nn, q2, _⟩ := DataW.trod_bool Try.underlying4 h2'
        obtain ⟨way, q3, _⟩ := DataW.trod_int Try.underlying3 h3
        have k1 : Try.prog.cellsOf 22 = 1 := by kernel_rfl
        have k2 : Try.prog.cellsOf 4 = 1 := by kernel_rfl
        have k3 : Try.prog.cellsOf 3 = 1 := by kernel_rfl
        simp [k1, k2, k3] at q0 q1 q2 q3
        subst q0; subst q1; subst q2; subst q3
        refine ⟨⟨⟨t, p', nn, way⟩, g, o⟩, rfl, hlt, ?_⟩
        exact ⟨e0, e1, e2, e3⟩
    obtain ⟨B, hB⟩ := choose_lt hF
    simp only [Prod.mk.injEq] at hd
    refine ⟨(List.range len).map fun i => (B i).1, .inr ⟨_, _, hd.1, by simp⟩, fun hlen => ⟨some a', cap, by simp, hlen, fun i l hi => ?_⟩⟩
    have hil : i < len := by
      rcases Nat.lt_or_ge i len with h | h
      · exact h
      · rw [List.getElem?_eq_none (by simpa using h)] at hi; cases hi
    simp [hil] at hi
    subst hi
    obtain ⟨e, hlt, hb⟩ := hB i hil
    exact ⟨(B i).2.1, (B i).2.2, by rw [e], hlt, hb⟩
end

set_option maxRecDepth 100000 in
theorem animChain_lifted (os : Os) (started : os.Started) (H : Type) (enc : TypeId × Value → H) :
    ReturnsInHanded {} Try.checked os 7 .any (Rows.animChainSpec.pre6 enc Try.prog Try.f7 Rows.animChainRow.domain false) (Rows.animChainSpec.post enc Try.prog Try.f7 false true false false) := by
  refine returnsInHanded_of_change_sized (C := Try.checked) Try.own started (by kernel_rfl) Try.func7
    (ChangeSpec.witness6 (enc := enc) (C := Try.checked) false ⟨#[], #[.slice none 0 0, .slice none 0 0], []⟩ 8 (by kernel_rfl) (by kernel_rfl) (by kernel_rfl) (by kernel_rfl)) ?_
  intro W base args ds gs before hval0 hW _ hsz0 _
  have hval : ∀ (j : Nat) t v, Try.f7.params[j]? = some t → args[j]? = some v → Value.okWide Try.prog W .any base t v := hval0
  have hsz : (DataW.weightsEach Try.prog (Try.f7.params.toList ++ Rows.animChainSpec.plain.varTypes Try.prog) (ds ++ gs)).all (· ≤ reachBytes) = true := hsz0
  have hW' := hW
  obtain ⟨p, q, hA0, hV, rfl, hfz, hnd⟩ := hW
  have hA : DataW.TrodAll enc Try.prog W 0 (fun _ => true) true Try.f7.params.toList args.toList ds p := hA0
  rw [Try.params7] at hA hval hsz
  obtain ⟨v0, v1, d0, d1, p0, p1, rfl, rfl, rfl, h0, h1⟩ := trodAll_two hA
  obtain ⟨rfl, rfl⟩ := trodVars_none hV
  obtain ⟨ls, hd, hls⟩ := open_links (hval 0 39 v0 rfl rfl) h0
  obtain ⟨bs, hbs⟩ := open_fls (hval 1 26 v1 rfl rfl) h1
  have hlen : ls.length ≤ 4398046511104 := by
    rcases hd with rfl | ⟨es, ss, hd, he⟩
    · simp
    · have := sized_slice hsz (j := 0) (t := 39) (e := 42) rfl (by rw [hd]; rfl) Try.underlying39
      rw [bytesLink] at this
      simp only [reachBytes] at this
      omega
  refine (lawChain_any ls bs v0 v1 W (hls hlen) hbs).mono fun e W' ⟨he, hb⟩ => ?_
  subst he
  exact ⟨_, rfl, law_post rfl rfl hW' rfl rfl rfl (by kernel_rfl) hb⟩

theorem animChain_holds : Rows.AnimChainSaid :=
  OpenClaim.holds_of_wide 7 Try.f7 rfl rfl rfl rfl rfl rfl rfl ⟨rfl, rfl, rfl, rfl, rfl⟩ rfl rfl rfl rfl rfl (by kernel_rfl) Try.func7 (by kernel_rfl)
    (of_decide_eq_true (by kernel_rfl)) (by unfold Func.isWrapper; rw [if_neg (of_decide_eq_false (by kernel_rfl))]; exact ⟨rfl, rfl⟩)
    (fun os started H enc _ => animChain_lifted os started H enc)
end Go.Proofs.Ytkgicooplgmmpaa
