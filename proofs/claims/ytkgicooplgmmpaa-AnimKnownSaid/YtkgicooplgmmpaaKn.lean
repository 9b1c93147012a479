/-
  AnimKnown: what its calls answer.
-/
import Derived.Test.YtkgicooplgmmpaaMd
import Derived.Test.YtkgicooplgmmpaaRk
namespace Go.Proofs.Ytkgicooplgmmpaa
open Go.RowKit

/-- A call answers this very word; it makes draws alone. -/
def WRet (v : Value) (w : World) (e : Ending) (w' : World) : Prop := e = .returned v ∧ ∃ n, w' = w.drewN n
theorem ease_w {way : Int} {x v : Nat} (h : easeP way (fl x) = some v) (w : World) : Calls Try.prog 13 #[.int .i64 way, .float .f64 x] w (WRet (.float .f64 v) w) :=
  (easeP_any way x w).mono fun _ _ ⟨r, n, hr, he, hw⟩ => ⟨by rw [he, fl_inv (hr.trans h)], n, hw⟩
theorem ez_a0 (w : World) : Calls Try.prog 13 #[.int .i64 0, .float .f64 4602678819172646912] w (WRet (.float .f64 4602678819172646912) w) := ease_w (by decide +kernel) w
theorem ez_a1 (w : World) : Calls Try.prog 13 #[.int .i64 1, .float .f64 4602678819172646912] w (WRet (.float .f64 4598175219545276416) w) := ease_w (by decide +kernel) w
theorem ez_a2 (w : World) : Calls Try.prog 13 #[.int .i64 2, .float .f64 4602678819172646912] w (WRet (.float .f64 4604930618986332160) w) := ease_w (by decide +kernel) w
theorem ez_a3 (w : World) : Calls Try.prog 13 #[.int .i64 3, .float .f64 4602678819172646912] w (WRet (.float .f64 4602678819172646912) w) := ease_w (by decide +kernel) w
theorem ez_a4 (w : World) : Calls Try.prog 13 #[.int .i64 4, .float .f64 4602678819172646912] w (WRet (.float .f64 4602678819172646912) w) := ease_w (by decide +kernel) w
theorem ez_a5 (w : World) : Calls Try.prog 13 #[.int .i64 5, .float .f64 4602678819172646912] w (WRet (.float .f64 4605071356474687488) w) := ease_w (by decide +kernel) w
theorem ez_a6 (w : World) : Calls Try.prog 13 #[.int .i64 6, .float .f64 4602678819172646912] w (WRet (.float .f64 0) w) := ease_w (by decide +kernel) w
theorem ez_b0 (w : World) : Calls Try.prog 13 #[.int .i64 3, .float .f64 4598175219545276416] w (WRet (.float .f64 4593671619917905920) w) := ease_w (by decide +kernel) w
theorem ez_b1 (w : World) : Calls Try.prog 13 #[.int .i64 3, .float .f64 4604930618986332160] w (WRet (.float .f64 4606056518893174784) w) := ease_w (by decide +kernel) w
theorem ez_b2 (w : World) : Calls Try.prog 13 #[.int .i64 6, .float .f64 4607182418800017408] w (WRet (.float .f64 4607182418800017408) w) := ease_w (by decide +kernel) w
theorem ez_b3 (w : World) : Calls Try.prog 13 #[.int .i64 9, .float .f64 4598175219545276416] w (WRet (.float .f64 4598175219545276416) w) := ease_w (by decide +kernel) w
theorem ez_b4 (w : World) : Calls Try.prog 13 #[.int .i64 1, .float .f64 9221120237041090561] w (WRet (.float .f64 0) w) := ease_w (by decide +kernel) w
theorem ez_b5 (w : World) : Calls Try.prog 13 #[.int .i64 1, .float .f64 4611686018427387904] w (WRet (.float .f64 4607182418800017408) w) := ease_w (by decide +kernel) w
theorem ez_b6 (w : World) : Calls Try.prog 13 #[.int .i64 2, .float .f64 18442240474082181120] w (WRet (.float .f64 0) w) := ease_w (by decide +kernel) w
theorem nan_any (w : World) : Calls Try.prog 31 #[] w (VRet (.float .f64 9221120237041090561) w) := by
  have h := run_f64from
  go_enter Try.func31, Try.ntmps31
  go_wp2
  go_ret
  exact ⟨rfl, rfl⟩
theorem inf_pos (w : World) : Calls Try.prog 32 #[.int .i64 1] w (VRet (.float .f64 9218868437227405312) w) := by
  have h := run_f64from
  go_enter Try.func32, Try.ntmps32
  go_wp2
  go_ret
  exact ⟨rfl, rfl⟩
theorem inf_neg (w : World) : Calls Try.prog 32 #[.int .i64 (-1)] w (VRet (.float .f64 18442240474082181120) w) := by
  have h := run_f64from
  go_enter Try.func32, Try.ntmps32
  go_wp2
  go_ret
  exact ⟨rfl, rfl⟩

/-- A row of words of the call's own. -/
def WRow (L : List Nat) (w : World) (e : Ending) (w' : World) : Prop := ∃ g c, e = .returned (.tuple #[.slice (some ⟨g, 0, none⟩) L.length c, .int .i64 0]) ∧ w.heap.size ≤ g ∧ g < w'.heap.size ∧ (∀ i v, L[i]? = some v → w'.cell? ⟨g, i, none⟩ = some (.float .f64 v)) ∧ Below w.heap.size w w'
theorem frow_see {w : World} {B : Nat} {v : Value} {bs : List Nat} (h : FRow w B v bs) (h0 : bs ≠ []) : ∃ g c, v = .slice (some ⟨g, 0, none⟩) bs.length c ∧ B ≤ g ∧ g < w.heap.size ∧ ∀ i, i < bs.length → w.cell? ⟨g, i, none⟩ = some (.float .f64 (bs.getD i 0)) := by
  rcases h.2 with ⟨h1, h2⟩ | ⟨g, cap, cur, h1, h2, h3, h4, h5, h6⟩
  · exact absurd (List.eq_nil_of_length_eq_zero h2) h0
  · subst h1
    exact ⟨g, cap, rfl, h2, (Array.getElem?_eq_some_iff.1 h3).1, fun i hi => h.cell rfl i hi⟩
theorem map_fl_inv : ∀ {bs : List Nat} {L : List Nat}, bs.map fl = L.map some → bs = L
  | [], [], _ => rfl
  | b :: bs, l :: L, h => by
    simp only [List.map_cons, List.cons.injEq] at h
    rw [fl_inv h.1, map_fl_inv h.2]
  | [], _ :: _, h => by simp at h
  | _ :: _, [], h => by simp at h
theorem wrow_of {L : List Nat} (hL : L ≠ []) {X : List FL} (hX : X = L.map some) {w : World} {e : Ending} {w' : World} (h : ∃ v bs, e = .returned (.tuple #[v, .int .i64 0]) ∧ FRow w' w.heap.size v bs ∧ bs.map fl = X ∧ Below w.heap.size w w') : WRow L w e w' := by
  obtain ⟨v, bs, he, hr, hb, hbel⟩ := h
  obtain rfl := map_fl_inv (hb.trans hX)
  obtain ⟨g, c, rfl, h1, h2, h3⟩ := frow_see hr hL
  refine ⟨g, c, he, h1, h2, fun i v hv => ?_, hbel⟩
  obtain ⟨hi, hv⟩ := List.getElem?_eq_some_iff.1 hv
  rw [h3 i hi]; simp [hi, hv]
theorem kn_t1 (w : World) : Calls Try.prog 17 #[.int .i64 1, .float .f64 4621819117588971520, .float .f64 0, .int .i64 2] w (WRow [4620130267728707584, 0] w) :=
  (tweenP_ok 1 4621819117588971520 0 2 (by omega) w).mono fun _ _ h => wrow_of (by decide) (by decide +kernel) h
theorem kn_t2 (w : World) : Calls Try.prog 17 #[.int .i64 1, .float .f64 4607182418800017408, .float .f64 4611686018427387904, .int .i64 0] w (fun e w' => ∃ p c, e = .returned (.tuple #[.slice p 0 c, .int .i64 0]) ∧ Below w.heap.size w w') :=
  (tweenP_ok 1 4607182418800017408 4611686018427387904 0 (by omega) w).mono fun _ _ ⟨v, bs, he, hr, hb, hbel⟩ => by
    have : bs = [] := by
      have := congrArg List.length hb
      simp [tweenL] at this
      exact this
    subst this
    rcases hr.2 with ⟨h1, h2⟩ | ⟨g, cap, cur, h1, _⟩
    · subst h1; exact ⟨_, _, he, hbel⟩
    · subst h1; exact ⟨_, _, he, hbel⟩
theorem kn_t3 (w : World) : Calls Try.prog 17 #[.int .i64 1, .float .f64 0, .float .f64 4607182418800017408, .int .i64 (-1)] w (VRet (.tuple #[.slice none 0 0, .int .i64 2]) w) :=
  tweenP_no 1 0 4607182418800017408 (-1) (.inl (by decide)) w
theorem kn_t4 (w : World) : Calls Try.prog 17 #[.int .i64 1, .float .f64 0, .float .f64 4607182418800017408, .int .i64 65537] w (VRet (.tuple #[.slice none 0 0, .int .i64 2]) w) :=
  tweenP_no 1 0 4607182418800017408 65537 (.inr (by decide)) w
theorem tw_mid : tweenV (easeP 0) (fl 0) (fl 4607182418800017408) 65536 32768 = some 4602678819172646912 := by decide +kernel
theorem kn_t5 (w : World) : Calls Try.prog 17 #[.int .i64 0, .float .f64 0, .float .f64 4607182418800017408, .int .i64 65536] w
    (fun e w' => ∃ g c, e = .returned (.tuple #[.slice (some ⟨g, 0, none⟩) 65536 c, .int .i64 0]) ∧ w.heap.size ≤ g ∧ g < w'.heap.size ∧ w'.cell? ⟨g, 65535, none⟩ = some (.float .f64 4607182418800017408) ∧ w'.cell? ⟨g, 32767, none⟩ = some (.float .f64 4602678819172646912) ∧ Below w.heap.size w w') :=
  (tweenP_ok 0 0 4607182418800017408 65536 (by omega) w).mono fun _ _ ⟨v, bs, he, hr, hb, hbel⟩ => by
    have hl : bs.length = 65536 := by
      have := congrArg List.length hb
      simpa [tweenL] using this
    have at_ : ∀ i, i < 65536 → fl (bs.getD i 0) = if i + 1 = 65536 then fl 4607182418800017408 else tweenV (easeP 0) (fl 0) (fl 4607182418800017408) 65536 (i + 1) := by
      intro i hi
      have := congrArg (fun l => l[i]?) hb
      simp only [tweenL, List.getElem?_map, List.getElem?_range hi] at this
      have hi' : i < bs.length := by omega
      rw [List.getElem?_eq_getElem hi'] at this
      simp only [Option.map_some, Option.some.injEq] at this
      rw [← this]
      simp [hi']
    obtain ⟨g, c, rfl, h1, h2, h3⟩ := frow_see hr (by intro h; rw [h] at hl; simp at hl)
    rw [hl] at he
    have e1 := at_ 65535 (by omega)
    rw [if_pos rfl] at e1
    have e2 := at_ 32767 (by omega)
    rw [if_neg (by omega), tw_mid] at e2
    refine ⟨g, c, he, h1, h2, ?_, ?_, hbel⟩
    · rw [h3 65535 (by omega), fl_inv (e1.trans fl1)]
    · rw [h3 32767 (by omega), fl_inv e2]
theorem kn_s1 (w : World) : Calls Try.prog 20 #[spr 4620693217682128896 4616189618054758400 0 4602678819172646912, .int .i64 3] w (WRow [4618441417868443648, 4617315517961601024, 4616752568008179712] w) :=
  (swingP_ok 4620693217682128896 4616189618054758400 0 4602678819172646912 (by decide +kernel) 3 (by omega) w).mono fun _ _ h => wrow_of (by decide) (by decide +kernel) h
theorem kn_s2 (w : World) : Calls Try.prog 20 #[spr 0 0 4652016104934211584 0, .int .i64 1] w (VBel (.tuple #[.slice none 0 0, .int .i64 2]) w) := swingP_bad _ _ _ _ (by decide +kernel) 1 w
theorem kn_s3 (w : World) : Calls Try.prog 20 #[spr 0 0 0 4609434218613702656, .int .i64 1] w (VBel (.tuple #[.slice none 0 0, .int .i64 2]) w) := swingP_bad _ _ _ _ (by decide +kernel) 1 w
theorem kn_s4 (w : World) : Calls Try.prog 20 #[spr 0 0 0 9221120237041090561, .int .i64 1] w (VBel (.tuple #[.slice none 0 0, .int .i64 2]) w) := swingP_bad _ _ _ _ (by decide +kernel) 1 w
theorem kn_s5 (w : World) : Calls Try.prog 20 #[spr 9218868437227405312 0 0 0, .int .i64 1] w (VBel (.tuple #[.slice none 0 0, .int .i64 2]) w) := swingP_bad _ _ _ _ (by decide +kernel) 1 w

theorem restL_none {ok : Nat → Bool} (h : ∀ k, ok k = false) : ∀ f k, restL ok f k = none
  | 0, _ => rfl
  | f + 1, k => by rw [restL, h k]; simpa using restL_none h f (k + 1)
theorem off_fix {c d A B : FL} (h : nextA c d A B = (A, B)) : ∀ k, off c d A B k = (A, B)
  | 0 => rfl
  | k + 1 => by rw [off, off_fix h k]; exact h
theorem fabs_neg1 (A : FL) : fle (fabs A) (fl 13830554455654793216) = false := by
  cases A with
  | none => rfl
  | some x =>
    show fle (some (x % 9223372036854775808)) (some 13830554455654793216) = false
    have hl : x % 9223372036854775808 < 9223372036854775808 := Nat.mod_lt _ (by decide)
    obtain ⟨s1, s2, _⟩ := sr_low hl
    by_cases h : x % 9223372036854775808 ≤ 9218868437227405312
    · rw [fle_some (by rw [s2]; exact h) (by decide), s1, show sr 13830554455654793216 = -4607182418800017408 by decide]
      simp; omega
    · have hn : (D.read (x % 9223372036854775808)).isNaN = true := by
        cases hq : (D.read (x % 9223372036854775808)).isNaN with
        | true => rfl
        | false => exact absurd (s2 ▸ (nan_iff _).1 hq) h
      show (D.order (x % 9223372036854775808) 13830554455654793216 == some .lt || D.order (x % 9223372036854775808) 13830554455654793216 == some .eq) = false
      rw [order_none_left _ _ hn]; rfl
theorem rest1 : restsP (fl 4607182418800017408) (fl 0) (fl 4607182418800017408) (fl 4602678819172646912) (fl 4607182418800017408) = some 0 := by
  rw [restsP, show rightP (fl 4607182418800017408) (fl 0) (fl 4607182418800017408) (fl 4602678819172646912) = true by decide +kernel]
  decide +kernel
theorem rest2 : restsP (fl 4607182418800017408) (fl 0) (fl 4607182418800017408) (fl 4602678819172646912) (fl 9221120237041090561) = none := by
  unfold restsP
  rw [show feq (fl 9221120237041090561) (fl 9221120237041090561) = false by decide +kernel, Bool.and_false]
  rfl
theorem fix3 : nextA (fl 0) (fl 4607182418800017408) (fsub (fl 4607182418800017408) (fl 0)) (fl 0) = (fsub (fl 4607182418800017408) (fl 0), fl 0) := by decide +kernel
theorem rest3 : restsP (fl 4607182418800017408) (fl 0) (fl 0) (fl 4607182418800017408) (fl 4602678819172646912) = none := by
  unfold restsP
  split
  · refine restL_none (fun k => ?_) _ _
    unfold offOk
    rw [off_fix fix3]
    decide +kernel
  · rfl
theorem rest4 : restsP (fl 4607182418800017408) (fl 0) (fl 4607182418800017408) (fl 4602678819172646912) (fl 13830554455654793216) = none := by
  unfold restsP
  split
  · refine restL_none (fun k => ?_) _ _
    unfold offOk okP
    rw [fabs_neg1]; rfl
  · rfl
def RestW (n : Int) (b : Bool) : Value := .tuple #[.int .i64 n, .bool b]
theorem kn_r1 (w : World) : Calls Try.prog 22 #[spr 4607182418800017408 0 4607182418800017408 4602678819172646912, .float .f64 4607182418800017408] w (VBel (RestW 0 true) w) :=
  (restsP_any _ _ _ _ _ w).mono fun _ _ ⟨he, hb⟩ => ⟨by rw [he, rest1]; rfl, hb⟩
theorem kn_r2 (w : World) : Calls Try.prog 22 #[spr 4607182418800017408 0 4607182418800017408 4602678819172646912, .float .f64 9221120237041090561] w (VBel (RestW 0 false) w) :=
  (restsP_any _ _ _ _ _ w).mono fun _ _ ⟨he, hb⟩ => ⟨by rw [he, rest2]; rfl, hb⟩
theorem kn_r3 (w : World) : Calls Try.prog 22 #[spr 4607182418800017408 0 0 4607182418800017408, .float .f64 4602678819172646912] w (VBel (RestW 0 false) w) :=
  (restsP_any _ _ _ _ _ w).mono fun _ _ ⟨he, hb⟩ => ⟨by rw [he, rest3]; rfl, hb⟩
theorem kn_r4 (w : World) : Calls Try.prog 22 #[spr 4607182418800017408 0 4607182418800017408 4602678819172646912, .float .f64 13830554455654793216] w (VBel (RestW 0 false) w) :=
  (restsP_any _ _ _ _ _ w).mono fun _ _ ⟨he, hb⟩ => ⟨by rw [he, rest4]; rfl, hb⟩
theorem mixC_00 (k : Nat) : mixC 0 0 k = 0 := by
  unfold mixC
  rw [show rgbC 0 = none from rfl]
  show (if k < 4602678819172646912 then countC 0 else countC 0) = 0
  rw [show countC 0 = 0 from rfl]; split <;> rfl
theorem kn_b1 (w : World) : Calls Try.prog 28 #[sty 0 0 1, sty 0 0 2, .float .f64 4600877379321698714] w (VBel (sty 0 0 1) w) := by
  have h := blendP_any 0 0 1 0 0 2 (x := 4600877379321698714) (y := 4600877379321698714) (by omega) (by decide +kernel) w
  unfold blendC at h
  rw [mixC_00, if_pos (by omega)] at h
  exact h
theorem kn_b2 (w : World) : Calls Try.prog 28 #[sty 0 0 1, sty 0 0 2, .float .f64 4602678819172646912] w (VBel (sty 0 0 2) w) := by
  have h := blendP_any 0 0 1 0 0 2 (x := 4602678819172646912) (y := 4602678819172646912) (by omega) (by decide +kernel) w
  unfold blendC at h
  rw [mixC_00, if_neg (by omega)] at h
  exact h
theorem kn_c1 (x : Nat) (w : World) : Calls Try.prog 48 #[.float .f64 x] w (VRet (.float .f64 x) w) := by
  go_enter Try.func48, Try.ntmps48
  go_wp2
  go_ret
  exact ⟨rfl, rfl⟩
theorem kn_c0 (w : World) : Calls Try.prog 25 #[.slice none 0 0] w (VBel (.func (.func 48) #[] #[]) w) :=
  (chain_nil w).mono fun _ _ ⟨f, he, hf, hb⟩ => ⟨by rw [he]; exact congrArg Ending.returned hf, hb⟩
end Go.Proofs.Ytkgicooplgmmpaa
