/-
  frescolaw20.alone at an input of one row of any width up to 60: its contract, out of the runs by the abstract machine.
-/
import Derived.Test.YtpnjlfnejjjncaaGreatDoorCa26
import Derived.Test.YtpnjlfnejjjncaaGreatDoorCa38
set_option linter.unusedVariables false
set_option linter.unusedSimpArgs false
set_option linter.unusedSectionVars false
namespace Go.Proofs.YtpnjlfnejjjncaaGreatDoor
open Go.RowKit Go.Eng

def AlPost (n col : Nat) (ts : List ByteArray) (w : World) (e : Ending) (w' : World) : Prop :=
  ∃ D o c, e = .returned (.tuple #[.agg #[.int .i64 n, .int .i64 1, .slice (some ⟨D, o, none⟩) n c, .int .i64 col, .int .i64 0, .bool true], .bool true]) ∧ At w' D o (rowL ts) ∧ Below w.heap.size w w'
theorem okAl_inv {n : Nat} {r : Out} (h : okAl n r = true) : ∃ w hh sl x y sh ok A, r = .val (.tuple ⟨[.agg ⟨[w, hh, sl, x, y, sh]⟩, ok]⟩) A := by
  cases r with
  | code e F A => exact absurd (show false = true from h) Bool.false_ne_true
  | none => exact absurd (show false = true from h) Bool.false_ne_true
  | val v A =>
    cases v with
    | tuple t =>
      obtain ⟨l⟩ := t
      rcases l with _ | ⟨a, _ | ⟨k, _ | ⟨m, l⟩⟩⟩
      · exact absurd (show false = true from h) Bool.false_ne_true
      · cases a with
        | agg c =>
          obtain ⟨c⟩ := c
          rcases c with _ | ⟨y1, _ | ⟨y2, _ | ⟨y3, _ | ⟨y4, _ | ⟨y5, _ | ⟨y6, _ | ⟨y7, c⟩⟩⟩⟩⟩⟩⟩ <;> exact absurd (show false = true from h) Bool.false_ne_true
        | _ => exact absurd (show false = true from h) Bool.false_ne_true
      · cases a with
        | agg c =>
          obtain ⟨c⟩ := c
          rcases c with _ | ⟨y1, _ | ⟨y2, _ | ⟨y3, _ | ⟨y4, _ | ⟨y5, _ | ⟨y6, _ | ⟨y7, c⟩⟩⟩⟩⟩⟩⟩
          · exact absurd (show false = true from h) Bool.false_ne_true
          · exact absurd (show false = true from h) Bool.false_ne_true
          · exact absurd (show false = true from h) Bool.false_ne_true
          · exact absurd (show false = true from h) Bool.false_ne_true
          · exact absurd (show false = true from h) Bool.false_ne_true
          · exact absurd (show false = true from h) Bool.false_ne_true
          · exact ⟨y1, y2, y3, y4, y5, y6, k, A, rfl⟩
          · exact absurd (show false = true from h) Bool.false_ne_true
        | _ => exact absurd (show false = true from h) Bool.false_ne_true
      · cases a with
        | agg c =>
          obtain ⟨c⟩ := c
          rcases c with _ | ⟨y1, _ | ⟨y2, _ | ⟨y3, _ | ⟨y4, _ | ⟨y5, _ | ⟨y6, _ | ⟨y7, c⟩⟩⟩⟩⟩⟩⟩ <;> exact absurd (show false = true from h) Bool.false_ne_true
        | _ => exact absurd (show false = true from h) Bool.false_ne_true
    | _ => exact absurd (show false = true from h) Bool.false_ne_true
theorem good_al : fnGood Tryz.prog 5 = true := by kernel_rfl
set_option maxRecDepth 100000 in
theorem alone_gen [Env] {n : Nat} {s : ByteArray} {x : Int} (hV : Vals n s x) (hn : 1 ≤ n ∧ n ≤ 60) (hs : s.size ≤ 255) (hl : ∀ b ∈ s.data.toList, lett b) (hx : -9223372036854775808 ≤ x ∧ x ≤ 9223372036854775807)
    (EB : Nat) (W : World) (hE : Bk1 W EB [.int .i64 0, .string s, .int .i64 x] 41) (hG : Tryz.prog.globals.size ≤ W.heap.size) :
    Calls Tryz.prog 5 ⟨[.agg ⟨inpL⟩, .int .i64 n, .int .i64 1, .agg ⟨[.int .i64 0, .slice (some ⟨EB, 0, none⟩) 1 1]⟩]⟩ W (AlPost n (vcol (car x s.size) n) (txts s x n) W) := by
  have hal := al_all n hn
  generalize hr : alRun n = r at hal
  obtain ⟨wv, hv, sl, xv, yv, shv, okv, A1, rfl⟩ := okAl_inv hal
  have hal' : (beqVs [wv, hv, xv, yv, shv, okv] [.int .i64 n, .int .i64 1, tokV 3, .int .i64 0, .bool true, .bool true] && (match slN n sl with
    | some (b, o) => cellsAre A1 b o (cels n 0)
    | none => false)) = true := hal
  simp only [Bool.and_eq_true] at hal'
  obtain ⟨hal1, hal2⟩ := hal'
  have hl1 := beqVs_eq _ _ hal1
  simp only [List.cons.injEq, and_true] at hl1
  obtain ⟨rfl, rfl, rfl, rfl, rfl, rfl⟩ := hl1
  split at hal2 <;> try (simp at hal2; done)
  rename_i b o hsl
  have hr2 : ev Tryz.prog (knP n) 100001 (.call 5 (alArgs n) (insA Tryz.prog.globals.size 1 [alIn EB])) = _ := hr
  clear hr
  obtain ⟨fn, c, f1, f2, f3⟩ := fnGood_spec good_al
  have hR : R Tryz.prog W.heap.size (sgI Tryz.prog.globals.size [alIn EB]) (insA Tryz.prog.globals.size 1 [alIn EB]) W := by
    refine ins_R rfl hG (Nat.le_refl _) (by simp) (fun y hy => ?_) (fun i j y z hi hj _ => ?_) (fun i y hi _ => ?_) (fun i y hi hk => ?_)
    · simp only [List.mem_cons, List.not_mem_nil, or_false] at hy
      subst hy
      exact ⟨by simp [alIn], [.int .i64 0, .string s, .int .i64 x], hE, .cons (.atom rfl) (.cons (by rw [← hV.v0]; exact .tok) (.cons (by rw [← hV.v1]; exact .tok) .nil))⟩
    · have h1 := (List.getElem?_eq_some_iff.1 hi).1
      have h2 := (List.getElem?_eq_some_iff.1 hj).1
      simp at h1 h2
      omega
    · have h1 := (List.getElem?_eq_some_iff.1 hi).1
      simp at h1
      subst h1
      simp at hi
      subst hi
      exact hE.lt
    · have h1 := (List.getElem?_eq_some_iff.1 hi).1
      simp at h1
      omega
  have hargs : VRs (sgI Tryz.prog.globals.size [alIn EB]) (alArgs n) [.agg ⟨inpL⟩, .int .i64 n, .int .i64 1, .agg ⟨[.int .i64 0, .slice (some ⟨EB, 0, none⟩) 1 1]⟩] :=
    .cons (closed_VR _ _ rfl) (.cons (.atom rfl) (.cons (.atom rfl) (.cons (.agg (.cons (.atom rfl) (.cons (.slice (m := ⟨EB, 0, 3, 1⟩) (sgI_at (G := Tryz.prog.globals.size) (l := [alIn EB]) (i := 0) rfl) (Nat.le_refl _) (Nat.le_refl _) (.inl rfl) (.inl rfl)) .nil))) .nil)))
  refine Calls.mono (ev_calls (knP_ok hV hn hs hl hx) mixed f1 f2 f3 rfl hr2 hR hargs) fun e W1 ⟨σ1, v', he, hR1, hX, hvv⟩ => ?_
  obtain ⟨l1, rfl, hv1⟩ := tuple_inv hvv
  obtain ⟨s1, m1, rfl, t1, hv2⟩ := hv1.snoc_inv
  obtain ⟨o1, m2, rfl, t2, hv3⟩ := hv2.snoc_inv
  obtain rfl := nil_inv hv3
  obtain rfl := VR.eq_of_closed t2 rfl
  obtain ⟨l2, rfl, q1⟩ := agg_inv t1
  obtain ⟨y1, k1, rfl, p1, q2⟩ := q1.snoc_inv
  obtain ⟨y2, k2, rfl, p2, q3⟩ := q2.snoc_inv
  obtain ⟨y3, k3, rfl, p3, q4⟩ := q3.snoc_inv
  obtain ⟨y4, k4, rfl, p4, q5⟩ := q4.snoc_inv
  obtain ⟨y5, k5, rfl, p5, q6⟩ := q5.snoc_inv
  obtain ⟨y6, k6, rfl, p6, q7⟩ := q6.snoc_inv
  obtain rfl := nil_inv q7
  obtain rfl := VR.eq_of_closed p1 rfl
  obtain rfl := VR.eq_of_closed p2 rfl
  obtain rfl := VR.eq_of_closed p5 rfl
  obtain rfl := VR.eq_of_closed p6 rfl
  obtain rfl := tok_inv p4
  obtain ⟨m, cc, hm, rfl⟩ := slN_spec p3 hsl
  obtain ⟨l', w1, w2⟩ := cellsAre_spec hR1 hm hal2
  have hrow : l' = rowL (txts s x n) := cels_inv (σ := σ1) (txts s x n) 0 l' (fun j t hj => by rw [Nat.zero_add]; exact hV.v10 j t hj) (by rw [txts_len]; exact w1)
  subst hrow
  rw [hV.v3] at he
  refine ⟨m.c, o + m.δ, cc, he, at_of ?_ w2, ⟨hX.rest.1, hX.rest.2.2, hX.rest.2.1, hX.size, fun c hc => hX.frame c hc ?_⟩⟩
  · intro h0
    have := congrArg List.length h0
    rw [rowL_len, txts_len] at this
    simp at this
    omega
  · rintro ⟨b, m, e1, e2, e3, e4⟩
    have h1 : b < Tryz.prog.globals.size + 1 := hR.dom b e1
    have h2 : Tryz.prog.globals.size + 1 ≤ b := e4
    omega

def valP (n : Nat) (s : ByteArray) (x : Int) : Nat → Value
  | 0 => .string s
  | 1 => .int .i64 x
  | 2 => .string (shown s x n)
  | 3 => .int .i64 (vcol (car x s.size) n : Nat)
  | k + 4 => .string ((txts s x n).getD (k - 6) ⟨#[]⟩)
abbrev envP (n : Nat) (s : ByteArray) (x : Int) : Env where
  val := valP n s x
  one := fun k => by
    match k with
    | 0 => exact ⟨rfl, rfl⟩
    | 1 => exact ⟨rfl, rfl⟩
    | 2 => exact ⟨rfl, rfl⟩
    | 3 => exact ⟨rfl, rfl⟩
    | k + 4 => exact ⟨rfl, rfl⟩
  nb := fun k b h => by
    match k with
    | 0 => cases h
    | 1 => cases h
    | 2 => cases h
    | 3 => cases h
    | k + 4 => cases h
theorem vals_P (n : Nat) (s : ByteArray) (x : Int) : @Vals (envP n s x) n s x :=
  @Vals.mk (envP n s x) n s x rfl rfl rfl rfl (fun i t h => by
    show valP n s x (10 + i) = _
    rw [show 10 + i = (i + 6) + 4 by omega]
    show Value.string ((txts s x n).getD (i + 6 - 6) ⟨#[]⟩) = _
    rw [show i + 6 - 6 = i by omega, List.getD_eq_getElem?_getD, h]
    rfl)
theorem alone_any (n : Nat) (s : ByteArray) (x : Int) (hn : 1 ≤ n ∧ n ≤ 60) (hs : s.size ≤ 255) (hl : ∀ b ∈ s.data.toList, lett b) (hx : -9223372036854775808 ≤ x ∧ x ≤ 9223372036854775807)
    (EB : Nat) (W : World) (hE : Bk1 W EB [.int .i64 0, .string s, .int .i64 x] 41) (hG : Tryz.prog.globals.size ≤ W.heap.size) :
    Calls Tryz.prog 5 #[.agg inpL.toArray, .int .i64 n, .int .i64 1, .agg #[.int .i64 0, .slice (some ⟨EB, 0, none⟩) 1 1]] W (AlPost n (vcol (car x s.size) n) (txts s x n) W) :=
  @alone_gen (envP n s x) n s x (vals_P n s x) hn hs hl hx EB W hE hG
end Go.Proofs.YtpnjlfnejjjncaaGreatDoor
