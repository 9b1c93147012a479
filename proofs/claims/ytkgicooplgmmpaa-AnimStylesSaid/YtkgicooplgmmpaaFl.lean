/-
  Floats up to their NaNs: a word that is no number is none, any other word is itself. What each operation on words gives, in these terms, and how the walk steps over it without a split.
-/
import Derived.WalkKit
import Derived.WalkSpells
import Derived.WalkLawsBesides
import Derived.Lib.Hide
namespace Go.Proofs.Ytkgicooplgmmpaa
open Go.RowKit

abbrev FL := Option Nat
def D : Ieee.Format := Ieee.double

/-- A word, its NaN forgotten. -/
def fl (b : Nat) : FL := if (D.read b).isNaN then none else some b

def lift2 (f : Nat → Nat → Option Nat) (x y : FL) : FL := x.bind fun a => y.bind fun b => f a b
def fadd (x y : FL) : FL := lift2 D.add x y
def fsub (x y : FL) : FL := lift2 D.sub x y
def fmul (x y : FL) : FL := lift2 D.mul x y
def fdiv (x y : FL) : FL := lift2 D.div x y
def ford (x y : FL) : Option Ordering := x.bind fun a => y.bind fun b => D.order a b
def feq (x y : FL) : Bool := ford x y == some .eq
def flt (x y : FL) : Bool := ford x y == some .lt
def fgt (x y : FL) : Bool := ford x y == some .gt
def fle (x y : FL) : Bool := ford x y == some .lt || ford x y == some .eq
def fge (x y : FL) : Bool := ford x y == some .gt || ford x y == some .eq

theorem read_word_le (f : Ieee.Format) (s : Bool) (r : Nat) (h : r ≤ f.infRung) : (f.read (f.word s r)).isNaN = false := by
  have hlt : r < f.signWeight := Nat.lt_of_le_of_lt h (Ieee.Format.infRung_lt f)
  have h2 : f.word s r % f.signWeight = r := by
    unfold Ieee.Format.word
    cases s
    · simp [Nat.mod_eq_of_lt hlt]
    · simp [Nat.mod_eq_of_lt hlt]
  unfold Ieee.Format.read
  rw [h2]
  simp only
  split
  · rfl
  · split
    · rfl
    · split
      · rfl
      · omega

theorem nearest_num (f : Ieee.Format) (s : Bool) (m : Nat) (e : Int) : (f.read (f.nearest s m e)).isNaN = false := by
  unfold Ieee.Format.nearest
  split
  · exact read_word_le f s 0 (Nat.zero_le _)
  · exact read_word_le f s _ (Nat.min_le_right _ _)

theorem write_num (f : Ieee.Format) (d : Ieee.Datum) (h : d.isNaN = false) : (f.read (f.write d)).isNaN = false := by
  cases d with
  | number s m e => exact nearest_num f s m e
  | infinity s => exact read_word_le f s _ (Nat.le_refl _)
  | nan s t => simp [Ieee.Datum.isNaN] at h

theorem sum_num {a b d : Ieee.Datum} (h : a.sum b = some d) : d.isNaN = false ∧ a.isNaN = false ∧ b.isNaN = false := by
  cases a <;> cases b <;> simp [Ieee.Datum.sum] at h
  all_goals first | (obtain ⟨_, rfl⟩ := h; simp [Ieee.Datum.isNaN]) | (subst h; simp [Ieee.Datum.isNaN])

theorem product_num {a b d : Ieee.Datum} (h : a.product b = some d) : d.isNaN = false ∧ a.isNaN = false ∧ b.isNaN = false := by
  cases a <;> cases b <;> simp [Ieee.Datum.product] at h
  all_goals first | (obtain ⟨_, rfl⟩ := h; simp [Ieee.Datum.isNaN]) | (subst h; simp [Ieee.Datum.isNaN])

theorem quotient_num {g : Nat} {a b d : Ieee.Datum} (h : a.quotient g b = some d) : d.isNaN = false ∧ a.isNaN = false ∧ b.isNaN = false := by
  cases a <;> cases b <;> simp [Ieee.Datum.quotient] at h
  case number.number s m i t n j =>
    split at h
    · split at h
      · cases h
      · cases h; simp [Ieee.Datum.isNaN]
    · cases h; simp [Ieee.Datum.isNaN]
  all_goals (subst h; simp [Ieee.Datum.isNaN])

theorem opposite_nan (d : Ieee.Datum) : d.opposite.isNaN = d.isNaN := by cases d <;> rfl

theorem fl_some {b : Nat} (h : (D.read b).isNaN = false) : fl b = some b := by simp [fl, h]
theorem fl_none {b : Nat} (h : (D.read b).isNaN = true) : fl b = none := by simp [fl, h]

theorem add_num {x y r : Nat} (h : D.add x y = some r) : fl r = some r ∧ fl x = some x ∧ fl y = some y := by
  unfold Ieee.Format.add at h
  cases hs : (D.read x).sum (D.read y) with
  | none => rw [hs] at h; simp at h
  | some d =>
    rw [hs] at h; simp at h; subst h
    obtain ⟨h1, h2, h3⟩ := sum_num hs
    exact ⟨fl_some (write_num D d h1), fl_some h2, fl_some h3⟩
theorem sub_num {x y r : Nat} (h : D.sub x y = some r) : fl r = some r ∧ fl x = some x ∧ fl y = some y := by
  unfold Ieee.Format.sub at h
  cases hs : (D.read x).sum (D.read y).opposite with
  | none => rw [hs] at h; simp at h
  | some d =>
    rw [hs] at h; simp at h; subst h
    obtain ⟨h1, h2, h3⟩ := sum_num hs
    exact ⟨fl_some (write_num D d h1), fl_some h2, fl_some ((opposite_nan _).symm.trans h3)⟩
theorem mul_num {x y r : Nat} (h : D.mul x y = some r) : fl r = some r ∧ fl x = some x ∧ fl y = some y := by
  unfold Ieee.Format.mul at h
  cases hs : (D.read x).product (D.read y) with
  | none => rw [hs] at h; simp at h
  | some d =>
    rw [hs] at h; simp at h; subst h
    obtain ⟨h1, h2, h3⟩ := product_num hs
    exact ⟨fl_some (write_num D d h1), fl_some h2, fl_some h3⟩
theorem div_num {x y r : Nat} (h : D.div x y = some r) : fl r = some r ∧ fl x = some x ∧ fl y = some y := by
  unfold Ieee.Format.div at h
  cases hs : (D.read x).quotient (D.fractionBits + 2) (D.read y) with
  | none => rw [hs] at h; simp at h
  | some d =>
    rw [hs] at h; simp at h; subst h
    obtain ⟨h1, h2, h3⟩ := quotient_num hs
    exact ⟨fl_some (write_num D d h1), fl_some h2, fl_some h3⟩

theorem nanBits_nan {x y : Nat} {c : Bool} (t : Nat) (q : Question) (h : q = .nanBits .f64 x y ∨ q = .nanMinMax .f64 c x y) : fl (q.cut t) = none := by
  apply fl_none
  have key : ∀ t : Nat, (D.read ((t % 2) * 2 ^ 63 + 0x7ff0000000000000 + 1 + (t / 2) % (2 ^ 52 - 1))).isNaN = true := by
    intro t
    have hsw : D.signWeight = 2 ^ 63 := by decide
    have hin : D.infRung = 0x7ff0000000000000 := by decide
    have hbi : D.binade = 2 ^ 52 := by decide
    unfold Ieee.Format.read
    rw [hsw, hin, hbi]
    have h1 : t % 2 < 2 := Nat.mod_lt _ (by decide)
    have h2 : t / 2 % (2 ^ 52 - 1) < 2 ^ 52 - 1 := Nat.mod_lt _ (by decide)
    generalize t % 2 = s at *
    generalize t / 2 % (2 ^ 52 - 1) = u at *
    have h3 : (s * 2 ^ 63 + 9218868437227405312 + 1 + u) % 2 ^ 63 = 9218868437227405312 + 1 + u := by omega
    simp only [h3]
    rw [if_neg (by omega), if_neg (by omega), if_neg (by omega)]
    rfl
  rcases h with rfl | rfl
  · exact key t
  · exact key t

/-- How many draws an operation makes: one, if its answer is no number. -/
def nd (d : FL) : Nat := if d.isSome then 0 else 1

section
variable {P : Program} {ops : Array Oper} {Q : Exit → Act → World → Prop} {a : Act} {w : World} {rest : List Oper}

/-- An operation on floats answers by 'f', up to NaNs. -/
def FOp (op : BinOp) (f : FL → FL → FL) : Prop := ∀ (P : Program) (t : TypeId) (x y : Nat) (w : World), ∃ r n, (binOp op t (.float .f64 x) (.float .f64 y)).run P w = .ok (.float .f64 r) (w.drewN n) ∧ fl r = f (fl x) (fl y)

theorem fop_of (op : BinOp) (d : Nat → Nat → Option Nat) (hnum : ∀ x y r, d x y = some r → fl r = some r ∧ fl x = some x ∧ fl y = some y)
    (h : ∀ x y, (Op.floatArith op .f64 x y) = (do match d x y with | some r => pure (.float .f64 r) | none => pure (.float .f64 (← choose (.nanBits .f64 x y))) : Sem Value))
    (hb : ∀ t x y, binOp op t (.float .f64 x) (.float .f64 y) = Op.floatArith op .f64 x y) : FOp op (lift2 d) := by
  intro P t x y w
  rw [hb, h]
  cases hd : d x y with
  | some r => exact ⟨r, 0, rfl, by obtain ⟨h1, h2, h3⟩ := hnum x y r hd; rw [h1, h2, h3]; simp [lift2, hd]⟩
  | none =>
    refine ⟨_, 1, rfl, ?_⟩
    rw [nanBits_nan (x := x) (y := y) (c := false) _ _ (.inl rfl)]
    unfold fl lift2
    split <;> split <;> simp [hd]

theorem fop_add : FOp .add fadd := fop_of .add D.add (fun _ _ _ => add_num) (fun _ _ => rfl) (fun _ _ _ => rfl)
theorem fop_sub : FOp .sub fsub := fop_of .sub D.sub (fun _ _ _ => sub_num) (fun _ _ => rfl) (fun _ _ _ => rfl)
theorem fop_mul : FOp .mul fmul := fop_of .mul D.mul (fun _ _ _ => mul_num) (fun _ _ => rfl) (fun _ _ _ => rfl)
theorem fop_quo : FOp .quo fdiv := fop_of .quo D.div (fun _ _ _ => div_num) (fun _ _ => rfl) (fun _ _ _ => rfl)

/-- THE WALK's STEP over '+', '-', '*', '/' on floats: the answer is a word of its own, known up to NaNs. -/
theorem wpList_fop {op : BinOp} {f : FL → FL → FL} (hf : FOp op f) {dst : Option Tmp} {t t2 ty : TypeId} {X Y : Operand} {pos : String} {after : Array Edge} {x y : Nat}
    (hx : a.eval X = .float .f64 x) (hy : a.eval Y = .float .f64 y)
    (h : ∀ r n, fl r = f (fl x) (fl y) → ∀ K : Act → World → Prop, (∀ a w, wpList P ops Q rest a w → K a w) → K (a.put dst (.float .f64 r)) (w.drewN n)) :
    wpList P ops Q ({ dst := dst, op := .binOp op t X Y t2, type := ty, pos := pos, after := after, guard := none } :: rest) a w := by
  refine wpList_plain rfl fun K hK => ?_
  obtain ⟨r, n, hv, hr⟩ := hf P t x y w
  have he : (execOp a.eval { dst := dst, op := .binOp op t X Y t2, type := ty, pos := pos, after := after, guard := none }).run P w = .ok (.value (.float .f64 r)) (w.drewN n) := by
    have hg : (eqGuard op t X Y (.float .f64 x) (.float .f64 y)).run P w = .ok () w := by cases op <;> rfl
    simp [execOp, hx, hy, hg, hv]
  simp only [Oper.wp, he, Oper.upon]
  exact h r n hr K hK
end

theorem order_none_left (x y : Nat) (h : (D.read x).isNaN = true) : D.order x y = none := by
  unfold Ieee.Format.order
  cases hd : D.read x with
  | nan s t => simp [Ieee.Datum.order]
  | number s m e => rw [hd] at h; simp [Ieee.Datum.isNaN] at h
  | infinity s => rw [hd] at h; simp [Ieee.Datum.isNaN] at h
theorem order_none_right (x y : Nat) (h : (D.read y).isNaN = true) : D.order x y = none := by
  unfold Ieee.Format.order
  cases hd : D.read y with
  | nan s t => cases D.read x <;> simp [Ieee.Datum.order]
  | number s m e => rw [hd] at h; simp [Ieee.Datum.isNaN] at h
  | infinity s => rw [hd] at h; simp [Ieee.Datum.isNaN] at h
theorem ford_fl (x y : Nat) : ford (fl x) (fl y) = D.order x y := by
  unfold fl
  split
  · rename_i h; rw [order_none_left x y h]; rfl
  · split
    · rename_i h; rw [order_none_right x y h]; rfl
    · rfl
@[go_sem] theorem ord_eq (x y : Nat) : (FloatKind.f64.format.order x y == some .eq) = feq (fl x) (fl y) := by unfold feq; rw [ford_fl]; rfl
@[go_sem] theorem ord_ne (x y : Nat) : (FloatKind.f64.format.order x y != some .eq) = !feq (fl x) (fl y) := by unfold feq; rw [ford_fl]; rfl
@[go_sem] theorem ord_lt (x y : Nat) : (FloatKind.f64.format.order x y == some .lt) = flt (fl x) (fl y) := by unfold flt; rw [ford_fl]; rfl
@[go_sem] theorem ord_gt (x y : Nat) : (FloatKind.f64.format.order x y == some .gt) = fgt (fl x) (fl y) := by unfold fgt; rw [ford_fl]; rfl


def one : FL := some 4607182418800017408
def zero : FL := some 0
def fneg? (x : FL) : Bool := match x with | some b => (D.read b).neg | none => false
/-- Go's max and min of two. -/
def fmax2 (x y : FL) : FL := match ford x y with | none => none | some .lt => y | some .gt => x | some .eq => if fneg? x then y else x
def fmin2 (x y : FL) : FL := match ford x y with | none => none | some .lt => x | some .gt => y | some .eq => if fneg? x then x else y

theorem fl_of_ord {x y : Nat} {o : Ordering} (h : D.order x y = some o) : fl x = some x ∧ fl y = some y := by
  constructor
  · apply fl_some; cases hn : (D.read x).isNaN with | false => rfl | true => rw [order_none_left x y hn] at h; cases h
  · apply fl_some; cases hn : (D.read y).isNaN with | false => rfl | true => rw [order_none_right x y hn] at h; cases h

theorem run_max2 (P : Program) (x y : Nat) (w : World) : ∃ r n, (Builtin.max2 (.float .f64 x) (.float .f64 y)).run P w = .ok (.float .f64 r) (w.drewN n) ∧ fl r = fmax2 (fl x) (fl y) := by
  unfold fmax2
  rw [ford_fl]
  have hd : FloatKind.f64.format.order x y = D.order x y := rfl
  cases h : D.order x y with
  | none => exact ⟨_, 1, by simp only [Builtin.max2, hd, h]; rfl, nanBits_nan (x := x) (y := y) (c := true) _ _ (.inr rfl)⟩
  | some o =>
    obtain ⟨h1, h2⟩ := fl_of_ord h
    cases o with
    | lt => exact ⟨y, 0, by simp only [Builtin.max2, hd, h]; rfl, rfl⟩
    | gt => exact ⟨x, 0, by simp only [Builtin.max2, hd, h]; rfl, rfl⟩
    | eq =>
      refine ⟨if (D.read x).neg then y else x, 0, by simp only [Builtin.max2, hd, h]; rfl, ?_⟩
      rw [h1, h2]; simp only [fneg?]; by_cases hn : (D.read x).neg = true <;> simp [hn, h1, h2]
theorem run_min2 (P : Program) (x y : Nat) (w : World) : ∃ r n, (Builtin.min2 (.float .f64 x) (.float .f64 y)).run P w = .ok (.float .f64 r) (w.drewN n) ∧ fl r = fmin2 (fl x) (fl y) := by
  unfold fmin2
  rw [ford_fl]
  have hd : FloatKind.f64.format.order x y = D.order x y := rfl
  cases h : D.order x y with
  | none => exact ⟨_, 1, by simp only [Builtin.min2, hd, h]; rfl, nanBits_nan (x := x) (y := y) (c := false) _ _ (.inr rfl)⟩
  | some o =>
    obtain ⟨h1, h2⟩ := fl_of_ord h
    cases o with
    | lt => exact ⟨x, 0, by simp only [Builtin.min2, hd, h]; rfl, rfl⟩
    | gt => exact ⟨y, 0, by simp only [Builtin.min2, hd, h]; rfl, rfl⟩
    | eq =>
      refine ⟨if (D.read x).neg then x else y, 0, by simp only [Builtin.min2, hd, h]; rfl, ?_⟩
      rw [h1, h2]; simp only [fneg?]; by_cases hn : (D.read x).neg = true <;> simp [hn, h1, h2]

section
variable {P : Program} {ops : Array Oper} {Q : Exit → Act → World → Prop} {a : Act} {w : World} {rest : List Oper}
theorem wpList_fmax {dst : Option Tmp} {ats : Array TypeId} {ty : TypeId} {X Y : Operand} {pos : String} {after : Array Edge} {x y : Nat}
    (hx : a.eval X = .float .f64 x) (hy : a.eval Y = .float .f64 y)
    (h : ∀ r n, fl r = fmax2 (fl x) (fl y) → ∀ K : Act → World → Prop, (∀ a w, wpList P ops Q rest a w → K a w) → K (a.put dst (.float .f64 r)) (w.drewN n)) :
    wpList P ops Q ({ dst := dst, op := .call { callee := .builtin .max, args := #[X, Y], argTypes := ats }, type := ty, pos := pos, after := after, guard := none } :: rest) a w := by
  refine wpList_plain rfl fun K hK => ?_
  obtain ⟨r, n, hv, hr⟩ := run_max2 P x y w
  have he : (execOp a.eval { dst := dst, op := .call { callee := .builtin .max, args := #[X, Y], argTypes := ats }, type := ty, pos := pos, after := after, guard := none }).run P w = .ok (.value (.float .f64 r)) (w.drewN n) := by
    rw [BigFrame.execOp_builtin, BigFrame.builtin_max]
    simp only [List.map_toArray, List.map_cons, List.map_nil, hx, hy, Builtin.max_, List.foldlM_cons, List.foldlM_nil, Sem.run_bind, hv, Result.andThen_ok, Sem.run_pure]
  simp only [Oper.wp, he, Oper.upon]
  exact h r n hr K hK
theorem wpList_fmin {dst : Option Tmp} {ats : Array TypeId} {ty : TypeId} {X Y : Operand} {pos : String} {after : Array Edge} {x y : Nat}
    (hx : a.eval X = .float .f64 x) (hy : a.eval Y = .float .f64 y)
    (h : ∀ r n, fl r = fmin2 (fl x) (fl y) → ∀ K : Act → World → Prop, (∀ a w, wpList P ops Q rest a w → K a w) → K (a.put dst (.float .f64 r)) (w.drewN n)) :
    wpList P ops Q ({ dst := dst, op := .call { callee := .builtin .min, args := #[X, Y], argTypes := ats }, type := ty, pos := pos, after := after, guard := none } :: rest) a w := by
  refine wpList_plain rfl fun K hK => ?_
  obtain ⟨r, n, hv, hr⟩ := run_min2 P x y w
  have he : (execOp a.eval { dst := dst, op := .call { callee := .builtin .min, args := #[X, Y], argTypes := ats }, type := ty, pos := pos, after := after, guard := none }).run P w = .ok (.value (.float .f64 r)) (w.drewN n) := by
    rw [BigFrame.execOp_builtin, BigFrame.builtin_min]
    simp only [List.map_toArray, List.map_cons, List.map_nil, hx, hy, Builtin.min_, List.foldlM_cons, List.foldlM_nil, Sem.run_bind, hv, Result.andThen_ok, Sem.run_pure]
  simp only [Oper.wp, he, Oper.upon]
  exact h r n hr K hK
end

/-- The whole number below. -/
def ffloor (x : FL) : FL := x.bind fun b => some (D.write ((D.read b).integral .down))

/-- A call answers one float, up to NaNs, and makes draws alone. -/
def FRet (d : FL) (w : World) (e : Ending) (w' : World) : Prop := ∃ r n, fl r = d ∧ e = .returned (.float .f64 r) ∧ w' = w.drewN n

theorem FRet.same {d : FL} {w : World} {r : Nat} (h : fl r = d) : FRet d w (.returned (.float .f64 r)) w := ⟨r, 0, h, rfl, rfl⟩
theorem FRet.drew {d : FL} {w : World} {r n : Nat} (h : fl r = d) : FRet d w (.returned (.float .f64 r)) (w.drewN n) := ⟨r, n, h, rfl, rfl⟩
theorem FRet.to {d d' : FL} {w : World} {e : Ending} {w' : World} (h : d = d') (hf : FRet d w e w') : FRet d' w e w' := h ▸ hf
def FBool (b : Bool) (w : World) (e : Ending) (w' : World) : Prop := ∃ n, e = .returned (.bool b) ∧ w' = w.drewN n
theorem FBool.drew {b c : Bool} {w : World} {n : Nat} (h : c = b) : FBool b w (.returned (.bool c)) (w.drewN n) := ⟨n, by rw [h], rfl⟩
theorem FBool.same {b c : Bool} {w : World} (h : c = b) : FBool b w (.returned (.bool c)) w := ⟨0, by rw [h], rfl⟩

/-- A number. -/
def Num (x : FL) : Prop := ∃ b, x = some b ∧ (D.read b).isNaN = false
theorem Num.ne {x : FL} (h : Num x) : x ≠ none := by obtain ⟨b, rfl, _⟩ := h; simp
theorem num_fl {b : Nat} (h : (D.read b).isNaN = false) : Num (fl b) := ⟨b, fl_some h, h⟩
theorem order_some {x y : Nat} (hx : (D.read x).isNaN = false) (hy : (D.read y).isNaN = false) : ∃ o, D.order x y = some o := by
  unfold Ieee.Format.order
  generalize D.read x = a at *
  generalize D.read y = b at *
  cases a <;> cases b <;> simp_all [Ieee.Datum.order, Ieee.Datum.isNaN]
theorem num_of_feq {x y : FL} (h : feq x y = true) : Num x ∧ Num y := by
  cases x with
  | none => simp [feq, ford] at h
  | some a =>
    cases y with
    | none => simp [feq, ford] at h
    | some b =>
      simp only [feq, ford, Option.bind_some, beq_iff_eq] at h
      refine ⟨⟨a, rfl, ?_⟩, ⟨b, rfl, ?_⟩⟩
      · cases hn : (D.read a).isNaN with | false => rfl | true => rw [order_none_left a b hn] at h; cases h
      · cases hn : (D.read b).isNaN with | false => rfl | true => rw [order_none_right a b hn] at h; cases h
theorem num_fmax {x y : FL} (hx : Num x) (hy : Num y) : Num (fmax2 x y) := by
  obtain ⟨a, rfl, ha⟩ := hx
  obtain ⟨b, rfl, hb⟩ := hy
  obtain ⟨o, ho⟩ := order_some ha hb
  unfold fmax2
  have : ford (some a) (some b) = some o := ho
  rw [this]
  cases o with
  | lt => exact ⟨b, rfl, hb⟩
  | gt => exact ⟨a, rfl, ha⟩
  | eq => simp only; split <;> first | exact ⟨b, rfl, hb⟩ | exact ⟨a, rfl, ha⟩
theorem num_fmin {x y : FL} (hx : Num x) (hy : Num y) : Num (fmin2 x y) := by
  obtain ⟨a, rfl, ha⟩ := hx
  obtain ⟨b, rfl, hb⟩ := hy
  obtain ⟨o, ho⟩ := order_some ha hb
  unfold fmin2
  have : ford (some a) (some b) = some o := ho
  rw [this]
  cases o with
  | lt => exact ⟨a, rfl, ha⟩
  | gt => exact ⟨b, rfl, hb⟩
  | eq => simp only; split <;> first | exact ⟨b, rfl, hb⟩ | exact ⟨a, rfl, ha⟩

section
variable {P : Program} (w : World) (a : Addr) (m : Mode)
@[go_sem] theorem run_store_float (k : FloatKind) (b : Nat) : (store a (.float k b) m).run P w = stored P w a (.float k b) m := run_store P w a _ m rfl
@[go_sem] theorem run_store_complex (k : FloatKind) (x y : Nat) : (store a (.complex k x y) m).run P w = stored P w a (.complex k x y) m := run_store P w a _ m rfl
end

def fabs (x : FL) : FL := x.map (· % 9223372036854775808)

theorem isNaN_mod (x : Nat) : (D.read (x % 9223372036854775808)).isNaN = (D.read x).isNaN := by
  have hsw : D.signWeight = 9223372036854775808 := by decide
  unfold Ieee.Format.read
  rw [hsw]
  have h2 : x % 9223372036854775808 % 9223372036854775808 = x % 9223372036854775808 := Nat.mod_mod _ _
  rw [h2]
  simp only
  split <;> first | rfl | (split <;> first | rfl | (split <;> rfl))
theorem fabs_fl (x : Nat) : fl (x % 9223372036854775808) = fabs (fl x) := by
  unfold fl
  rw [isNaN_mod]
  split <;> rfl
theorem abs_bits (x : Nat) : (bits .andNot .u64 (x : Int) 9223372036854775808).toNat = x % 9223372036854775808 := by
  unfold bits
  simp only
  have e : (BitVec.ofInt 64 (x : Int) &&& ~~~ BitVec.ofInt 64 9223372036854775808).toNat = x % 9223372036854775808 := by
    rw [BitVec.toNat_and]
    have h1 : (BitVec.ofInt 64 (x : Int)).toNat = x % 2 ^ 64 := by simp
    have h2 : (~~~ BitVec.ofInt 64 9223372036854775808).toNat = 2 ^ 63 - 1 := by decide
    rw [h1, h2, Nat.and_two_pow_sub_one_eq_mod]
    omega
  show (IntKind.u64.wrap ((BitVec.ofInt 64 (x : Int) &&& ~~~ BitVec.ofInt 64 9223372036854775808).toNat : Int)).toNat = _
  rw [e]
  have hw : IntKind.u64.wrap ((x % 9223372036854775808 : Nat) : Int) = ((x % 9223372036854775808 : Nat) : Int) := by
    have h3 : x % 9223372036854775808 < 9223372036854775808 := Nat.mod_lt _ (by decide)
    generalize x % 9223372036854775808 = y at *
    simp only [IntKind.wrap]
    show ((y : Int) % 2 ^ 64) = y
    omega
  rw [hw]; rfl

@[go_sem] theorem le_or (x y : FL) : (flt x y || feq x y) = fle x y := rfl
@[go_sem] theorem ge_or (x y : FL) : (fgt x y || feq x y) = fge x y := rfl

def fneg (x : FL) : FL := x.map (Op.negFloat .f64)
theorem isNaN_congr {x y : Nat} (h : x % 9223372036854775808 = y % 9223372036854775808) : (D.read x).isNaN = (D.read y).isNaN := by rw [← isNaN_mod x, h, isNaN_mod]
theorem neg_mod (b : Nat) : Op.negFloat .f64 b % 9223372036854775808 = b % 9223372036854775808 := by
  have e : Op.negFloat .f64 b = b ^^^ 2 ^ 63 := rfl
  rw [e, show (9223372036854775808 : Nat) = 2 ^ 63 from rfl, Nat.xor_mod_two_pow]
  simp
@[go_sem] theorem fl_neg (b : Nat) : fl (Op.negFloat .f64 b) = fneg (fl b) := by
  unfold fl
  rw [isNaN_congr (neg_mod b)]
  split <;> rfl
@[go_sem] theorem run_neg_float (P : Program) (b : Nat) (w : World) : (Op.unary .neg (.float .f64 b)).run P w = .ok (.float .f64 (Op.negFloat .f64 b)) w := rfl
end Go.Proofs.Ytkgicooplgmmpaa
