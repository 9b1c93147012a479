/- Part of the proof of this seat's closed statement by the abstract machine: tables of closed answers, the start, the run. No condition. -/
import Derived.Test.YtpocgkijdllfbaaGreatDoorM7b
import Derived.OpenShut
import Derived.LaidMore
import Derived.Test.YtpocgkijdllfbaaGreatDoorRows
import Derived.MakeChecks
namespace Go.Eng
open Go Go.Proofs
set_option maxRecDepth 100000

/-- An array of whole numbers, read as laid, holds just them. -/
theorem laid_ints {P : Program} {w : World} {t : TypeId} {cs : List Value} {fuel : Nat} {p : List MemPlace} {k : IntKind} {zs : List Int} {e : TypeId} {N : Nat} (hu : P.underlying t = some (.array N e)) (hc : P.cellsOf e = 1) (ht : P.cellsOf t = N) (hi : P.underlying e = some (.int k))
    (h : DataW.trod (fun _ => ()) P w 0 (fun _ => true) false fuel t cs = some (.agg (zs.map fun z => .lit (.int k z)), p)) : cs = zs.map fun z => .int k z := by
  obtain ⟨xs, m, _, ex, hl, hn, hel⟩ := DataW.trod_array hu h
  have e3 : xs.map (·.1) = zs.map fun z => (.lit (.int k z) : DataW Unit) := (DataW.agg.inj (Prod.mk.inj ex).1).symm
  have hz : zs.length = N := by rw [← hn]; simpa using (congrArg List.length e3).symm
  apply List.ext_getElem?
  intro i
  by_cases hi2 : i < N
  · have hE := hel i hi2
    rw [hc, Nat.mul_one, List.getElem?_eq_getElem (by omega)] at hE
    obtain ⟨z, e1, e2, _⟩ := DataW.trod_int hi hE
    have e4 : (xs.map (·.1))[i]? = (zs.map fun z => (.lit (.int k z) : DataW Unit))[i]? := by rw [e3]
    rw [List.getElem?_map, List.getElem?_map, List.getElem?_eq_getElem (by omega : i < xs.length), List.getElem?_eq_getElem (by omega : i < zs.length), e2] at e4
    simp only [Option.map_some, Option.some.injEq, DataW.lit.injEq, Lit.int.injEq, true_and] at e4
    have h0 : ((cs.drop i).take 1)[0]? = some (.int k z) := by rw [e1]; rfl
    rw [List.getElem?_map, List.getElem?_eq_getElem (by omega : i < zs.length), Option.map_some, ← e4]
    simpa using h0
  · rw [List.getElem?_eq_none (by omega), List.getElem?_eq_none (by simp; omega)]

theorem var_has {P : Program} {w : World} {n : String} {g : Nat} {cs : Array Value} (hg : P.globalNamed n = some g) (h : w.var? P n = some cs) : ∃ e, HasC w g cs.toList e := by
  simp only [World.var?, hg, Option.bind_some] at h
  split at h
  · rename_i c t fr hb
    cases h
    exact ⟨t, fr, hb⟩
  · cases h

theorem laid_one {P : Program} {W : World} {n : String} {g0 T0 E0 N : Nat} {k : IntKind} {zs : List Int} {d : DataW Unit} {g t : Nat} {cs : Array Value} {fuel : Nat} {p : List MemPlace}
    (hg0 : P.globalNamed n = some g0) (ht0 : (P.globals[g0]?).map (·.type) = some T0) (hu : P.underlying T0 = some (.array N E0)) (hc : P.cellsOf E0 = 1) (hT : P.cellsOf T0 = N) (hi : P.underlying E0 = some (.int k))
    (hd0 : d = .agg (zs.map fun z => .lit (.int k z))) (hg : P.globalNamed n = some g) (ht : (P.globals[g]?).map (·.type) = some t) (hv : W.var? P n = some cs)
    (hd : DataW.trod (fun _ => ()) P W 0 (fun _ => true) false fuel t cs.toList = some (d, p)) : ∃ e, HasC W g0 (zs.map fun z => .int k z) e := by
  obtain rfl := Option.some.inj (hg0.symm.trans hg)
  obtain rfl := Option.some.inj (ht0.symm.trans ht)
  subst hd0
  have := laid_ints hu hc hT hi hd
  rw [← this]
  exact var_has hg0 hv

theorem laid5_of {W : World} (h : laidMetH Tryz.prog YtpocgkijdllfbaaGreatDoor.Rows.muxNamesRow.laid W) : ∃ e0 e1 e2 e3 e4, Laid5 e0 e1 e2 e3 e4 W := by
  rw [MakeChecks.laidMetH_plain _ _ _ (by kernel_rfl)] at h
  obtain ⟨ps, ⟨g3, t3, c3, f3, p3, q3, hg3, ht3, hv3, hd3, ⟨g4, t4, c4, f4, p4, q4, hg4, ht4, hv4, hd4, ⟨g2, t2, c2, f2, p2, q2, hg2, ht2, hv2, hd2, ⟨g0, t0, c0, f0, p0, q0, hg0, ht0, hv0, hd0, ⟨g1, t1, c1, f1, p1, q1, hg1, ht1, hv1, hd1, _, _⟩, _⟩, _⟩, _⟩, _⟩, _, _⟩ := h
  obtain ⟨e3, b3⟩ := laid_one (g0 := 3) (T0 := 236) (E0 := 5) (N := 32) (k := .u8) (zs := [0, 1, 28, 2, 29, 14, 24, 3, 30, 22, 20, 15, 25, 17, 4, 8, 31, 27, 13, 23, 21, 19, 16, 7, 26, 12, 18, 6, 11, 5, 10, 9]) (by kernel_rfl) (by kernel_rfl) (by kernel_rfl) (by kernel_rfl) (by kernel_rfl) (by kernel_rfl) rfl hg3 ht3 hv3 hd3
  obtain ⟨e4, b4⟩ := laid_one (g0 := 4) (T0 := 237) (E0 := 5) (N := 64) (k := .u8) (zs := [0, 1, 56, 2, 57, 49, 28, 3, 61, 58, 42, 50, 38, 29, 17, 4, 62, 47, 59, 36, 45, 43, 51, 22, 53, 39, 33, 30, 24, 18, 12, 5, 63, 55, 48, 27, 60, 41, 37, 16, 46, 35, 44, 21, 52, 32, 23, 11, 54, 26, 40, 15, 34, 20, 31, 10, 25, 14, 19, 9, 13, 8, 7, 6]) (by kernel_rfl) (by kernel_rfl) (by kernel_rfl) (by kernel_rfl) (by kernel_rfl) (by kernel_rfl) rfl hg4 ht4 hv4 hd4
  obtain ⟨e2, b2⟩ := laid_one (g0 := 2) (T0 := 232) (E0 := 226) (N := 20) (k := .u64) (zs := [1, 10, 100, 1000, 10000, 100000, 1000000, 10000000, 100000000, 1000000000, 10000000000, 100000000000, 1000000000000, 10000000000000, 100000000000000, 1000000000000000, 10000000000000000, 100000000000000000, 1000000000000000000, 10000000000000000000]) (by kernel_rfl) (by kernel_rfl) (by kernel_rfl) (by kernel_rfl) (by kernel_rfl) (by kernel_rfl) rfl hg2 ht2 hv2 hd2
  obtain ⟨e0, b0⟩ := laid_one (g0 := 0) (T0 := 215) (E0 := 3) (N := 8) (k := .i64) (zs := [1, 2, 3, 4, 5, 7, 8, 9]) (by kernel_rfl) (by kernel_rfl) (by kernel_rfl) (by kernel_rfl) (by kernel_rfl) (by kernel_rfl) rfl hg0 ht0 hv0 hd0
  obtain ⟨e1, b1⟩ := laid_one (g0 := 1) (T0 := 215) (E0 := 3) (N := 8) (k := .i64) (zs := [22, 22, 23, 24, 25, 27, 28, 29]) (by kernel_rfl) (by kernel_rfl) (by kernel_rfl) (by kernel_rfl) (by kernel_rfl) (by kernel_rfl) rfl hg1 ht1 hv1 hd1
  exact ⟨e0, e1, e2, e3, e4, b0, b1, b2, b3, b4⟩

end Go.Eng
