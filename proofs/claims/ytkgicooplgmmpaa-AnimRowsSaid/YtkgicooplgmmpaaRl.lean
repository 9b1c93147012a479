/-
  AnimRows at every count.
-/
import Derived.Test.YtkgicooplgmmpaaRo
import Derived.Test.YtkgicooplgmmpaaRo2
import Derived.Test.YtkgicooplgmmpaaRo3
import Derived.Test.YtkgicooplgmmpaaRo4
import Derived.Test.YtkgicooplgmmpaaRo5
namespace Go.Proofs.Ytkgicooplgmmpaa

theorem lawRows_any (way : Int) (fr tt : Nat) (n : Int) (a b c d near : Nat) (hne : near < 18446744073709551616) (w : World) : Calls Try.prog 9 #[.int .i64 way, .float .f64 fr, .float .f64 tt, .int .i64 n, spr a b c d, .float .f64 near] w (BBool true w) := by
  by_cases h1 : n < 0
  · obtain ⟨M, hM, hMl⟩ := tmod_neg n h1
    rcases Nat.eq_zero_or_pos M with h2 | h2
    · exact rows_4 way fr tt n h1 M hM hMl h2 a b c d near hne w
    · exact rows_5 way fr tt n h1 M hM hMl h2 a b c d near hne w
  · by_cases h2 : 65536 < n
    · exact rows_2 way fr tt n h2 a b c d near hne w
    · by_cases h3 : n = 0
      · exact rows_3 way fr tt n h3 a b c d near hne w
      · obtain ⟨m, rfl⟩ : ∃ m : Nat, n = m := ⟨n.toNat, by omega⟩
        exact rows_1 way fr tt m (by omega) (by omega) a b c d near hne w
end Go.Proofs.Ytkgicooplgmmpaa
