/- Part of an abstract machine that runs the program's code in Lean's kernel, and of the proof that what it answers every run of the model answers (Go.Eng; program-independent). No condition. -/
import Derived.Test.YtdafgjfijdijlaaGreatDoorE26
namespace Go.Eng
open Go

variable {P : Program} {base : Nat} {ih : Task → Out}

theorem draw_ok (hC : CallOK P base ih) (hY : YieldOK P base ih) (hm : P.follows .mixedOrders = true) : DrawOK P base ih := by
  intro ops n t A t1 A1 e σ W tm hR ht id b ds k cs
  unfold runDraw at e
  split at e <;> try (simp at e; done)
  rename_i B rs hreg
  split at e <;> try (simp at e; done)
  rename_i Df hrun
  cases hc : (Nat.ble ops.size 4096 && Nat.beq (Nat.add Df.done 1) (Nat.shiftLeft 1 ops.size) && Df.looks.all (fun x => sameAt P x.2.1 B x.1 x.2.2 (Df.A :: Df.gaps) Df.acts)) with
  | false => rw [hc] at e; simp at e
  | true =>
  rw [hc] at e
  simp only [cond_true, Option.some.injEq, Prod.mk.injEq] at e
  obtain ⟨rfl, rfl⟩ := e
  simp only [Bool.and_eq_true] at hc
  obtain ⟨⟨c1, c2⟩, c3⟩ := hc
  have c1 := Nat.le_of_ble_eq_true c1
  have c2 := Nat.eq_of_beq_eq_true c2
  have hdone : ∀ i, i < ops.size → tb Df.done i = true := fun i hi => by
    rw [tb_eq]
    have : Df.done = 2 ^ ops.size - 1 := by
      have c2' : Df.done + 1 = 1 <<< ops.size := c2
      rw [Nat.one_shiftLeft] at c2'
      omega
    rw [this, Nat.testBit_two_pow_sub_one]; simpa using hi
  unfold regInfo at hreg
  split at hreg <;> try (simp at hreg; done)
  rename_i Wr hwr
  split at hreg <;> try (simp at hreg; done)
  rename_i l hinf
  simp only [Option.some.injEq, Prod.mk.injEq] at hreg
  obtain ⟨rfl, rfl⟩ := hreg
  have hok : ∀ r ∈ greedy (actsOn P) (2 * ops.size + 2) l 0, RIOk ops Wr (befs ops.toList 0 .leaf) r := fun r hr =>
    infos_spec ops.toList 0 l (fun k => by simp) hinf r (greedy_mem _ _ _ r hr)
  have hwsp := (writers_spec ops.toList 0 .leaf Wr hwr).2
  have hp : Pass P ih ops n A.nx Wr (befs ops.toList 0 .leaf) (greedy (actsOn P) (2 * ops.size + 2) l 0) ⟨t, ⟨A.h, A.nx + ops.size, A.lo⟩, 0, [], [], [], []⟩ Df :=
    { run := hrun
      ok := hok
      bok := befs_ok ops.toList 0 .leaf (fun k => by simp) (fun i j h => by
        unfold getN at h; rw [T.get_leaf, tb_zero] at h; simp at h)
      wr := fun r hr d hd => by
        have h := hwsp r.i r.o d (by have := (hok r hr).op; simpa using this) hd
        exact ⟨h.1, by simpa using h.2⟩
      all := fun i hi => by
        rcases (done_spec _ _ _ hrun i).1 (hdone i hi) with q | q
        · rw [tb_zero] at q; simp at q
        · exact q
      edge := fun r hr e he hb => by
        rw [(hok r hr).bef]
        have h := befs_edge ops.toList 0 .leaf (by simp; omega) r.i r.o (by have := (hok r hr).op; simpa using this) e he hb
        simpa using h
      d0 := rfl, g0 := rfl, a0 := rfl, m0 := rfl
      looks := fun x hx => (List.all_eq_true.1 c3) x hx }
  have hR0 : R P base σ ⟨A.h, A.nx + ops.size, A.lo⟩ { W with drawn := W.drawn + 1 } :=
    ⟨hR.live, hR.inj, fun x hx => hR.fresh x (by simp at hx; omega), hR.glob, hR.high, hR.low, hR.base_le, by have := hR.lonx; simp; omega, fun b hb => by have := hR.dom b hb; simp; omega⟩
  have hE0 : Ext A σ W ⟨A.h, A.nx + ops.size, A.lo⟩ σ { W with drawn := W.drawn + 1 } :=
    ⟨fun _ _ h => h, fun _ _ => rfl, by simp, rfl, Nat.le_refl _, fun _ _ h => h, fun _ _ _ => rfl, rfl, rfl⟩
  obtain ⟨G, pre, preA, g1, g2, g3, g4⟩ := gap_R (base := base) _ _ _ hrun rfl
  obtain ⟨g5, g6, g7⟩ := g4 σ _ hR0 (fun r hr _ _ => ⟨hR.fresh _ (by omega), by have := (Array.getElem?_eq_some_iff.1 (hok r hr).op).1; simp only; omega⟩)
  have hF : ∀ j : Nat, ¬ ((Array.replicate ops.size false).getD j false = true) := fun j => by
    simp only [Array.getD_eq_getD_getElem?, Array.getElem?_replicate]
    split <;> simp
  have hv : Inv P base ops n A.nx (greedy (actsOn P) (2 * ops.size + 2) l 0) ⟨t, ⟨A.h, A.nx + ops.size, A.lo⟩, 0, [], [], [], []⟩ Df A σ W (fun j => (Array.replicate ops.size false).getD j false = true) σ { W with drawn := W.drawn + 1 } tm :=
    { reach := fun i j h => absurd h (hF i)
      gap := ⟨0, G, by have := gapsOf_at g1; simpa using this, g5, by rw [g7]; exact Nat.le_refl _, hE0.trans g6, fun q j _ => ⟨fun h => absurd h (hF j), fun h => absurd h (Nat.not_lt_zero _)⟩⟩
      none := fun i _ _ => hR.fresh _ (by omega)
      size := ht.1
      done := fun x v hx hxv => by
        rw [t_keep _ _ _ hrun (fun r hr d hd => (hp.wr r hr d hd).1) x (fun r hr hc => hF r.i (hx r hr hc))] at hxv
        exact ht.2 x v hxv
      todo := fun x v _ hxv => ht.2 x v hxv }
  obtain ⟨σ1, W1, tm1, h1, h2, h3, h4⟩ := run_lin hC hY hp rfl hR.lonx b ds k cs ops.size (W.tape W.drawn (.order b.fn id)) (Array.replicate ops.size false) σ _ tm (by simp) (by
    unfold left
    exact Nat.le_trans (List.length_filter_le _ _) (by simp)) hv
  refine ⟨σ1, W1, tm1, h1, h2, h3, .head (st_region_draw (P := P)) ?_⟩
  have hsch : Region.schedule (P.follows .mixedOrders) ops (W.tape W.drawn (.order b.fn id)) = Region.linearise.go .any ops ops.size (W.tape W.drawn (.order b.fn id)) (Array.replicate ops.size false) [] := by
    unfold Region.schedule
    rw [hm]; rfl
  rw [hsch]
  exact h4.trans (.one st_region_end)

end Go.Eng
