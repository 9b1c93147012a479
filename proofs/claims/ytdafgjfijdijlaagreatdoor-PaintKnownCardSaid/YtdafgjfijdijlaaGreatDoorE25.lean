/- Part of an abstract machine that runs the program's code in Lean's kernel, and of the proof that what it answers every run of the model answers (Go.Eng; program-independent). No condition. -/
import Derived.Test.YtdafgjfijdijlaaGreatDoorE24
namespace Go.Eng
open Go

variable {P : Program} {base : Nat} {ih : Task → Out} {ops : Array Oper} {n n0 : Nat}
variable {Wr B : T Nat} {rs : List RI} {D0 Df : Dr} {A : AS} {σ0 : Sg} {W0 : World} {S : Nat → Prop} {σ : Sg} {W : World} {tm : Array Value}

theorem getElem?_acts {Df : Dr} {pre acts : List Nat} (h : Df.acts = pre ++ acts) {q : Nat} (hq : q < acts.length) : ∃ j ∈ acts, (actsOf Df)[q]? = some j := by
  unfold actsOf
  rw [h, List.reverse_append, List.getElem?_append_left (by simpa using hq)]
  have hl : q < acts.reverse.length := by simpa using hq
  exact ⟨acts.reverse[q], by simp, List.getElem?_eq_getElem hl⟩

/-- One operation of the model's run. -/
theorem Inv.step (hC : CallOK P base ih) (hY : YieldOK P base ih) (hp : Pass P ih ops n n0 Wr B rs D0 Df) (hn0 : A.nx = n0) (hlo : A.lo ≤ A.nx) (hv : Inv P base ops n n0 rs D0 Df A σ0 W0 S σ W tm) {i : Nat} (hi : i < ops.size) (hS : ¬ S i)
    (hrd : ∀ o e, ops[i]? = some o → e ∈ o.after → Region.binds .any e = true → S e.on) (b : Frame) (ds : List Deferred) (k : List Item) (cs : List Frame) (rest : List Nat) :
    ∃ σ1 W1 tm1, Inv P base ops n n0 rs D0 Df A σ0 W0 (fun j => S j ∨ j = i) σ1 W1 tm1 ∧
      Steps P (lone (atR b tm ds (.inRegion ops (i :: rest) :: k)) cs W) (lone (atR b tm1 ds (.inRegion ops rest :: k)) cs W1) := by
  have hre := ready_reach hv.reach hrd
  obtain ⟨r, l1, l2, Da, D1, hr, rfl, hh⟩ := hp.here hi
  have htr := hv.slots hp hr hh hS hre
  obtain ⟨hsub, _, w, u, hw, hput, hd, hk⟩ := drawStep_inv hh.stp
  have hop := (hp.ok r hr).op
  have hwt := wanted_sound htr hw
  have in1 : ∀ x ∈ l1, x ∈ rs := fun x hx => by rw [hh.eq]; simp [hx]
  have in2 : ∀ x ∈ l2, x ∈ rs := fun x hx => by rw [hh.eq]; simp [hx]
  have hreach' : ∀ x j, (S x ∨ x = r.i) → Reach ops x j → (S j ∨ j = r.i) := fun x j hx hj => by
    rcases hx with hx | rfl
    · exact .inl (hv.reach _ _ hx hj)
    · exact .inl (hre _ hj)
  obtain ⟨kk, G, hG, hR, hnx, hE, hacts⟩ := hv.gap
  obtain ⟨pre1, ea1, ei1⟩ := acts_ids l1 D0 Da hh.fst
  obtain ⟨pre2, ea2, ei2⟩ := acts_ids l2 D1 Df hh.snd
  rw [hp.a0, List.append_nil] at ea1
  have hlenA : Da.gaps.length = Da.acts.length := gap_len l1 D0 Da hh.fst (by rw [hp.g0, hp.a0]; rfl)
  have hlen1 : D1.gaps.length = D1.acts.length := gap_len [r] Da D1 (drawAll_one hh.stp) hlenA
  have hchain : Chain ops Da.acts := chain_spec l1 D0 Da hh.fst (fun x hx j hj => hp.reach (in1 x hx) hj) (by rw [hp.a0]; intro j l he; simp at he)
  -- what the item does not act on
  have quiet : D1.acts = Da.acts → ∀ q j : Nat, (actsOf Df)[q]? = some j → ((S j ∨ j = r.i) ↔ q < kk) := fun a q j hq => by
    have hne : j ≠ r.i := by
      have := List.mem_of_getElem? hq
      simp only [actsOf, List.mem_reverse] at this
      rw [ea2, a, ea1] at this
      rcases List.mem_append.1 this with h | h
      · obtain ⟨x, h1, h2⟩ := ei2 j h; rw [← h2]; exact hh.ne2 x h1
      · obtain ⟨x, h1, h2⟩ := ei1 j h; rw [← h2]; exact hh.ne1 x h1
    rw [← hacts q j hq]
    exact ⟨fun h => h.resolve_right hne, .inl⟩
  -- the acts ahead of one that waits for them are done
  have ahead : actAfter Da.acts r.bef = true → (∃ p, Df.acts = p ++ Da.acts) → Da.acts.length ≤ kk := fun ha ⟨p, hpp⟩ => by
    rcases Nat.lt_or_ge kk Da.acts.length with hlt | hge
    · obtain ⟨j, hj, hq⟩ := getElem?_acts hpp hlt
      have hSj : S j := hre _ (after_reach hchain ha (fun j hj => hp.reach hr hj) j hj)
      exact absurd ((hacts kk j hq).1 hSj) (Nat.lt_irrefl _)
    · exact hge
  cases hk with
  | skip hu hA g a m lk =>
    subst hu
    obtain ⟨s1, s2, s3⟩ := hv.slots' hp hr hh (σ1 := σ) (fun _ _ h => h) (v' := undef) (closed_VR σ undef (by simp [undef, closedV, closedVs])) hput
    refine ⟨σ, W, putA tm r.o.dst undef, ⟨hreach', ⟨kk, G, hG, hR, hnx, hE, quiet a⟩, fun j hj hn => hv.none j hj (fun q => hn (.inl q)), s1, s2, s3⟩, ?_⟩
    have hst := st_op_skip (P := P) (W := W) (b := b) (tm := tm) (ds := ds) (k := k) (cs := cs) (ops := ops) (i := r.i) (rest := rest) (by rw [hop]; simpa using hwt)
    rw [hop] at hst
    exact .one hst
  | look hmk hac haop hA g a m lk =>
    have hl := hp.looks _ (looks_keep l2 D1 Df hh.snd _ (by rw [lk]; exact List.mem_cons_self))
    have hlenF : Df.gaps.length = Df.acts.length := gap_len l2 D1 Df hh.snd hlen1
    have hsame : sameHere P (restrictTo Da.t r.looks) r.o u G = true := by
      rcases sameAt_spec (P := P) (Df.A :: Df.gaps) Df.acts (by simp [hlenF]) hl kk G hG with ⟨q, j, q1, q2, q3⟩ | ⟨q, j, q1, q2, q3⟩ | q
      · exact absurd (hv.reach _ _ ((hacts q j q2).2 q1) (hp.bok _ _ q3)) hS
      · exact absurd ((hacts q j q2).1 (hre _ (hp.reach hr q3))) (by omega)
      · exact q
    unfold sameHere at hsame
    split at hsame <;> try (simp at hsame; done)
    rename_i u2 A2 hop2
    have hu := beqV_eq _ _ hsame
    subst hu
    have hA2 := aOp_quiet hac hmk hop2
    subst hA2
    have hov : opVal P ih r.o (restrictTo Da.t r.looks) A2 = some (u2, A2) := by unfold opVal; rw [hop2]; rfl
    obtain ⟨σ1, W1, v', h1, h2, h3, h4⟩ := op_step hC hY hov hR htr (b := b) (ds := ds) (k := k) (cs := cs) (ops := ops) (i := r.i) (rest := rest) hop hwt
    obtain ⟨s1, s2, s3⟩ := hv.slots' hp hr hh h2.le h3 hput
    exact ⟨σ1, W1, putA tm r.o.dst v', ⟨hreach', ⟨kk, A2, hG, h1, hnx, hE.trans h2, quiet a⟩, fun j hj hn => by rw [h2.same _ (by omega)]; exact hv.none j hj (fun q => hn (.inl q)), s1, s2, s3⟩, h4⟩
  | @make A' ob hmk hac haft haop hob hA g a m lk =>
    have hk1 := ahead haft ⟨pre2, by rw [ea2, a]⟩
    obtain ⟨mm, o', W1, v', hrun, hWh, hmc, hOR, hVR, hrest⟩ := mk_sound (a := ⟨tm, ds⟩) hmk hR htr haop hob
    have hnone := hv.none r.i hi hS
    have hGob : ∀ o, G.h.get (n0 + r.i) = some o → o = ob := by
      rcases mk_keep (B := B) (i := r.i) (ob := ob) l2 D1 Df hh.snd hlen1 (fun x hx => ⟨hh.ne2 x hx, (hp.ok x (in2 x hx)).bef⟩) (by rw [m]; exact List.mem_cons_self) (fun o ho => by
          rw [hA] at ho
          rcases T.set_get _ _ _ _ _ ho with ⟨_, q⟩ | ⟨q, _⟩
          · exact q.symm
          · exact absurd rfl q) kk G (by rw [a]; exact hk1) hG with ⟨q, j, q1, q2, q3⟩ | q
      · exact absurd (hv.reach _ _ ((hacts q j q2).2 q1) (hp.bok _ _ q3)) hS
      · exact q
    have hGlo : G.lo ≤ n0 + r.i := by rw [hE.lo]; omega
    have hR1 : R P base (σ.add (n0 + r.i) mm) G W1 := hR.map_new hnone (by omega) hGlo hWh hmc (fun o ho => by rw [hGob o ho]; exact hOR)
    have hle : σ.le (σ.add (n0 + r.i) mm) := Sg.le_add hnone
    have hE1 : Ext A σ0 W0 G (σ.add (n0 + r.i) mm) W1 := by
      refine ⟨fun x m' e => hle _ _ (hE.le x m' e), fun x hx => by rw [Sg.add_ne _ _ _ (by omega)]; exact hE.same x hx, hE.nx, hE.lo, by rw [hWh, Array.size_push]; exact Nat.le_succ_of_le hE.size, ?_, ?_, hrest.1.trans hE.rest.1, hrest.2.trans hE.rest.2⟩
      · rintro c hc ⟨x, mx, z1, z2, z3, z4⟩
        by_cases hx : x = n0 + r.i
        · subst hx
          rw [Sg.add_at] at z2; simp at z2; subst z2
          have := hE.size; omega
        · rw [Sg.add_ne _ _ _ hx] at z2
          exact hE.img c hc ⟨x, mx, z1, z2, z3, z4⟩
      · intro c hc hn
        have := hE.size
        rw [hWh, Array.getElem?_push, if_neg (by omega)]
        exact hE.frame c hc hn
    obtain ⟨s1, s2, s3⟩ := hv.slots' hp hr hh hle (hVR _ hle (Sg.add_at _ _ _)) hput
    refine ⟨_, W1, putA tm r.o.dst v', ⟨hreach', ⟨kk, G, hG, hR1, hnx, hE1, quiet a⟩, fun j hj hn => by
      rw [Sg.add_ne _ _ _ (fun e => hn (.inr (by omega)))]; exact hv.none j hj (fun q => hn (.inl q)), s1, s2, s3⟩, ?_⟩
    have hdoes : Does P (atR b tm ds (.inRegion ops (r.i :: rest) :: k)) cs W (atR b tm ds (.inRegion ops (r.i :: rest) :: k)) (execOp (Act.eval ⟨tm, ds⟩) r.o) W := by
      unfold Does; rw [stepG_atR hop hwt (fun c hc => by simp [makesMem, hc] at hmk)]
    have hfin : ∀ v', (atR b tm ds (.inRegion ops (r.i :: rest) :: k)).finish v' = atR b (putA tm r.o.dst v') ds (.inRegion ops rest :: k) := fun v' => by rw [finish_op, hop]; rfl
    have := does_value hdoes hrun
    rw [hfin] at this
    exact .one this
  | @act A1 A' saved haft hhide hov hA g a m lk =>
    have hpre : ∃ p, Df.acts = p ++ Da.acts := ⟨pre2 ++ [r.i], by rw [ea2, a]; simp⟩
    have hk1 := ahead haft hpre
    have hati : (actsOf Df)[Da.acts.length]? = some r.i := actsOf_at (by rw [ea2, a])
    have hkk : kk = Da.acts.length := by
      rcases Nat.lt_or_ge Da.acts.length kk with hlt | hge
      · exact absurd ((hacts _ _ hati).2 hlt) hS
      · omega
    obtain ⟨G2, pre, preA, e1, e2, e3, e4⟩ := gap_R (base := base) l2 D1 Df hh.snd hlen1
    have hGA : G = Da.A := by
      have := gapsOf_at (D := Da) (G := Da.A) (pre := pre ++ [G2]) (Df := Df) (by rw [e1, g]; simp)
      rw [hlenA, ← hkk, hG] at this
      simpa using this
    subst hGA
    obtain ⟨d1, d2, d3, d4, d5⟩ := hide_spec _ _ _ _ hhide
    obtain ⟨hR1, _⟩ := hR.sub d1 d2 (fun b o h => (d3 b o h).1)
    obtain ⟨σ1, W1, v', h1, h2, h3, h4⟩ := op_step hC hY hov hR1 htr (b := b) (ds := ds) (k := k) (cs := cs) (ops := ops) (i := r.i) (rest := rest) hop hwt
    have hid : ∀ b o, (b, o) ∈ saved → ∃ j, j < ops.size ∧ b = n0 + j := fun b o hs => by
      obtain ⟨_, j, hj, q⟩ := d4 b o hs
      refine ⟨j, ?_, q⟩
      rcases mks_ids l1 D0 Da hh.fst j (List.mem_filter.1 hj).1 with q | ⟨x, q1, q2⟩
      · rw [hp.m0] at q; simp at q
      · rw [← q2]; exact hp.lt (in1 x q1)
    obtain ⟨k1, k2⟩ := hR.unhide (s := saved) ⟨d1, d2, fun b o h => ⟨(d3 b o h).1, fun o' ho' => by
        obtain ⟨_, j, hj, q⟩ := d4 b o' ho'
        exact (d3 b o h).2 j hj q⟩⟩ (fun b o hs => (d4 b o hs).1) (fun b o hs => by obtain ⟨j, q1, q2⟩ := hid b o hs; omega)
        (fun b o hs => by obtain ⟨j, q1, q2⟩ := hid b o hs; rw [hE.lo]; omega) h1 h2
    rw [← hA] at k1 k2
    obtain ⟨g1, g2, g3⟩ := e4 σ1 W1 k1 fun x hx hxm hxa => by
      rw [k2.same _ (by have := hp.lt (in2 x hx); omega)]
      refine ⟨hv.none x.i (hp.lt (in2 x hx)) fun hc => hS (hv.reach _ _ hc (hp.reach (in2 x hx) ?_)), by have := hp.lt (in2 x hx); have := k2.nx; omega⟩
      rw [a] at hxa; exact hxa
    have hle : σ.le σ1 := k2.le
    obtain ⟨s1, s2, s3⟩ := hv.slots' hp hr hh hle h3 hput
    refine ⟨σ1, W1, putA tm r.o.dst v', ⟨hreach', ⟨kk + 1, G2, ?_, g1, by have := k2.nx; omega, (hE.trans k2).trans g2, fun q j hq => ?_⟩, fun j hj hn => by
      rw [k2.same _ (by omega)]; exact hv.none j hj (fun q => hn (.inl q)), s1, s2, s3⟩, h4⟩
    · have := gapsOf_at e1
      rw [hlen1, a, List.length_cons, ← hkk] at this
      exact this
    · have h0 := hacts q j hq
      have hji : j = r.i → q = kk := by
        rintro rfl
        have hrev : actsOf Df = Da.acts.reverse ++ r.i :: pre2.reverse := by unfold actsOf; rw [ea2, a]; simp
        rw [hrev] at hq
        rcases Nat.lt_trichotomy q kk with hlt | heq | hgt
        · rw [List.getElem?_append_left (by simp; omega)] at hq
          have := List.mem_of_getElem? hq
          rw [List.mem_reverse, ea1] at this
          obtain ⟨x, z1, z2⟩ := ei1 _ this
          exact absurd z2 (hh.ne1 x z1)
        · exact heq
        · rw [List.getElem?_append_right (by simp; omega)] at hq
          obtain ⟨z, hz⟩ : ∃ z, q - Da.acts.reverse.length = z + 1 := ⟨q - Da.acts.length - 1, by simp; omega⟩
          rw [hz, List.getElem?_cons_succ] at hq
          have := List.mem_of_getElem? hq
          rw [List.mem_reverse] at this
          obtain ⟨x, z1, z2⟩ := ei2 _ this
          exact absurd z2 (hh.ne2 x z1)
      constructor
      · rintro (h | h)
        · have := h0.1 h; omega
        · have := hji h; omega
      · intro h
        rcases Nat.lt_or_ge q kk with hlt | hge
        · exact .inl (h0.2 hlt)
        · have : q = Da.acts.length := by omega
          rw [this, hati] at hq
          simp at hq; exact .inr hq.symm

end Go.Eng
