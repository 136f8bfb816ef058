/- The engine, part Sc: every order of a region in which blocks are written does what the order of the text shows. -/
import Derived.Test.YtflkcganpgjkkaaDoorEngSb
namespace Go.Sx
open Go
set_option linter.unusedSimpArgs false
set_option linter.unusedVariables false

theorem restr_all {keep : Nat → Prop} [DecidablePred keep] : ∀ {m : Mem}, (∀ i, keep i) → restr keep m = m
  | [], _ => rfl
  | (i, B) :: r, h => by unfold restr; rw [if_pos (h i), restr_all h]

section
variable {C : Ctx} {N : Nat}

theorem opdOk_store {P : Program} {o : Op} {k : Nat} {a y : Opd} (h : chkO P o (.store k a y) = true) : True := trivial

/-- A REGION WHOSE ORDER IS OPEN AND IN WHICH BLOCKS ARE WRITTEN -/
theorem drawW_ok (X : CtxOk C) {id : Nat} {ops : Array Oper} {qs : List Opr} {k : Nat} (hc : chkD C.P N ops.toList qs k = true) {fr : Fr} {m : Mem} {n : Nat} {ρ : Env} {a : Act} {w : World}
    {F : Fr → Mem → Nat → Prop} {Q : Exit → Act → World → Prop}
    (hF : exW C.T (callT C.P C.T) fr m (qs.take k) [] n fun done n' => exR C.T (callT C.P C.T) (qs.drop k) (dels (frD (baseD done).reverse fr) (kills (qs.take k))) (updsW done (memD (baseD done).reverse m)) n' F)
    (R : Rel C N ρ fr m n a w) (hQ : ∀ ρ' fr' m' n' a' w', F fr' m' n' → Rel C N ρ' fr' m' n' a' w' → Q .normal a' w') :
    (Code.region id ops true).wp C.P Q a w := by
  classical
  unfold chkD at hc
  simp only [Bool.and_eq_true, decide_eq_true_eq] at hc
  obtain ⟨⟨⟨⟨⟨⟨k1, k2⟩, k3⟩, k4⟩, k5⟩, k6⟩, k7⟩ := hc
  obtain ⟨hlen, hget⟩ := chkOps_get k2
  have hpre : ∀ i, i < qs.length → preOk ops.toList qs i = true := fun i hi => all_range k3 hi
  have hlast : ∀ (i : Nat) q, qs[i]? = some q → k ≤ i → ∀ j < i, j ∈ q.pre := by
    intro i q hq hki j hj
    have hi : i < qs.length := by
      rcases Nat.lt_or_ge i qs.length with h | h
      · exact h
      · rw [List.getElem?_eq_none h] at hq; cases hq
    have := all_range k6 hi
    simp only [hq, Bool.or_eq_true, decide_eq_true_eq] at this
    rcases this with h | h
    · omega
    · simpa using all_range h hj
  obtain ⟨D, nl, h1, h2, h3, h4, h5⟩ := exW_trace (callT_point C.P C.T) (qs.take k) [] n _ hF
  simp only [List.nil_append] at h1 h4
  have hDk : D.length = k := by rw [h2]; simp; omega
  have hDq : ∀ (j : Nat) (x : DW), D[j]? = some x → j < k ∧ ∃ q, qs[j]? = some q ∧ StepW C.T (callT C.P C.T) fr m (D.take j) q x ∧ x.d.dst = q.dst ∧ n ≤ x.d.lo ∧ x.d.lo ≤ x.d.hi ∧ x.d.hi ≤ nl := by
    intro j x hj
    have hjk : j < k := by
      rcases Nat.lt_or_ge j D.length with h | h
      · omega
      · rw [List.getElem?_eq_none h] at hj; cases hj
    have hjq : j < qs.length := by omega
    refine ⟨hjk, qs[j], List.getElem?_eq_getElem hjq, ?_⟩
    obtain ⟨d, g1, g2, g3, g4⟩ := h4 j qs[j] (by rw [List.getElem?_take_of_lt hjk]; exact List.getElem?_eq_getElem hjq)
    rw [hj] at g1; cases g1; exact ⟨g2, g3, g4⟩
  refine wp_region_any k1 ?_
  have R1 : Rel C N ρ fr m n a { w with drawn := w.drawn + 1 } := ⟨R.fr, R.mem.heap_eq rfl ⟨rfl, rfl⟩, R.defers, R.size, R.n0⟩
  have hhiAll : ∀ (j : Nat) (x : DW), D[j]? = some x → x.d.hi ≤ nl := fun j x hj => by
    obtain ⟨_, q, _, _, _, _, _, g⟩ := hDq j x hj; exact g
  -- the first phase
  have phase1 : ∀ (fuel : Nat) (listed : Array Bool) (ρ : Env) (a : Act) (w : World), listed.size = qs.length → cnt listed + fuel = qs.length → (∀ j, listed[j]? = some true → j < k) →
      (∀ (j : Nat) (o : Oper), ops.toList[j]? = some o → listed[j]? = some true → ∀ e ∈ edges o, listed[e]? = some true) →
      InvW C N n nl fr m D (fun j => listed[j]? = some true) ρ a w → wpAny C.P .any ops Q fuel listed a w := by
    intro fuel
    induction fuel with
    | zero =>
      intro listed ρ a w hsz hcnt hlk hcl I
      have hall : ∀ j, j < qs.length → listed[j]? = some true := fun j hj => cnt_all (by omega) j (by omega)
      have hkq : k = qs.length := by
        rcases Nat.lt_or_ge k qs.length with h | h
        · have := hlk k (hall k h); omega
        · omega
      exact tail_ok X k2 hpre hlast hQ 0 k (Nat.le_refl _) (by omega) listed _ _ nl ρ a w hsz (fun j => ⟨hlk j, fun h => hall j (by omega)⟩) h1 (I.whole (fun j x hj => hall j (by have := (hDq j x hj).1; omega)) h3 hhiAll R.n0 _)
    | succ fuel ih =>
      intro listed ρ a w hsz hcnt hlk hcl I
      by_cases hall : ∀ j, j < k → listed[j]? = some true
      · have hfk : k + (fuel + 1) = qs.length := by
          have : cnt listed = k := cnt_prefix (fun j => ⟨hlk j, hall j⟩) (by omega)
          omega
        exact tail_ok X k2 hpre hlast hQ (fuel + 1) k (Nat.le_refl _) hfk listed _ _ nl ρ a w hsz (fun j => ⟨hlk j, hall j⟩) h1 (I.whole (fun j x hj => hall j (hDq j x hj).1) h3 hhiAll R.n0 _)
      · have hnot : ∀ j ∈ Region.ready .any ops listed, j < k := by
          intro j hj
          obtain ⟨o, g1, g2, g3⟩ := mem_ready.1 hj
          have hjf := getD_false.1 g2
          have hjq : j < qs.length := by
            rcases Nat.lt_or_ge j listed.size with h | h
            · omega
            · rw [Array.getElem?_eq_none h] at hjf; cases hjf
          rcases Nat.lt_or_ge j k with h | h
          · exact h
          · exfalso
            refine hall fun q hq => ?_
            exact pre_closed (by simpa using hlen) hpre (S := fun j => listed[j]? = some true) hcl j o qs[j] g1 (List.getElem?_eq_getElem hjq) (fun e he => getD_true.1 (g3 e he)) q
              (hlast j _ (List.getElem?_eq_getElem hjq) h q (by omega))
        refine ⟨fun hnil => ?_, fun i hi => ?_⟩
        · exfalso
          refine hall ?_
          have : ∀ j, j < qs.length → listed[j]? = some true := by
            intro j
            induction j using Nat.strongRecOn with
            | _ j ih2 =>
              intro hj
              cases hb : listed[j]? with
              | none => rw [Array.getElem?_eq_none_iff] at hb; omega
              | some b =>
                cases b with
                | true => rfl
                | false =>
                  have hjo : j < ops.toList.length := by omega
                  have hp := hpre j hj
                  unfold preOk at hp
                  rw [List.getElem?_eq_getElem hjo, List.getElem?_eq_getElem hj] at hp
                  simp only [Bool.and_eq_true, List.all_eq_true, decide_eq_true_eq] at hp
                  have : j ∈ Region.ready .any ops listed := mem_ready.2 ⟨_, List.getElem?_eq_getElem hjo, getD_false.2 hb, fun e he => getD_true.2 (ih2 e (hp.1 e he) (by have := hp.1 e he; omega))⟩
                  rw [hnil] at this; cases this
          exact fun j hj => this j (by omega)
        · have hik := hnot i hi
          obtain ⟨o, g1, g2, g3⟩ := mem_ready.1 hi
          have hif := getD_false.1 g2
          have hiq : i < qs.length := by omega
          have hq : qs[i]? = some qs[i] := List.getElem?_eq_getElem hiq
          obtain ⟨c1, c2, c3, c4⟩ := hget i o _ g1 hq
          have hiD : i < D.length := by omega
          have hDi : D[i]? = some D[i] := List.getElem?_eq_getElem hiD
          obtain ⟨_, q', hq', hstep, s1, s4, s2, s5⟩ := hDq i _ hDi
          rw [hq] at hq'; cases hq'
          have hprei := hpre i hiq
          unfold preOk at hprei
          rw [g1, hq] at hprei
          simp only [Bool.and_eq_true, List.all_eq_true, decide_eq_true_eq] at hprei
          have hpS : ∀ p ∈ qs[i].pre, listed[p]? = some true := pre_closed (by simpa using hlen) hpre (S := fun j => listed[j]? = some true) hcl i o _ g1 hq (fun e he => getD_true.1 (g3 e he))
          have hpick : pickD (baseD (D.take i)) qs[i].pre = pickD (baseD D) qs[i].pre := by
            have hall2 : ∀ l : List Nat, (∀ p ∈ l, p < i) → pickD (baseD (D.take i)) l = pickD (baseD D) l := by
              intro l
              induction l with
              | nil => intro _; rfl
              | cons p l ihl =>
                intro hl
                have e : (baseD (D.take i))[p]? = (baseD D)[p]? := by
                  rw [baseD_eq, baseD_eq, List.getElem?_map, List.getElem?_map, List.getElem?_take_of_lt (hl p List.mem_cons_self)]
                unfold pickD
                rw [e, ihl (fun q hq => hl q (List.mem_cons_of_mem _ hq))]
            exact hall2 _ fun p hp => (hprei.2 p hp).1
          have hnS : ¬ (listed[i]? = some true) := by rw [hif]; simp
          have hhide : ∀ (j : Nat) (x : DW) d, D[j]? = some x → listed[j]? = some true → x.d.dst = some d → d ∈ qs[i].hide ∨ j ∈ qs[i].pre := by
            intro j x d hj hjS hd
            obtain ⟨hjk, qj, hqj, _, t1, _⟩ := hDq j x hj
            have hji : j ≠ i := fun e => by rw [e, hif] at hjS; cases hjS
            have hh := all_range k4 hiq
            unfold hideOk at hh
            simp only [hq] at hh
            have := all_range hh (show j < qs.length by omega)
            rw [hqj] at this
            simp only [Bool.or_eq_true, beq_iff_eq] at this
            rcases this with h | h
            · exact absurd h hji
            · rw [← t1, hd] at h
              simp only [Bool.or_eq_true] at h
              rcases h with (h | h) | h
              · exact .inl (by simpa using h)
              · exact .inr (by simpa using h)
              · exfalso
                have hjo : j < ops.toList.length := by omega
                have := pre_closed (by simpa using hlen) hpre (S := fun j => listed[j]? = some true) hcl j _ qj (List.getElem?_eq_getElem hjo) hqj (fun e he => hcl j _ (List.getElem?_eq_getElem hjo) hjS e he) i (by simpa using h)
                rw [hif] at this; cases this
          have hloP : ∀ p ∈ qs[i].pre, ∀ x, D[p]? = some x → x.d.hi ≤ D[i].d.lo := fun p hp x hx => h5 p i x D[i] (hprei.2 p hp).1 hx hDi
          have hdist : ∀ (j : Nat) (x : DW) d, D[j]? = some x → j ≠ i → x.d.dst = some d → D[i].d.dst ≠ some d := by
            intro j x d hj hji hd
            obtain ⟨hjk, qj, hqj, _, t1, _⟩ := hDq j x hj
            have := all_range (all_range k5 (show j < qs.length by omega)) hiq
            rw [hqj, hq] at this
            simp only [Bool.or_eq_true, beq_iff_eq, bne_iff_ne] at this
            rcases this with h | h | h
            · exact absurd h hji
            · rw [← t1, hd] at h; cases h
            · rw [← t1, hd] at h; rw [s1]; exact fun e => h e.symm
          have hdN : ∀ d, D[i].d.dst = some d → d < N := fun d hd => c2 d (by rw [c1, ← s1]; exact hd)
          have hdisj : ∀ (j : Nat) (x : DW), D[j]? = some x → j ≠ i → x.d.hi ≤ D[i].d.lo ∨ D[i].d.hi ≤ x.d.lo := by
            intro j x hj hji
            rcases Nat.lt_or_gt_of_ne hji with h | h
            · exact .inl (h5 j i x D[i] h hj hDi)
            · exact .inr (h5 i j D[i] x h hDi hj)
          have hcl' : ∀ (j : Nat) (o : Oper), ops.toList[j]? = some o → (listed.setIfInBounds i true)[j]? = some true → ∀ e ∈ edges o, (listed.setIfInBounds i true)[e]? = some true := by
            intro j oj hj hjt e he
            rw [set_listed (by omega)] at hjt ⊢
            rcases hjt with h | rfl
            · exact .inl (hcl j oj hj h e he)
            · rw [g1] at hj; cases hj; exact .inl (getD_true.1 (g3 e he))
          have hlk' : ∀ j, (listed.setIfInBounds i true)[j]? = some true → j < k := fun j hj => by
            rw [set_listed (by omega)] at hj
            rcases hj with h | rfl
            · exact hlk j h
            · exact hik
          have hSeq : (fun j => (listed.setIfInBounds i true)[j]? = some true) = fun j => listed[j]? = some true ∨ j = i := by
            funext j; exact propext (set_listed (by omega))
          have goOn : ∀ y w' ρ'', InvW C N n nl fr m D (fun j => listed[j]? = some true ∨ j = i) ρ'' (a.put D[i].d.dst y) w' → wpAny C.P .any ops Q fuel (listed.setIfInBounds i true) (a.put o.dst y) w' := by
            intro y w' ρ'' I2
            rw [c1, ← s1]
            exact ih _ ρ'' _ w' (by simpa using hsz) (by rw [cnt_set hif]; omega) hlk' hcl' (by rw [hSeq]; exact I2)
          have hoo : ops[i]? = some o := by rw [← Array.getElem?_toList]; exact g1
          -- a store that is done, and this operation
          have hstored : ∀ b, Stored D (fun j => listed[j]? = some true) b → ∃ (j : Nat) (x : DW) (B : Blk), D[j]? = some x ∧ listed[j]? = some true ∧ x.st = some (b, B) ∧ j ≠ i ∧ ((j < i ∧ b ∈ stBlk (D.take i)) ∨ (i < j ∧ ∃ t, D[i].tc = some t ∧ b ∉ t)) := by
            rintro b ⟨j, x, B, e1, e2, e3⟩
            have hji : j ≠ i := fun e => by rw [e] at e2; exact hnS e2
            refine ⟨j, x, B, e1, e2, e3, hji, ?_⟩
            rcases Nat.lt_or_gt_of_ne hji with h | h
            · exact .inl ⟨h, mem_stBlk.2 ⟨x, List.mem_of_getElem? (by rw [List.getElem?_take_of_lt h]; exact e1), B, e3⟩⟩
            · refine .inr ⟨h, ?_⟩
              obtain ⟨hjk, qj, hqj, hst, _⟩ := hDq j x e1
              rcases hst with ⟨t1, _⟩ | ⟨_, _, _, b', _, _, _, _, _, _, _, _, _, _, _, _, hun, _, _, _, _, t1, _⟩
              · rw [t1] at e3; cases e3
              · rw [t1] at e3; cases e3
                rcases untouched_get hun i D[i] (by rw [List.getElem?_take_of_lt h]; exact hDi) with hp | hp
                · exfalso
                  have hjo : j < ops.toList.length := by omega
                  exact hnS (pre_closed (by simpa using hlen) hpre (S := fun j => listed[j]? = some true) hcl j _ qj (List.getElem?_eq_getElem hjo) hqj (fun e he => hcl j _ (List.getElem?_eq_getElem hjo) e2 e he) i (by simpa using hp))
                · exact hp
          unfold wpOp
          rw [hoo]
          simp only
          rcases hstep with ⟨t1, t2, ⟨_, _, t3⟩, _, t4⟩ | ⟨kk, aa, yy, b, off, e, cells, l, u1, u2, u3, u4, u5, u6, u7, u8, u9, u10, u11, u12, u13, u14, u15⟩
          · -- no store
            rw [hpick] at t3 t4
            have Rr := I.rel (pre := qs[i].pre) (hide := qs[i].hide) s4 hpS hloP hhide
            have Xr := I.ctx X D[i].d.lo
            have hok : (∀ b, ¬ Stored D (fun j => listed[j]? = some true) b) ∨ ∃ t, D[i].tc = some t ∧ ∀ b, Stored D (fun j => listed[j]? = some true) b → b ∉ t := by
              by_cases hex : ∃ b, Stored D (fun j => listed[j]? = some true) b
              · right
                have key : ∀ b, Stored D (fun j => listed[j]? = some true) b → ∃ t, D[i].tc = some t ∧ b ∉ t := by
                  intro b hb
                  obtain ⟨j, x, B, _, _, _, _, h | h⟩ := hstored b hb
                  · obtain ⟨t, e1, e2⟩ := clear_of t2 (fun e => by rw [e] at h; simp at h)
                    exact ⟨t, e1, e2 b h.2⟩
                  · exact h.2
                obtain ⟨b, hb⟩ := hex
                obtain ⟨t, e1, _⟩ := key b hb
                refine ⟨t, e1, fun b' hb' => ?_⟩
                obtain ⟨t', e2, e3⟩ := key b' hb'
                rw [e1] at e2; cases e2; exact e3
              · exact .inl fun b hb => hex ⟨b, hb⟩
            rcases t3 with ⟨mm, q1, q2, q3⟩ | ⟨q1, q2, q3, g, b, q4, q5⟩
            · have hwant : Region.wanted o (yielded ops a.tmps) = true := by
                rcases q3 with q3 | ⟨g, b, q3, q4⟩
                · rw [q3] at c3; exact wanted_none (guard_none c3)
                · rw [q3] at c3
                  obtain ⟨j', r1, r2⟩ := guard_bool c3
                  have := wanted_some (a := a) r1 r2 (get_bool Rr q4)
                  rw [Array.toArray_toList] at this
                  rw [this]; simp
              rw [if_pos hwant]
              have hex : ∃ mm', newer D[i].d.lo mm' = newer D[i].d.lo mm ∧ exO C.T (callT C.P C.T) (frD (pickD (baseD D) qs[i].pre) (dels fr qs[i].hide)) (restr (fun b => ¬ Stored D (fun j => listed[j]? = some true) b) (views (memD (pickD (baseD D) qs[i].pre) m))) D[i].d.lo
                  (fun a b c => a = D[i].d.v ∧ b = mm' ∧ c = D[i].d.hi) qs[i].op := by
                rcases hok with hok | ⟨t, e1, e2⟩
                · exact ⟨mm, rfl, by rw [restr_all hok]; exact q2⟩
                · rcases t4 with t4 | ⟨v1, v2, v3, g, b, v4, v5⟩
                  · rw [e1] at t4
                    exact exO_restr (keep := fun b => ¬ Stored D (fun j => listed[j]? = some true) b) t4.symm (fun b hb hs => e2 b hs hb) q2
                  · exfalso
                    rcases q3 with q3 | ⟨g', b', q3, q4⟩
                    · rw [q3] at v4; cases v4
                    · rw [q3] at v4; cases v4
                      rcases v5 with v5 | ⟨vs, v5⟩
                      · rw [q4] at v5; simp at v5
                      · rw [q4] at v5; cases v5
              obtain ⟨mm', p1, p2⟩ := hex
              refine .inl (op_wp Xr Rr c4 p2 ?_)
              rintro y w' ρ' v m' n' e1 ⟨rfl, rfl, rfl⟩ e3 e4 _
              obtain ⟨ρ'', I2⟩ := I.step hDi t1 hnS s4 s2 s5 R.n0 hdist hdN hdisj e1 (by rw [q1, p1]) e3 e4
              exact goOn y w' ρ'' I2
            · have hwant : Region.wanted o (yielded ops a.tmps) = false := by
                rw [q4] at c3
                obtain ⟨j', r1, r2⟩ := guard_bool c3
                rcases q5 with q5 | ⟨vs, q5⟩
                · have := wanted_some (a := a) r1 r2 (get_bool Rr q5)
                  rw [Array.toArray_toList] at this
                  rw [this]; cases b <;> rfl
                · have := wanted_undef (a := a) r1 r2 (get_undef Rr q5)
                  rw [Array.toArray_toList] at this
                  exact this
              rw [if_neg (by rw [hwant]; simp)]
              obtain ⟨ρ'', I2⟩ := I.skip hDi t1 hnS q1 q2 q3 s4 s5 R.n0 hdist hdN hdisj
              exact goOn undef w ρ'' I2
          · -- a store
            rw [hpick] at u3 u4 u5
            have hns : ¬ Stored D (fun j => listed[j]? = some true) b := by
              intro hb
              obtain ⟨j, x, B, _, _, _, _, h | h⟩ := hstored b hb
              · have : (stBlk (D.take i)).contains b = true := by simpa using h.2
                rw [u8] at this; cases this
              · obtain ⟨_, t, ht, _⟩ := h
                rw [u15] at ht; cases ht
            obtain ⟨Rs, Xs⟩ := I.relS X (pre := qs[i].pre) (hide := qs[i].hide) s4 hpS hloP hhide u4 hns
            rw [u2] at c3
            rw [if_pos (wanted_none (guard_none c3))]
            have hex : exO C.T (callT C.P C.T) (frD (pickD (baseD D) qs[i].pre) (dels fr qs[i].hide)) [(b, ⟨.own e, cells⟩)] D[i].d.lo
                (fun v m' n' => v = .any ∧ m' = [(b, ⟨.own e, splice cells off l⟩)] ∧ n' = D[i].d.lo) qs[i].op := by
              rw [u1]
              simp only [exO, u3]
              exact ⟨⟨.own e, cells⟩, e, l, by simp [rd], rfl, u5, u6, u7, by simp [upd]⟩
            refine .inl (op_wp Xs Rs c4 hex ?_)
            rintro y w' ρ' v m' n' e1 ⟨rfl, rfl, rfl⟩ e3 e4 _
            exact goOn y w' ρ (I.store hDi u14 hnS s4 u13 u12 u11 hpS hloP u4 hns hdist hdN e4)
  refine phase1 ops.size (Array.replicate ops.size false) ρ a _ ?_ ?_ ?_ ?_ ?_
  · simp at hlen ⊢; exact hlen
  · have : cnt (Array.replicate ops.size false) = 0 := by unfold cnt; simp [List.count_replicate]
    simp at hlen; omega
  · intro j hj
    rw [Array.getElem?_replicate] at hj
    split at hj <;> simp at hj
  · intro j o _ hj
    rw [Array.getElem?_replicate] at hj
    split at hj <;> simp at hj
  · have I := InvW.start (nl := nl) (D := D) R1 (fun j x hj => (hDq j x hj).2.choose_spec.2.2.2.1) h3
    have : (fun j : Nat => (Array.replicate ops.size false)[j]? = some true) = fun _ => False := by
      funext j
      apply propext
      constructor
      · intro hj
        rw [Array.getElem?_replicate] at hj
        split at hj <;> simp at hj
      · exact False.elim
    rw [this]; exact I
end
end Go.Sx
