/- The engine, part S: every order of a region does what the order of the text shows. -/
import Derived.Test.YtflkcganpgjkkaaDoorEngR
namespace Go.Sx
open Go
set_option linter.unusedSimpArgs false
set_option linter.unusedVariables false

theorem mem_ready {ops : Array Oper} {listed : Array Bool} {i : Nat} : i ∈ Region.ready .any ops listed ↔
    ∃ o, ops.toList[i]? = some o ∧ listed.getD i true = false ∧ ∀ e ∈ edges o, listed.getD e false = true := by
  unfold Region.ready
  rw [List.mem_filter, List.mem_range]
  constructor
  · rintro ⟨h1, h2⟩
    simp only [Bool.and_eq_true, Bool.not_eq_true'] at h2
    obtain ⟨h3, h4⟩ := h2
    refine ⟨ops[i], by simp [h1], h3, ?_⟩
    rw [Array.getElem?_eq_getElem h1] at h4
    simp only [Option.map_some, Option.getD_some, Array.all_eq_true_iff_forall_mem] at h4
    intro e he
    unfold edges at he
    obtain ⟨x, hx, rfl⟩ := List.mem_map.1 he
    obtain ⟨hx1, hx2⟩ := List.mem_filter.1 hx
    have := h4 x (by simpa using hx1)
    simpa [hx2] using this
  · rintro ⟨o, h1, h2, h3⟩
    have hlt : i < ops.size := by
      rcases Nat.lt_or_ge i ops.size with h | h
      · exact h
      · rw [List.getElem?_eq_none (by simpa using h)] at h1; cases h1
    refine ⟨hlt, ?_⟩
    simp only [Bool.and_eq_true, Bool.not_eq_true']
    refine ⟨h2, ?_⟩
    have ho : ops[i]? = some o := by simpa using h1
    rw [ho]
    simp only [Option.map_some, Option.getD_some, Array.all_eq_true_iff_forall_mem]
    intro x hx
    cases hb : Region.binds .any x with
    | false => rfl
    | true =>
      have := h3 x.on (by unfold edges; exact List.mem_map.2 ⟨x, List.mem_filter.2 ⟨by simpa using hx, hb⟩, rfl⟩)
      simp [this]

theorem getD_true {listed : Array Bool} {i : Nat} : listed.getD i false = true ↔ listed[i]? = some true := by
  rw [Array.getD_eq_getD_getElem?]
  cases h : listed[i]? with
  | none => simp
  | some b => simp
theorem getD_false {listed : Array Bool} {i : Nat} : listed.getD i true = false ↔ listed[i]? = some false := by
  rw [Array.getD_eq_getD_getElem?]
  cases h : listed[i]? with
  | none => simp
  | some b => simp

theorem set_listed {listed : Array Bool} {i j : Nat} (hi : i < listed.size) : (listed.setIfInBounds i true)[j]? = some true ↔ listed[j]? = some true ∨ j = i := by
  by_cases h : j = i
  · subst h; simp [hi]
  · rw [Array.getElem?_setIfInBounds_ne (Ne.symm h)]; simp [h]

/-- how many are done -/
def cnt (l : Array Bool) : Nat := l.toList.count true
theorem count_set : ∀ (q : List Bool) (i : Nat), q[i]? = some false → (q.set i true).count true = q.count true + 1
  | [], i, h => by simp at h
  | b :: q, 0, h => by simp at h; subst h; simp
  | b :: q, i + 1, h => by
    simp only [List.set_cons_succ, List.count_cons]
    rw [count_set q i (by simpa using h)]; omega
theorem cnt_set {l : Array Bool} {i : Nat} (h : l[i]? = some false) : cnt (l.setIfInBounds i true) = cnt l + 1 := by
  unfold cnt
  rw [Array.toList_setIfInBounds]
  exact count_set _ _ (by simpa using h)
theorem cnt_prefix {l : Array Bool} {k : Nat} (h : ∀ j : Nat, l[j]? = some true ↔ j < k) (hk : k ≤ l.size) : cnt l = k := by
  have : l.toList = List.replicate k true ++ List.replicate (l.size - k) false := by
    apply List.ext_getElem?
    intro j
    rw [Array.getElem?_toList]
    by_cases hj : j < k
    · rw [(h j).2 hj, List.getElem?_append_left (by simpa using hj)]; simp [hj]
    · rw [List.getElem?_append_right (by simp; omega)]
      rcases Nat.lt_or_ge j l.size with hs | hs
      · have : l[j]? = some false := by
          rw [Array.getElem?_eq_getElem hs]
          cases hb : l[j] with
          | false => rfl
          | true => exact absurd ((h j).1 (by rw [Array.getElem?_eq_getElem hs, hb])) hj
        rw [this, List.getElem?_replicate, if_pos (by simp; omega)]
      · rw [Array.getElem?_eq_none hs, List.getElem?_replicate, if_neg (by simp; omega)]
  unfold cnt
  rw [this]; simp [List.count_replicate]
theorem cnt_le (l : Array Bool) : cnt l ≤ l.size := by
  unfold cnt; rw [← Array.length_toList]; exact List.count_le_length
theorem cnt_all {l : Array Bool} (h : cnt l = l.size) (i : Nat) (hi : i < l.size) : l[i]? = some true := by
  unfold cnt at h
  rw [← Array.length_toList] at h
  have := List.count_eq_length.1 h l[i] (by simp)
  rw [Array.getElem?_eq_getElem hi, ← this]

section
variable {C : Ctx} {N : Nat}

theorem chkOps_get {P : Program} {all : List Oper} : ∀ {os : List Oper} {qs : List Opr}, chkOps P N all os qs = true → os.length = qs.length ∧
    ∀ (i : Nat) o q, os[i]? = some o → qs[i]? = some q → o.dst = q.dst ∧ (∀ d, o.dst = some d → d < N) ∧ guardOk all o q.guard = true ∧ chkO P o.op q.op = true
  | [], [], _ => ⟨rfl, by simp⟩
  | o :: os, q :: qs, h => by
    simp only [chkOps, Bool.and_eq_true, beq_iff_eq] at h
    obtain ⟨⟨⟨⟨c1, c2⟩, c3⟩, c4⟩, c5⟩ := h
    obtain ⟨h1, h2⟩ := chkOps_get c5
    refine ⟨by simp [h1], fun i o' q' ho hq => ?_⟩
    cases i with
    | zero =>
      simp at ho hq; subst ho; subst hq
      exact ⟨c1, fun d hd => by rw [hd] at c2; simpa using c2, c3, c4⟩
    | succ i => exact h2 i o' q' (by simpa using ho) (by simpa using hq)
  | [], _ :: _, h => by simp [chkOps] at h
  | _ :: _, [], h => by simp [chkOps] at h

theorem guard_bool {all : List Oper} {o : Oper} {g : Nat} {b : Bool} (h : guardOk all o (some (g, b)) = true) : ∃ j, o.guard = some (j, b) ∧ ((all[j]?).bind (·.dst)) = some g := by
  unfold guardOk at h
  cases ho : o.guard with
  | none => simp [ho] at h
  | some x =>
    obtain ⟨j, b'⟩ := x
    simp only [ho, Bool.and_eq_true, beq_iff_eq] at h
    exact ⟨j, by rw [h.2], h.1⟩
theorem guard_none {all : List Oper} {o : Oper} (h : guardOk all o none = true) : o.guard = none := by
  unfold guardOk at h
  cases ho : o.guard with
  | none => rfl
  | some x => simp [ho] at h

/-- the tail, one after the other -/
theorem tail_ok (X : CtxOk C) {ops : Array Oper} {qs : List Opr} {Q : Exit → Act → World → Prop} {F : Fr → Mem → Nat → Prop} (hc : chkOps C.P N ops.toList ops.toList qs = true)
    (hpre : ∀ i, i < qs.length → preOk ops.toList qs i = true) {k : Nat} (hlast : ∀ (i : Nat) q, qs[i]? = some q → k ≤ i → ∀ j < i, j ∈ q.pre)
    (hQ : ∀ ρ' fr' m' n' a' w', F fr' m' n' → Rel C N ρ' fr' m' n' a' w' → Q .normal a' w') :
    ∀ (fuel i : Nat), k ≤ i → i + fuel = qs.length → ∀ (listed : Array Bool) (fr : Fr) (m : Mem) (n : Nat) (ρ : Env) (a : Act) (w : World), listed.size = qs.length → (∀ j, listed[j]? = some true ↔ j < i) →
      exR C.T (callT C.P C.T) (qs.drop i) fr m n F → Rel C N ρ fr m n a w → wpAny C.P .any ops Q fuel listed a w := by
  obtain ⟨hlen, hget⟩ := chkOps_get hc
  simp only [Array.length_toList] at hlen
  intro fuel
  induction fuel with
  | zero =>
    intro i hki hi listed fr m n ρ a w hsz hl hF R
    rw [List.drop_of_length_le (by omega)] at hF
    refine ⟨?_, hQ ρ fr m n a w (by simpa [exR] using hF) R⟩
    rw [List.eq_nil_iff_forall_not_mem]
    intro j hj
    obtain ⟨o, h1, h2, _⟩ := mem_ready.1 hj
    have := (hl j).2 (by
      rcases Nat.lt_or_ge j ops.size with h | h
      · omega
      · rw [List.getElem?_eq_none (by simpa using h)] at h1; cases h1)
    rw [getD_false.1 h2] at this; cases this
  | succ fuel ih =>
    intro i hki hi listed fr m n ρ a w hsz hl hF R
    have hiq : i < qs.length := by omega
    have hio : i < ops.toList.length := by simp; omega
    have hq : qs[i]? = some qs[i] := List.getElem?_eq_getElem hiq
    have ho : ops.toList[i]? = some ops.toList[i] := List.getElem?_eq_getElem hio
    obtain ⟨c1, c2, c3, c4⟩ := hget i _ _ ho hq
    have hclosed : ∀ (j : Nat) (o : Oper), ops.toList[j]? = some o → listed[j]? = some true → ∀ e ∈ edges o, listed[e]? = some true := by
      intro j o hj hjt e he
      have hji := (hl j).1 hjt
      have := hpre j (by omega)
      unfold preOk at this
      rw [hj, List.getElem?_eq_getElem (show j < qs.length by omega)] at this
      simp only [Bool.and_eq_true, List.all_eq_true, decide_eq_true_eq] at this
      exact (hl e).2 (by have := this.1 e he; omega)
    have only : ∀ j ∈ Region.ready .any ops listed, j = i := by
      intro j hj
      obtain ⟨o, h1, h2, h3⟩ := mem_ready.1 hj
      have hjf := getD_false.1 h2
      have hjn : ¬ j < i := fun h => by rw [(hl j).2 h] at hjf; cases hjf
      have hjq : j < qs.length := by
        rcases Nat.lt_or_ge j listed.size with h | h
        · omega
        · rw [Array.getElem?_eq_none h] at hjf; cases hjf
      rcases Nat.lt_or_ge i j with h | h
      · have hp := pre_closed (by simpa using hlen) hpre (S := fun j => listed[j]? = some true) hclosed j o qs[j] h1 (List.getElem?_eq_getElem hjq) (fun e he => getD_true.1 (h3 e he)) i
          (hlast j _ (List.getElem?_eq_getElem hjq) (by omega) i h)
        have := (hl i).1 hp; omega
      · omega
    have isReady : i ∈ Region.ready .any ops listed := by
      refine mem_ready.2 ⟨_, ho, getD_false.2 ?_, fun e he => getD_true.2 ((hl e).2 ?_)⟩
      · rw [Array.getElem?_eq_getElem (by omega)]
        cases hb : listed[i] with
        | false => rfl
        | true => have := (hl i).1 (by rw [Array.getElem?_eq_getElem (by omega), hb]); omega
      · have := hpre i hiq
        unfold preOk at this
        rw [ho, hq] at this
        simp only [Bool.and_eq_true, List.all_eq_true, decide_eq_true_eq] at this
        exact this.1 e he
    have hl' : ∀ j, (listed.setIfInBounds i true)[j]? = some true ↔ j < i + 1 := fun j => by
      rw [set_listed (by omega), hl j]; omega
    rw [List.drop_eq_getElem_cons hiq] at hF
    have step : ∀ y w' ρ' v m' n', ρ.le ρ' → exR C.T (callT C.P C.T) (qs.drop (i + 1)) (dels (putO fr qs[i].dst v) qs[i].kill) m' n' F → v.is ρ' y → MemOk C ρ' m' n' w' → C.n0 ≤ n' →
        wpAny C.P .any ops Q fuel (listed.setIfInBounds i true) (a.put ops.toList[i].dst y) w' := by
      intro y w' ρ' v m' n' h1 h2 h3 h4 h5
      refine ih (i + 1) (by omega) (by omega) _ _ m' n' ρ' _ w' (by simpa using hsz) hl' h2 ⟨?_, h4, by rw [put_defers]; exact R.defers, by rw [put_size]; exact R.size, h5⟩
      rw [← c1]
      exact fr_put R.fr h1 R.size c2 h3 _
    refine ⟨(fun h => by rw [h] at isReady; cases isReady), fun j hj => ?_⟩
    obtain rfl := only j hj
    have hoo : ops[j]? = some ops.toList[j] := by rw [← Array.getElem?_toList]; exact ho
    unfold wpOp
    rw [hoo]
    simp only
    simp only [exR] at hF
    cases hg : qs[j].guard with
    | none =>
      rw [hg] at c3
      simp only [hg] at hF
      rw [if_pos (wanted_none (guard_none c3))]
      exact .inl (op_wp X R c4 hF step)
    | some gb =>
      obtain ⟨g, b⟩ := gb
      rw [hg] at c3
      simp only [hg] at hF
      obtain ⟨q, hog, hj'⟩ := guard_bool c3
      have skip : exR C.T (callT C.P C.T) (qs.drop (j + 1)) (dels (putO fr qs[j].dst (.val undef)) qs[j].kill) m n F → wpAny C.P .any ops Q fuel (listed.setIfInBounds j true) (a.put ops.toList[j].dst undef) w :=
        fun h => step undef w ρ (.val undef) m n (Env.le_refl _) h (by simp only [SV.is]) R.mem R.n0
      split at hF
      · rename_i t ht
        have hw := wanted_some (a := a) hog hj' (get_bool R ht)
        rw [Array.toArray_toList] at hw
        by_cases htb : t = b
        · rw [if_pos (by rw [hw, htb]; simp)]
          exact .inl (op_wp X R c4 (hF.1 htb) step)
        · have : t = !b := by cases t <;> cases b <;> simp_all
          rw [if_neg (by rw [hw]; simpa using htb)]
          exact skip (hF.2 this)
      · rename_i vs ht
        have hw := wanted_undef (a := a) hog hj' (get_undef R ht)
        rw [Array.toArray_toList] at hw
        rw [if_neg (by rw [hw]; simp)]
        exact skip hF
      · exact hF.elim

/-- A REGION WHOSE ORDER IS OPEN -/
theorem draw_ok (X : CtxOk C) {id : Nat} {ops : Array Oper} {qs : List Opr} {k : Nat} (hc : chkD C.P N ops.toList qs k = true) {fr : Fr} {m : Mem} {n : Nat} {ρ : Env} {a : Act} {w : World}
    {F : Fr → Mem → Nat → Prop} {Q : Exit → Act → World → Prop}
    (hF : exA C.T (callT C.P C.T) fr m (qs.take k) [] n fun done n' => exR C.T (callT C.P C.T) (qs.drop k) (dels (frD done.reverse fr) (kills (qs.take k))) (memD done.reverse m) n' F)
    (R : Rel C N ρ fr m n a w) (hQ : ∀ ρ' fr' m' n' a' w', F fr' m' n' → Rel C N ρ' fr' m' n' a' w' → Q .normal a' w') :
    (Code.region id ops true).wp C.P Q a w := by
  unfold chkD at hc
  simp only [Bool.and_eq_true, decide_eq_true_eq] at hc
  obtain ⟨⟨⟨⟨⟨⟨k1, k2⟩, k3⟩, k4⟩, k5⟩, k6⟩, k7⟩ := hc
  obtain ⟨hlen, hget⟩ := chkOps_get k2
  have hpre : ∀ i, i < qs.length → preOk ops.toList qs i = true := fun i hi => all_range k3 hi
  have hlast : ∀ (i : Nat) q, qs[i]? = some q → k ≤ i → ∀ j < i, j ∈ q.pre := by
    intro i q hq hki j hj
    have hi : i < qs.length := by
      rcases Nat.lt_or_ge i qs.length with h | h
      · exact h
      · rw [List.getElem?_eq_none h] at hq; cases hq
    have := all_range k6 hi
    simp only [hq, Bool.or_eq_true, decide_eq_true_eq] at this
    rcases this with h | h
    · omega
    · simpa using all_range h hj
  obtain ⟨D, nl, h1, h2, h3, h4, h5⟩ := exA_trace (callT_point C.P C.T) (qs.take k) [] n _ hF
  simp only [List.nil_append] at h1 h4
  have hDk : D.length = k := by rw [h2]; simp; omega
  have hDq : ∀ (j : Nat) Dj, D[j]? = some Dj → j < k ∧ ∃ q, qs[j]? = some q ∧ StepOk C.T (callT C.P C.T) fr m (D.take j) q Dj ∧ n ≤ Dj.lo ∧ Dj.hi ≤ nl := by
    intro j Dj hj
    have hjk : j < k := by
      rcases Nat.lt_or_ge j D.length with h | h
      · omega
      · rw [List.getElem?_eq_none h] at hj; cases hj
    have hjq : j < qs.length := by omega
    refine ⟨hjk, qs[j], List.getElem?_eq_getElem hjq, ?_⟩
    obtain ⟨d, g1, g2, g3, g4⟩ := h4 j qs[j] (by rw [List.getElem?_take_of_lt hjk]; exact List.getElem?_eq_getElem hjq)
    rw [hj] at g1; cases g1; exact ⟨g2, g3, g4⟩
  have hstep_le : ∀ (j : Nat) Dj, D[j]? = some Dj → Dj.lo ≤ Dj.hi := fun j Dj hj => by
    obtain ⟨_, q, _, g, _⟩ := hDq j Dj hj; exact g.2.1
  refine wp_region_any k1 ?_
  have R1 : Rel C N ρ fr m n a { w with drawn := w.drawn + 1 } := ⟨R.fr, R.mem.heap_eq rfl ⟨rfl, rfl⟩, R.defers, R.size, R.n0⟩
  -- the first phase
  have phase1 : ∀ (fuel : Nat) (listed : Array Bool) (ρ : Env) (a : Act) (w : World), listed.size = qs.length → cnt listed + fuel = qs.length → (∀ j, listed[j]? = some true → j < k) →
      (∀ (j : Nat) (o : Oper), ops.toList[j]? = some o → listed[j]? = some true → ∀ e ∈ edges o, listed[e]? = some true) →
      InvD C N n nl fr m D (fun j => listed[j]? = some true) ρ a w → wpAny C.P .any ops Q fuel listed a w := by
    intro fuel
    induction fuel with
    | zero =>
      intro listed ρ a w hsz hcnt hlk hcl I
      have hall : ∀ j, j < qs.length → listed[j]? = some true := fun j hj => cnt_all (by omega) j (by omega)
      have hkq : k = qs.length := by
        rcases Nat.lt_or_ge k qs.length with h | h
        · have := hlk k (hall k h); omega
        · omega
      refine tail_ok X k2 hpre hlast hQ 0 k (Nat.le_refl _) (by omega) listed _ _ nl ρ a w hsz (fun j => ⟨hlk j, fun h => hall j (by omega)⟩) h1 (I.whole (fun j Dj hj => hall j (by have := (hDq j Dj hj).1; omega)) h3 (fun j Dj hj => (hDq j Dj hj).2.choose_spec.2.2.2) R.n0 _)
    | succ fuel ih =>
      intro listed ρ a w hsz hcnt hlk hcl I
      by_cases hall : ∀ j, j < k → listed[j]? = some true
      · have hfk : k + (fuel + 1) = qs.length := by
          have : cnt listed = k := cnt_prefix (fun j => ⟨hlk j, hall j⟩) (by omega)
          omega
        exact tail_ok X k2 hpre hlast hQ (fuel + 1) k (Nat.le_refl _) hfk listed _ _ nl ρ a w hsz (fun j => ⟨hlk j, hall j⟩) h1 (I.whole (fun j Dj hj => hall j (hDq j Dj hj).1) h3 (fun j Dj hj => (hDq j Dj hj).2.choose_spec.2.2.2) R.n0 _)
      · have hnot : ∀ j ∈ Region.ready .any ops listed, j < k := by
          intro j hj
          obtain ⟨o, g1, g2, g3⟩ := mem_ready.1 hj
          have hjf := getD_false.1 g2
          have hjq : j < qs.length := by
            rcases Nat.lt_or_ge j listed.size with h | h
            · omega
            · rw [Array.getElem?_eq_none h] at hjf; cases hjf
          rcases Nat.lt_or_ge j k with h | h
          · exact h
          · exfalso
            refine hall fun q hq => ?_
            exact pre_closed (by simpa using hlen) hpre (S := fun j => listed[j]? = some true) hcl j o qs[j] g1 (List.getElem?_eq_getElem hjq) (fun e he => getD_true.1 (g3 e he)) q
              (hlast j _ (List.getElem?_eq_getElem hjq) h q (by omega))
        refine ⟨fun hnil => ?_, fun i hi => ?_⟩
        · exfalso
          refine hall ?_
          have : ∀ j, j < qs.length → listed[j]? = some true := by
            intro j
            induction j using Nat.strongRecOn with
            | _ j ih2 =>
              intro hj
              cases hb : listed[j]? with
              | none => rw [Array.getElem?_eq_none_iff] at hb; omega
              | some b =>
                cases b with
                | true => rfl
                | false =>
                  have hjo : j < ops.toList.length := by omega
                  have hp := hpre j hj
                  unfold preOk at hp
                  rw [List.getElem?_eq_getElem hjo, List.getElem?_eq_getElem hj] at hp
                  simp only [Bool.and_eq_true, List.all_eq_true, decide_eq_true_eq] at hp
                  have : j ∈ Region.ready .any ops listed := mem_ready.2 ⟨_, List.getElem?_eq_getElem hjo, getD_false.2 hb, fun e he => getD_true.2 (ih2 e (hp.1 e he) (by have := hp.1 e he; omega))⟩
                  rw [hnil] at this; cases this
          exact fun j hj => this j (by omega)
        · have hik := hnot i hi
          obtain ⟨o, g1, g2, g3⟩ := mem_ready.1 hi
          have hif := getD_false.1 g2
          have hiq : i < qs.length := by omega
          have hq : qs[i]? = some qs[i] := List.getElem?_eq_getElem hiq
          obtain ⟨c1, c2, c3, c4⟩ := hget i o _ g1 hq
          have hiD : i < D.length := by omega
          have hDi : D[i]? = some D[i] := List.getElem?_eq_getElem hiD
          obtain ⟨_, q', hq', ⟨s1, s2, s3⟩, s4, s5⟩ := hDq i _ hDi
          rw [hq] at hq'; cases hq'
          have hprei := hpre i hiq
          unfold preOk at hprei
          rw [g1, hq] at hprei
          simp only [Bool.and_eq_true, List.all_eq_true, decide_eq_true_eq] at hprei
          have hpS : ∀ p ∈ qs[i].pre, listed[p]? = some true := pre_closed (by simpa using hlen) hpre (S := fun j => listed[j]? = some true) hcl i o _ g1 hq (fun e he => getD_true.1 (g3 e he))
          have hpick : pickD (D.take i) qs[i].pre = pickD D qs[i].pre := by
            have hall2 : ∀ l : List Nat, (∀ p ∈ l, p < i) → pickD (D.take i) l = pickD D l := by
              intro l
              induction l with
              | nil => intro _; rfl
              | cons p l ihl =>
                intro hl
                unfold pickD
                rw [List.getElem?_take_of_lt (hl p List.mem_cons_self), ihl (fun q hq => hl q (List.mem_cons_of_mem _ hq))]
            exact hall2 _ fun p hp => (hprei.2 p hp).1
          rw [hpick] at s3
          have hhide : ∀ (j : Nat) Dj d, D[j]? = some Dj → listed[j]? = some true → Dj.dst = some d → d ∈ qs[i].hide ∨ j ∈ qs[i].pre := by
            intro j Dj d hj hjS hd
            obtain ⟨hjk, qj, hqj, ⟨t1, _⟩, _⟩ := hDq j Dj hj
            have hji : j ≠ i := fun e => by rw [e, hif] at hjS; cases hjS
            have hh := all_range k4 hiq
            unfold hideOk at hh
            simp only [hq] at hh
            have := all_range hh (show j < qs.length by omega)
            rw [hqj] at this
            simp only [Bool.or_eq_true, beq_iff_eq] at this
            rcases this with h | h
            · exact absurd h hji
            · rw [← t1, hd] at h
              simp only [Bool.or_eq_true] at h
              rcases h with (h | h) | h
              · exact .inl (by simpa using h)
              · exact .inr (by simpa using h)
              · exfalso
                have hjo : j < ops.toList.length := by omega
                have := pre_closed (by simpa using hlen) hpre (S := fun j => listed[j]? = some true) hcl j _ qj (List.getElem?_eq_getElem hjo) hqj (fun e he => hcl j _ (List.getElem?_eq_getElem hjo) hjS e he) i (by simpa using h)
                rw [hif] at this; cases this
          have hloP : ∀ p ∈ qs[i].pre, ∀ Dp, D[p]? = some Dp → Dp.hi ≤ D[i].lo := fun p hp Dp hDp => h5 p i Dp D[i] (hprei.2 p hp).1 hDp hDi
          have Rr := I.rel (pre := qs[i].pre) (hide := qs[i].hide) s4 hpS hloP hhide
          have Xr := I.ctx X D[i].lo
          have hdist : ∀ (j : Nat) Dj d, D[j]? = some Dj → j ≠ i → Dj.dst = some d → D[i].dst ≠ some d := by
            intro j Dj d hj hji hd
            obtain ⟨hjk, qj, hqj, ⟨t1, _⟩, _⟩ := hDq j Dj hj
            have := all_range (all_range k5 (show j < qs.length by omega)) hiq
            rw [hqj, hq] at this
            simp only [Bool.or_eq_true, beq_iff_eq, bne_iff_ne] at this
            rcases this with h | h | h
            · exact absurd h hji
            · rw [← t1, hd] at h; cases h
            · rw [← t1, hd] at h; rw [s1]; exact fun e => h e.symm
          have hdN : ∀ d, D[i].dst = some d → d < N := fun d hd => c2 d (by rw [c1, ← s1]; exact hd)
          have hdisj : ∀ (j : Nat) Dj, D[j]? = some Dj → j ≠ i → Dj.hi ≤ D[i].lo ∨ D[i].hi ≤ Dj.lo := by
            intro j Dj hj hji
            rcases Nat.lt_or_gt_of_ne hji with h | h
            · exact .inl (h5 j i Dj D[i] h hj hDi)
            · exact .inr (h5 i j D[i] Dj h hDi hj)
          have hcl' : ∀ (j : Nat) (o : Oper), ops.toList[j]? = some o → (listed.setIfInBounds i true)[j]? = some true → ∀ e ∈ edges o, (listed.setIfInBounds i true)[e]? = some true := by
            intro j oj hj hjt e he
            rw [set_listed (by omega)] at hjt ⊢
            rcases hjt with h | rfl
            · exact .inl (hcl j oj hj h e he)
            · rw [g1] at hj; cases hj; exact .inl (getD_true.1 (g3 e he))
          have hlk' : ∀ j, (listed.setIfInBounds i true)[j]? = some true → j < k := fun j hj => by
            rw [set_listed (by omega)] at hj
            rcases hj with h | rfl
            · exact hlk j h
            · exact hik
          have hSeq : (fun j => (listed.setIfInBounds i true)[j]? = some true) = fun j => listed[j]? = some true ∨ j = i := by
            funext j; exact propext (set_listed (by omega))
          have goOn : ∀ y w' ρ'', InvD C N n nl fr m D (fun j => listed[j]? = some true ∨ j = i) ρ'' (a.put D[i].dst y) w' → wpAny C.P .any ops Q fuel (listed.setIfInBounds i true) (a.put o.dst y) w' := by
            intro y w' ρ'' I2
            rw [c1, ← s1]
            exact ih _ ρ'' _ w' (by simpa using hsz) (by rw [cnt_set hif]; omega) hlk' hcl' (by rw [hSeq]; exact I2)
          have hnS : ¬ (listed[i]? = some true) := by rw [hif]; simp
          have hoo : ops[i]? = some o := by rw [← Array.getElem?_toList]; exact g1
          unfold wpOp
          rw [hoo]
          simp only
          rcases s3 with ⟨mm, q1, q2, q3⟩ | ⟨q1, q2, q3, g, b, q4, q5⟩
          · have hwant : Region.wanted o (yielded ops a.tmps) = true := by
              rcases q3 with q3 | ⟨g, b, q3, q4⟩
              · rw [q3] at c3; exact wanted_none (guard_none c3)
              · rw [q3] at c3
                obtain ⟨j', r1, r2⟩ := guard_bool c3
                have := wanted_some (a := a) r1 r2 (get_bool Rr q4)
                rw [Array.toArray_toList] at this
                rw [this]; simp
            rw [if_pos hwant]
            refine .inl (op_wp Xr Rr c4 q2 ?_)
            rintro y w' ρ' v m' n' e1 ⟨rfl, rfl, rfl⟩ e3 e4 _
            obtain ⟨ρ'', I2⟩ := I.step hDi hnS s4 s2 s5 R.n0 hdist hdN hdisj e1 q1 e3 e4
            exact goOn y w' ρ'' I2
          · have hwant : Region.wanted o (yielded ops a.tmps) = false := by
              rw [q4] at c3
              obtain ⟨j', r1, r2⟩ := guard_bool c3
              rcases q5 with q5 | ⟨vs, q5⟩
              · have := wanted_some (a := a) r1 r2 (get_bool Rr q5)
                rw [Array.toArray_toList] at this
                rw [this]; cases b <;> rfl
              · have := wanted_undef (a := a) r1 r2 (get_undef Rr q5)
                rw [Array.toArray_toList] at this
                exact this
            rw [if_neg (by rw [hwant]; simp)]
            obtain ⟨ρ'', I2⟩ := I.skip hDi hnS q1 q2 q3 s4 s5 R.n0 hdist hdN hdisj X
            exact goOn undef w ρ'' I2
  refine phase1 ops.size (Array.replicate ops.size false) ρ a _ ?_ ?_ ?_ ?_ ?_
  · simp at hlen ⊢; exact hlen
  · have : cnt (Array.replicate ops.size false) = 0 := by unfold cnt; simp [List.count_replicate]
    simp at hlen; omega
  · intro j hj
    rw [Array.getElem?_replicate] at hj
    split at hj <;> simp at hj
  · intro j o _ hj
    rw [Array.getElem?_replicate] at hj
    split at hj <;> simp at hj
  · have I := InvD.start (nl := nl) (D := D) R1 (fun j Dj hj => (hDq j Dj hj).2.choose_spec.2.2.1) h3
    have : (fun j : Nat => (Array.replicate ops.size false)[j]? = some true) = fun _ => False := by
      funext j
      apply propext
      constructor
      · intro hj
        rw [Array.getElem?_replicate] at hj
        split at hj <;> simp at hj
      · exact False.elim
    rw [this]; exact I
end
end Go.Sx
