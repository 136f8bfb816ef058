/- The engine, part N: one operation, a region, code, a function. -/
import Derived.Test.YtflkcganpgjkkaaDoorEngM
import Derived.Tactics
namespace Go.Sx
open Go
set_option linter.unusedSimpArgs false
set_option linter.unusedVariables false

section
variable {C : Ctx} {N : Nat} {ρ : Env} {fr : Fr} {m : Mem} {n : Nat} {a : Act} {w : World} {K : Kt}

theorem post_skip {s : Sem Unit} {w' : World} (h : s.run C.P w = .ok () w') (ho : Out C ρ K undef w') :
    OpPost C ρ K ((do s; pure .skip : Sem Next).run C.P w) := by
  simp only [Sem.run_bind, h, Result.andThen_ok, Sem.run_pure]; exact ho

theorem op_ok (X : CtxOk C) (R : Rel C N ρ fr m n a w) {o : Oper} {s : SOp} (h : chkO C.P o.op s = true) (hk : exO C.T (callT C.P C.T) fr m n K s) :
    OpPost C ρ K ((execOp a.eval o).run C.P w) := by
  obtain ⟨dst, op, ty, pos, aft, guard⟩ := o
  simp only at h
  unfold execOp
  unfold chkO at h
  split at h
  · split at h
    · simp only [exO] at hk
      exact out_pure R hk (ev_is R h)
    · cases h
  · split at h
    · simp only [exO] at hk
      exact out_pure R hk (ev_is R h)
    · cases h
  · split at h
    · simp only [Bool.and_eq_true] at h
      obtain ⟨⟨h1, h2⟩, h3⟩ := h
      obtain ⟨b, hb, ho⟩ := pick_op R h1 h2 h3 hk
      simp only [hb, asBool, Sem.run_bind, Sem.run_pure, Result.andThen_ok]
      exact ho
    · cases h
  · split at h
    · simp only [Bool.and_eq_true, beq_iff_eq] at h
      obtain ⟨rfl, h2⟩ := h
      obtain ⟨z, w', r1, r2⟩ := new_op R h2 hk
      exact post_value r1 r2
    · cases h
  · split at h
    · simp only [Bool.and_eq_true, beq_iff_eq] at h
      obtain ⟨rfl, h2⟩ := h
      obtain ⟨z, w', r1, r2⟩ := box_op R h2 hk
      exact post_value r1 r2
    · cases h
  · split at h
    · simp only [Bool.and_eq_true] at h
      obtain ⟨⟨h1, h2⟩, h3⟩ := h
      split at h3
      · rename_i place hp
        obtain ⟨z, r1, r2⟩ := build_op R h1 hp h2 h3 hk
        exact post_value r1 r2
      · cases h3
    · cases h
  · split at h
    · simp only [Bool.and_eq_true, beq_iff_eq, decide_eq_true_eq] at h
      obtain ⟨⟨⟨⟨⟨rfl, h2⟩, h3⟩, h4⟩, h5⟩, h6⟩ := h
      split at h4
      · rename_i zv hz
        obtain ⟨z, w', r1, r2⟩ := bslice_op R (und_slice h2) h3 (fun _ => hz) h4 h5 h6 hk
        exact post_value r1 r2
      · cases h4
    · cases h
  · split at h
    · simp only [Bool.and_eq_true, beq_iff_eq] at h
      obtain ⟨z, r1, r2⟩ := load_ok X R h.2 h.1 rfl hk
      exact post_value r1 r2
    · cases h
  · split at h
    · simp only [Bool.and_eq_true, beq_iff_eq] at h
      obtain ⟨⟨h1, h2⟩, h3⟩ := h
      obtain ⟨w', r1, r2⟩ := store_ok R h2 h3 h1 hk
      exact post_skip r1 r2
    · cases h
  · split at h
    · obtain ⟨⟨i, hi⟩, ho⟩ := nilc_op R h hk
      rename_i y x _
      simp only
      rcases hi with hi | ⟨f, p, q, hi⟩
      · rw [hi] at ho ⊢; exact ho
      · rw [hi] at ho ⊢; exact ho
    · cases h
  · split at h
    · simp only [Bool.and_eq_true] at h
      obtain ⟨h1, h2⟩ := h
      split at h2
      · rename_i fs hu
        split at h2
        · rename_i fd hf
          simp only [Bool.and_eq_true, beq_iff_eq] at h2
          obtain ⟨rfl, h3⟩ := h2
          split at h3
          · rename_i k hs
            obtain ⟨z, r1, r2⟩ := fld_ok R h1 hu hf hs (by simpa using h3) hk
            exact post_value r1 r2
          · cases h3
        · cases h2
      · cases h2
    · cases h
  · split at h
    · simp only [Bool.and_eq_true] at h
      obtain ⟨h1, h2⟩ := h
      split at h2
      · rename_i fs hu
        split at h2
        · rename_i fd hf
          simp only [Bool.and_eq_true, beq_iff_eq] at h2
          obtain ⟨rfl, h3⟩ := h2
          obtain ⟨z, r1, r2⟩ := fieldV_ok R h1 hu hf h3 hk
          exact post_value r1 r2
        · cases h2
      · cases h2
    · cases h
  · split at h
    · simp only [Bool.and_eq_true] at h
      obtain ⟨⟨h1, h2⟩, h3⟩ := h
      split at h3
      · rename_i n' e hu
        simp only [Bool.and_eq_true, beq_iff_eq] at h3
        obtain ⟨rfl, h4⟩ := h3
        obtain ⟨z, r1, r2⟩ := idxA_ok R h1 h2 hu h4 hk
        exact post_value r1 r2
      · cases h3
    · simp only [Bool.and_eq_true] at h
      obtain ⟨⟨h1, h2⟩, h3⟩ := h
      obtain ⟨e, q1, q2⟩ := isSliceOf_some h3
      obtain ⟨z, r1, r2⟩ := idxS_ok R h1 h2 q1 q2 hk
      exact post_value r1 r2
    · cases h
  · split at h
    · simp only [Bool.and_eq_true] at h
      obtain ⟨⟨h1, h2⟩, h3⟩ := h
      split at h3
      · rename_i n' e hu
        simp only [Bool.and_eq_true, beq_iff_eq] at h3
        obtain ⟨⟨rfl, h4⟩, h5⟩ := h3
        obtain ⟨z, r1, r2⟩ := idxV_ok R h1 h2 hu h4 h5 rfl hk
        exact post_value r1 r2
      · cases h3
    · simp only [Bool.and_eq_true] at h
      obtain ⟨⟨h1, h2⟩, h3⟩ := h
      obtain ⟨z, r1, r2⟩ := idxT_ok R h1 h2 (und_string h3) hk
      exact post_value r1 r2
    · cases h
  · obtain ⟨z, r1, r2⟩ := bin_post X R h hk
    exact post_value r1 r2
  · split at h
    · simp only [Bool.and_eq_true, beq_iff_eq] at h
      obtain ⟨rfl, h2⟩ := h
      obtain ⟨z, r1, r2⟩ := un_ok R h2 hk
      exact post_value r1 r2
    · cases h
  · obtain ⟨z, w', r1, r2⟩ := conv_post R h hk
    exact post_value r1 r2
  · split at h
    · simp only [Bool.and_eq_true, beq_iff_eq] at h
      obtain ⟨⟨rfl, h2⟩, h3⟩ := h
      obtain ⟨q1, q2⟩ := opdsOk_get h2
      obtain ⟨q3, q4⟩ := opdsOk_get h3
      obtain ⟨z, r1, r2⟩ := mkfn_op R q1 q3 q2 q4 hk
      exact post_value r1 r2
    · cases h
  · split at h
    · simp only [Bool.and_eq_true] at h
      obtain ⟨⟨⟨h1, h2⟩, h3⟩, h4⟩ := h
      split at h4
      · rename_i i hi
        simp only [Bool.and_eq_true, beq_iff_eq] at h4
        obtain ⟨⟨h5, h6⟩, h7⟩ := h4
        split at h7
        · rename_i zv hz
          simp only [Bool.and_eq_true, beq_iff_eq] at h7
          obtain ⟨z, w', r1, r2⟩ := mksl_op R h2 h3 (und_slice h1) hi h5 h6 hz h7.1 h7.2 hk
          exact post_value r1 r2
        · cases h7
      · cases h4
    · cases h
  · split at h
    · simp only [Bool.and_eq_true, bne_iff_ne, ne_eq] at h
      obtain ⟨⟨⟨⟨h1, h2⟩, h3⟩, h4⟩, h5⟩ := h
      obtain ⟨e, q1, q2⟩ := isSliceOf_some h4
      obtain ⟨z, r1, r2⟩ := slcS_op R h1 h2 h3 q1 q2 h5 hk
      exact post_value r1 r2
    · simp only [Bool.and_eq_true] at h
      obtain ⟨⟨⟨h1, h2⟩, h3⟩, h4⟩ := h
      split at h4
      · rename_i n' e hu
        simp only [Bool.and_eq_true, beq_iff_eq] at h4
        obtain ⟨rfl, h5⟩ := h4
        obtain ⟨z, r1, r2⟩ := slcA_op R h1 h2 h3 hu h5 hk
        exact post_value r1 r2
      · cases h4
    · simp only [Bool.and_eq_true] at h
      obtain ⟨⟨⟨h1, h2⟩, h3⟩, h4⟩ := h
      obtain ⟨z, r1, r2⟩ := slcT_op R h1 h2 h3 (und_string h4) hk
      exact post_value r1 r2
    · cases h
  · split at h
    · simp only [Bool.and_eq_true] at h
      obtain ⟨h1, h2⟩ := h
      split at h2
      · rename_i n' e hu
        simp only [beq_iff_eq] at h2; subst h2
        obtain ⟨z, r1, r2⟩ := arrAt_op R h1 hu hk
        exact post_value r1 r2
      · cases h2
    · cases h
  · split at h
    · simp only [Bool.and_eq_true, beq_iff_eq] at h
      obtain ⟨h1, rfl⟩ := h
      obtain ⟨z, r1, r2⟩ := ext_op R h1 hk
      exact post_value r1 r2
    · cases h
  · exact call_post X R h hk
  · cases h

theorem mem_del {fr : Fr} {d : Nat} {x : Nat × SV} (h : x ∈ del fr d) : x ∈ fr ∧ x.1 ≠ d := by
  induction fr with
  | nil => simp [del] at h
  | cons y r ih =>
    obtain ⟨e, v⟩ := y
    unfold del at h
    split at h
    · exact ⟨List.mem_cons_of_mem _ (ih h).1, (ih h).2⟩
    · rename_i hne
      rcases List.mem_cons.1 h with h | h
      · subst h; exact ⟨List.mem_cons_self, hne⟩
      · exact ⟨List.mem_cons_of_mem _ (ih h).1, (ih h).2⟩
theorem mem_dels {ds : List Nat} : ∀ {fr : Fr} {x : Nat × SV}, x ∈ dels fr ds → x ∈ fr ∧ x.1 ∉ ds := by
  induction ds with
  | nil => intro fr x h; exact ⟨h, by simp⟩
  | cons d ds ih =>
    intro fr x h
    obtain ⟨h1, h2⟩ := ih h
    obtain ⟨h3, h4⟩ := mem_del h1
    exact ⟨h3, by simp; exact ⟨h4, h2⟩⟩

/-- what is known of the frame behind an operation -/
theorem fr_put {ρ' : Env} (hfr : ∀ d v, (d, v) ∈ fr → ∃ x, a.tmps[d]? = some x ∧ v.is ρ x) (hle : ρ.le ρ') (hN : a.tmps.size = N) {dst : Option Nat} (hd : ∀ d, dst = some d → d < N)
    {v : SV} {y : Value} (hv : v.is ρ' y) (ks : List Nat) :
    ∀ d u, (d, u) ∈ dels (putO fr dst v) ks → ∃ x, (a.put dst y).tmps[d]? = some x ∧ u.is ρ' x := by
  intro d u h
  have h1 := (mem_dels h).1
  unfold putO at h1
  cases dst with
  | none =>
    obtain ⟨x, e1, e2⟩ := hfr d u h1
    exact ⟨x, e1, SV.is_mono hle u x e2⟩
  | some t =>
    simp only [put] at h1
    rcases List.mem_cons.1 h1 with h1 | h1
    · cases h1
      refine ⟨y, ?_, hv⟩
      have := hd d rfl
      simp [Act.put, hN, this]
    · obtain ⟨h2, h3⟩ := mem_del h1
      obtain ⟨x, e1, e2⟩ := hfr d u h2
      refine ⟨x, ?_, SV.is_mono hle u x e2⟩
      simp only [Act.put]
      rw [Array.getElem?_setIfInBounds_ne (Ne.symm h3)]; exact e1

theorem put_size (a : Act) (dst : Option Nat) (y : Value) : (a.put dst y).tmps.size = a.tmps.size := by
  cases dst <;> simp [Act.put]
theorem put_defers (a : Act) (dst : Option Nat) (y : Value) : (a.put dst y).defers = a.defers := by
  cases dst <;> rfl

def guardOk (ops : List Oper) (o : Oper) (g : Option (Nat × Bool)) : Bool :=
  match o.guard, g with
  | none, none => true
  | some (j, b), some (d, b') => ((ops[j]?).bind (·.dst)) == some d && b == b'
  | _, _ => false

def chkOps (P : Program) (N : Nat) (all : List Oper) : List Oper → List Opr → Bool
  | [], [] => true
  | o :: os, q :: qs => o.dst == q.dst && (match o.dst with | some d => decide (d < N) | none => true) && guardOk all o q.guard && chkO P o.op q.op && chkOps P N all os qs
  | _, _ => false

theorem get_bool {g : Nat} {t : Bool} (R : Rel C N ρ fr m n a w) (h : get fr g = .bool t) : a.tmps[g]? = some (.bool t) := by
  rcases get_mem (fr := fr) (d := g) with e | e
  · rw [h] at e; cases e
  · obtain ⟨x, h1, h2⟩ := R.fr _ _ e
    rw [h] at h2
    simp only [SV.is] at h2; rw [h1, h2]
theorem get_undef {g : Nat} {vs : Array Value} (R : Rel C N ρ fr m n a w) (h : get fr g = .val (.tuple vs)) : a.tmps[g]? = some (.tuple vs) := by
  rcases get_mem (fr := fr) (d := g) with e | e
  · rw [h] at e; cases e
  · obtain ⟨x, h1, h2⟩ := R.fr _ _ e
    rw [h] at h2
    simp only [SV.is] at h2; rw [h1, h2]

theorem wanted_none {o : Oper} {y : Nat → Option Bool} (h : o.guard = none) : Region.wanted o y = true := by unfold Region.wanted; rw [h]
theorem wanted_some {ops : List Oper} {o : Oper} {j d : Nat} {b t : Bool} (h : o.guard = some (j, b)) (hj : ((ops[j]?).bind (·.dst)) = some d) (ht : a.tmps[d]? = some (.bool t)) :
    Region.wanted o (yielded ops.toArray a.tmps) = (t == b) := by
  unfold Region.wanted; rw [h]
  simp only [yielded, List.getElem?_toArray, hj, Option.bind_some, ht]
  cases t <;> cases b <;> rfl
theorem wanted_undef {ops : List Oper} {o : Oper} {j d : Nat} {b : Bool} {vs : Array Value} (h : o.guard = some (j, b)) (hj : ((ops[j]?).bind (·.dst)) = some d) (ht : a.tmps[d]? = some (.tuple vs)) :
    Region.wanted o (yielded ops.toArray a.tmps) = false := by
  unfold Region.wanted; rw [h]
  simp only [yielded, List.getElem?_toArray, hj, Option.bind_some, ht]
  rfl

/-- one operation that is carried out, in the calculus of the model -/
theorem op_wp (X : CtxOk C) (R : Rel C N ρ fr m n a w) {o : Oper} {s : SOp} (h : chkO C.P o.op s = true) (hk : exO C.T (callT C.P C.T) fr m n K s)
    {next : Act → World → Prop} {Q : Exit → Act → World → Prop}
    (hn : ∀ y w' ρ' v m' n', ρ.le ρ' → K v m' n' → v.is ρ' y → MemOk C ρ' m' n' w' → C.n0 ≤ n' → next (a.put o.dst y) w') : o.wp C.P a w next Q := by
  have hp := op_ok X R h hk
  unfold Oper.wp
  generalize (execOp a.eval o).run C.P w = r at hp
  cases r with
  | halt x w' => cases hp
  | ok z w' =>
    cases z <;> simp only [OpPost] at hp
    case value y =>
      obtain ⟨ρ', v, m', n', h1, h2, h3, h4, h5⟩ := hp
      exact hn y w' ρ' v m' n' h1 h2 h3 h4 h5
    case skip =>
      obtain ⟨ρ', v, m', n', h1, h2, h3, h4, h5⟩ := hp
      exact hn undef w' ρ' v m' n' h1 h2 h3 h4 h5
    case enter f args =>
      rw [Oper.upon_enter]
      refine hp.mono ?_
      rintro e w'' ⟨x, rfl, ρ', v, m', n', h1, h2, h3, h4, h5⟩
      exact hn x w'' ρ' v m' n' h1 h2 h3 h4 h5

theorem reg_ok (X : CtxOk C) {all : List Oper} {Q : Exit → Act → World → Prop} : ∀ (os : List Oper) (qs : List Opr) (fr : Fr) (m : Mem) (n : Nat) (ρ : Env) (a : Act) (w : World) (F : Fr → Mem → Nat → Prop),
    chkOps C.P N all os qs = true → exR C.T (callT C.P C.T) qs fr m n F → Rel C N ρ fr m n a w →
    (∀ ρ' fr' m' n' a' w', F fr' m' n' → Rel C N ρ' fr' m' n' a' w' → Q .normal a' w') → wpList C.P all.toArray Q os a w
  | [], [], fr, m, n, ρ, a, w, F, _, hF, R, hQ => hQ ρ fr m n a w hF R
  | o :: os, q :: qs, fr, m, n, ρ, a, w, F, hc, hF, R, hQ => by
    simp only [chkOps, Bool.and_eq_true, beq_iff_eq] at hc
    obtain ⟨⟨⟨⟨c1, c2⟩, c3⟩, c4⟩, c5⟩ := hc
    have hd : ∀ d, o.dst = some d → d < N := fun d hd => by rw [hd] at c2; simpa using c2
    have step : ∀ y w' ρ' v m' n', ρ.le ρ' → exR C.T (callT C.P C.T) qs (dels (putO fr q.dst v) q.kill) m' n' F → v.is ρ' y → MemOk C ρ' m' n' w' → C.n0 ≤ n' →
        wpList C.P all.toArray Q os (a.put o.dst y) w' := by
      intro y w' ρ' v m' n' h1 h2 h3 h4 h5
      refine reg_ok X os qs _ m' n' ρ' _ w' F c5 h2 ⟨?_, h4, by rw [put_defers]; exact R.defers, by rw [put_size]; exact R.size, h5⟩ hQ
      rw [← c1]
      exact fr_put R.fr h1 R.size hd h3 q.kill
    unfold guardOk at c3
    simp only [exR] at hF
    cases hg : q.guard with
    | none =>
      simp only [hg] at hF
      have hog : o.guard = none := by
        cases h : o.guard with
        | none => rfl
        | some x => simp [h, hg] at c3
      unfold wpList
      rw [if_pos (wanted_none hog)]
      exact .inl (op_wp X R c4 hF step)
    | some gb =>
      obtain ⟨g, b⟩ := gb
      simp only [hg] at hF
      obtain ⟨j, hog, hj⟩ : ∃ j, o.guard = some (j, b) ∧ ((all[j]?).bind (·.dst)) = some g := by
        cases h : o.guard with
        | none => simp [h, hg] at c3
        | some x =>
          obtain ⟨j, b'⟩ := x
          simp only [h, hg, Bool.and_eq_true, beq_iff_eq] at c3
          exact ⟨j, by rw [c3.2], c3.1⟩
      have skip : exR C.T (callT C.P C.T) qs (dels (putO fr q.dst (.val undef)) q.kill) m n F → wpList C.P all.toArray Q os (a.put o.dst undef) w :=
        fun h => step undef w ρ (.val undef) m n (Env.le_refl _) h (by simp only [SV.is]) R.mem R.n0
      unfold wpList
      split at hF
      · rename_i t ht
        have hw := wanted_some (a := a) hog hj (get_bool R ht)
        by_cases htb : t = b
        · rw [if_pos (by rw [hw, htb]; simp)]
          exact .inl (op_wp X R c4 (hF.1 htb) step)
        · have : t = !b := by cases t <;> cases b <;> simp_all
          rw [if_neg (by rw [hw]; simpa using htb)]
          exact skip (hF.2 this)
      · rename_i vs ht
        have hw := wanted_undef (a := a) hog hj (get_undef R ht)
        rw [if_neg (by rw [hw]; simp)]
        exact skip hF
      · exact hF.elim
  | [], _ :: _, _, _, _, _, _, _, _, hc, _, _, _ => by simp [chkOps] at hc
  | _ :: _, [], _, _, _, _, _, _, _, hc, _, _, _ => by simp [chkOps] at hc
end
end Go.Sx
