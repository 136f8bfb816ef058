/- The engine, part P: an open region whose first operations only read: it may be walked in the order of the text. -/
import Derived.Test.YtflkcganpgjkkaaDoorEngSc
namespace Go.Sx
open Go
set_option linter.unusedSimpArgs false
set_option linter.unusedVariables false

def slotO : Opd → List Nat
  | .t d => [d]
  | _ => []
def slotsL : List Opd → List Nat
  | [] => []
  | x :: r => slotO x ++ slotsL r

/-- the slots that a reading operation looks at; none: it is no reading operation -/
def pureS : SOp → Option (List Nat)
  | .mv x | .load _ x | .nilc x | .fld x _ | .fieldV x _ _ | .un _ x | .conv _ x | .strS x | .ext x _ | .len _ x | .isNil _ x | .arrAt _ x => some (slotO x)
  | .bin _ x y | .eqv _ _ x y | .eqb _ x y | .mx x y | .mn x y | .idxA x y _ _ | .idxV x y _ _ _ | .idxS x y _ | .idxT x y => some (slotO x ++ slotO y)
  | .pick c a b => some (slotO c ++ slotO a ++ slotO b)
  | .lenA _ => some []
  | .mkfn _ xs ys => some (slotsL xs ++ slotsL ys)
  | .callp _ xs => some (slotsL xs)
  | _ => none

theorem ev_agree {fr fr' : Fr} {x : Opd} (h : ∀ d ∈ slotO x, Sx.get fr d = Sx.get fr' d) : x.ev fr = x.ev fr' := by
  cases x <;> simp [Opd.ev, slotO] at h ⊢
  exact h
theorem evs_agree {fr fr' : Fr} : ∀ {xs : List Opd}, (∀ d ∈ slotsL xs, Sx.get fr d = Sx.get fr' d) → xs.map (·.ev fr) = xs.map (·.ev fr')
  | [], _ => rfl
  | x :: r, h => by
    simp only [slotsL, List.mem_append] at h
    simp only [List.map_cons]
    rw [ev_agree (fun d hd => h d (.inl hd)), evs_agree (fun d hd => h d (.inr hd))]

theorem rd_views : ∀ {m : Mem} {i : Nat}, rd (views m) i = (rd m i).map fun B => ⟨.view, B.cells⟩
  | [], i => rfl
  | (j, B) :: r, i => by
    simp only [views, rd]
    split
    · rfl
    · exact rd_views
theorem rd_views_some {m : Mem} {i : Nat} {B : Blk} (h : rd m i = some B) : rd (views m) i = some ⟨.view, B.cells⟩ := by rw [rd_views, h]; rfl

theorem exO_pure {T : List (Nat × List SV)} {call : CallT} (hcall : PointC call) {fr fr' : Fr} {m : Mem} {n : Nat} {K K' : Kt} {op : SOp} {ss : List Nat} (hp : pureS op = some ss)
    (hs : ∀ d ∈ ss, Sx.get fr d = Sx.get fr' d) (hK : ∀ v, K v m n → K' v (views m) n) (h : exO T call fr' m n K op) : exO T call fr (views m) n K' op := by
  cases op <;> simp only [pureS, Option.some.injEq, reduceCtorEq] at hp <;> subst hp <;> simp only [List.mem_append, exO] at hs h ⊢
  case mv x => rw [ev_agree hs]; exact hK _ h
  case pick c a b =>
    rw [ev_agree (x := c) (fun d hd => hs d (.inl (.inl hd))), ev_agree (x := a) (fun d hd => hs d (.inl (.inr hd))), ev_agree (x := b) (fun d hd => hs d (.inr hd))]
    unfold onBool at h ⊢
    split at h
    · exact ⟨fun e => hK _ (h.1 e), fun e => hK _ (h.2 e)⟩
    · exact h.elim
  case load g x =>
    rw [ev_agree hs]
    generalize x.ev fr' = xv at h ⊢
    split at h
    · obtain ⟨B, hB, h⟩ := h
      refine ⟨_, rd_views_some hB, ?_⟩
      cases g with
      | none => obtain ⟨v, hv, h⟩ := h; exact ⟨v, hv, hK _ h⟩
      | some k => exact ⟨h.1, hK _ h.2⟩
    · obtain ⟨cs, hc, h⟩ := h
      refine ⟨cs, hc, ?_⟩
      cases g with
      | none => obtain ⟨v, hv, h⟩ := h; exact ⟨v, hv, hK _ h⟩
      | some k => exact ⟨h.1, hK _ h.2⟩
    · exact h.elim
  case nilc x =>
    rw [ev_agree hs]
    split at h <;> first | exact hK _ h | exact h.elim
  case fld x off =>
    rw [ev_agree hs]
    split at h <;> first | exact hK _ h | exact h.elim
  case idxA x i len s =>
    rw [ev_agree (x := x) (fun d hd => hs d (.inl hd)), ev_agree (x := i) (fun d hd => hs d (.inr hd))]
    unfold onInt at h ⊢
    split at h
    · refine ⟨h.1, h.2.1, ?_⟩
      have h := h.2.2
      split at h <;> first | exact hK _ h | exact h.elim
    · exact h.elim
  case idxS x i s =>
    rw [ev_agree (x := x) (fun d hd => hs d (.inl hd)), ev_agree (x := i) (fun d hd => hs d (.inr hd))]
    unfold onInt at h ⊢
    split at h
    · split at h
      · obtain ⟨h1, h2, h3, B, hB, h4, h5⟩ := h
        exact ⟨h1, h2, h3, _, rd_views_some hB, h4, hK _ h5⟩
      · exact h.elim
    · exact h.elim
  case idxV x i len s g =>
    rw [ev_agree (x := x) (fun d hd => hs d (.inl hd)), ev_agree (x := i) (fun d hd => hs d (.inr hd))]
    unfold onInt at h ⊢
    split at h
    · refine ⟨h.1, h.2.1, ?_⟩
      have h := h.2.2
      split at h
      · cases g with
        | true => exact hK _ h
        | false => obtain ⟨v, hv, h⟩ := h; exact ⟨v, hv, hK _ h⟩
      · exact h.elim
    · exact h.elim
  case idxT x i =>
    rw [ev_agree (x := x) (fun d hd => hs d (.inl hd)), ev_agree (x := i) (fun d hd => hs d (.inr hd))]
    unfold onInt at h ⊢
    split at h
    · refine ⟨h.1, ?_⟩
      have h := h.2
      split at h
      · obtain ⟨v, hv, h⟩ := h; exact ⟨v, hv, hK _ h⟩
      · exact h.elim
    · exact h.elim
  case fieldV x off g =>
    rw [ev_agree hs]
    split at h
    · cases g with
      | some k => exact hK _ h
      | none => obtain ⟨v, hv, h⟩ := h; exact ⟨v, hv, hK _ h⟩
    · exact h.elim
  case bin op x y =>
    rw [ev_agree (x := x) (fun d hd => hs d (.inl hd)), ev_agree (x := y) (fun d hd => hs d (.inr hd))]
    unfold binV at h ⊢
    split at h
    · unfold binI at h ⊢
      split at h <;> first | exact hK _ h | exact ⟨h.1, hK _ h.2⟩ | exact ⟨h.1, h.2.1, hK _ h.2.2⟩
    · unfold binS at h ⊢
      split at h <;> first | exact hK _ h | exact ⟨h.1, hK _ h.2⟩ | exact h.elim
    · exact h.elim
  case eqv neg pat x y =>
    rw [ev_agree (x := x) (fun d hd => hs d (.inl hd)), ev_agree (x := y) (fun d hd => hs d (.inr hd))]
    split at h
    · obtain ⟨b, hb, h⟩ := h; exact ⟨b, hb, hK _ h⟩
    · exact h.elim
  case eqb neg x y =>
    rw [ev_agree (x := x) (fun d hd => hs d (.inl hd)), ev_agree (x := y) (fun d hd => hs d (.inr hd))]
    split at h <;> first | exact hK _ h | exact h.elim
  case isNil neg x =>
    rw [ev_agree hs]
    split at h
    · exact hK _ h
    · obtain ⟨⟨B, hB, h1⟩, h2⟩ := h; exact ⟨⟨_, rd_views_some hB, h1⟩, hK _ h2⟩
    · exact h.elim
  case un op x =>
    rw [ev_agree hs]
    split at h <;> first | exact hK _ h | exact h.elim
  case conv k x =>
    rw [ev_agree hs]
    split at h <;> first | exact hK _ h | exact h.elim
  case strS x =>
    rw [ev_agree hs]
    split at h <;> first | exact hK _ h | exact h.elim
  case mkfn f xs ys =>
    rw [evs_agree (xs := xs) (fun d hd => hs d (.inl hd)), evs_agree (xs := ys) (fun d hd => hs d (.inr hd))]
    exact hK _ h
  case callp f xs =>
    rw [evs_agree (xs := xs) hs]
    obtain ⟨h0, h⟩ := h
    obtain ⟨v, m', n', ⟨h1, h2, h3, h4⟩, h5⟩ := hcall _ _ _ _ _ h
    exact ⟨h0, h5 _ ⟨h1, h2, h3, hK _ h4⟩⟩
  case arrAt k x =>
    rw [ev_agree hs]
    split at h
    · obtain ⟨h1, h2, ⟨B, hB, h3⟩, h4⟩ := h; exact ⟨h1, h2, ⟨_, rd_views_some hB, h3⟩, hK _ h4⟩
    · exact h.elim
  case ext x i =>
    rw [ev_agree hs]
    split at h
    · obtain ⟨v, hv, h⟩ := h; exact ⟨v, hv, hK _ h⟩
    · exact h.elim
  case len b x =>
    rw [ev_agree hs]
    split at h <;> first | exact hK _ h | exact h.elim
  case lenA k => exact hK _ h
  case mx x y =>
    rw [ev_agree (x := x) (fun d hd => hs d (.inl hd)), ev_agree (x := y) (fun d hd => hs d (.inr hd))]
    split at h <;> first | exact hK _ h | exact h.elim
  case mn x y =>
    rw [ev_agree (x := x) (fun d hd => hs d (.inl hd)), ev_agree (x := y) (fun d hd => hs d (.inr hd))]
    split at h <;> first | exact hK _ h | exact h.elim

theorem get_del_ne {d e : Nat} (h : e ≠ d) : ∀ {fr : Fr}, Sx.get (del fr e) d = Sx.get fr d
  | [] => rfl
  | (c, v) :: r => by
    unfold del
    split
    · rename_i hc; subst hc
      rw [get_del_ne h]
      conv => rhs; unfold Sx.get
      rw [if_neg h]
    · unfold Sx.get
      split
      · rfl
      · exact get_del_ne h
theorem get_dels {d : Nat} : ∀ {ks : List Nat} {fr : Fr}, d ∉ ks → Sx.get (dels fr ks) d = Sx.get fr d
  | [], _, _ => rfl
  | k :: ks, fr, h => by
    simp at h
    unfold dels
    rw [get_dels (ks := ks) h.2, get_del_ne (Ne.symm h.1)]
theorem get_putO_ne {d : Nat} {o : Option Nat} {v : SV} {fr : Fr} (h : o ≠ some d) : Sx.get (putO fr o v) d = Sx.get fr d := by
  unfold putO
  cases o with
  | none => rfl
  | some e =>
    have he : e ≠ d := fun e' => h (by rw [e'])
    simp only [put, Sx.get]
    rw [if_neg he, get_del_ne he]
theorem get_putO_self {d : Nat} {v : SV} {fr : Fr} : Sx.get (putO fr (some d) v) d = v := by
  simp [putO, put, Sx.get]

theorem get_frD_none {d : Nat} : ∀ {L : List Dn} {fr : Fr}, (∀ x ∈ L, x.dst ≠ some d) → Sx.get (frD L fr) d = Sx.get fr d
  | [], _, _ => rfl
  | x :: r, fr, h => by
    unfold frD
    rw [get_putO_ne (h x List.mem_cons_self), get_frD_none (fun y hy => h y (List.mem_cons_of_mem _ hy))]
theorem get_frD_one {d : Nat} {v : SV} : ∀ {L : List Dn} {fr : Fr}, (∃ x ∈ L, x.dst = some d) → (∀ x ∈ L, x.dst = some d → x.v = v) → Sx.get (frD L fr) d = v
  | [], _, ⟨x, hx, _⟩, _ => by simp at hx
  | y :: r, fr, ⟨x, hx, hd⟩, h => by
    unfold frD
    by_cases hy : y.dst = some d
    · rw [hy, get_putO_self]; exact h y List.mem_cons_self hy
    · rw [get_putO_ne hy]
      rcases List.mem_cons.1 hx with e | e
      · subst e; exact (hy hd).elim
      · exact get_frD_one ⟨x, e, hd⟩ fun z hz => h z (List.mem_cons_of_mem _ hz)

def hits (ds : List (Option Nat)) (d : Nat) : List Nat := (List.range ds.length).filter fun j => ds[j]? == some (some d)
def agreeB (ds : List (Option Nat)) (pre hide : List Nat) (d : Nat) : Bool :=
  match hits ds d with
  | [] => !hide.contains d
  | [j] => pre.contains j
  | _ => false

theorem mem_hits {ds : List (Option Nat)} {d j : Nat} : j ∈ hits ds d ↔ ds[j]? = some (some d) := by
  unfold hits
  simp only [List.mem_filter, List.mem_range, beq_iff_eq]
  constructor
  · exact fun h => h.2
  · intro h
    refine ⟨?_, h⟩
    rcases Nat.lt_or_ge j ds.length with h' | h'
    · exact h'
    · rw [List.getElem?_eq_none h'] at h; cases h

theorem agree_ok {done : List Dn} {pre hide : List Nat} {d : Nat} {fr0 : Fr} (h : agreeB (done.map (·.dst)) pre hide d = true) :
    Sx.get (frD (pickD done pre) (dels fr0 hide)) d = Sx.get (frD done.reverse fr0) d := by
  unfold agreeB at h
  split at h
  · rename_i he
    have hno : ∀ (j : Nat) x, done[j]? = some x → x.dst ≠ some d := by
      intro j x hj hd
      have : j ∈ hits (done.map (·.dst)) d := mem_hits.2 (by simp [hj, hd])
      rw [he] at this; simp at this
    rw [get_frD_none (L := pickD done pre) (fun x hx => by obtain ⟨j, _, hj⟩ := mem_pickD.1 hx; exact hno j x hj),
      get_frD_none (L := done.reverse) (fun x hx => by obtain ⟨j, hj⟩ := List.getElem?_of_mem (List.mem_reverse.1 hx); exact hno j x hj)]
    exact get_dels (by simpa using h)
  · rename_i j he
    have hj : (done.map (·.dst))[j]? = some (some d) := mem_hits.1 (by rw [he]; simp)
    simp at hj
    obtain ⟨x, hx, hd⟩ := hj
    have hu : ∀ (i : Nat) y, done[i]? = some y → y.dst = some d → y.v = x.v := by
      intro i y hi hy
      have : i ∈ hits (done.map (·.dst)) d := mem_hits.2 (by simp [hi, hy])
      rw [he] at this
      simp at this
      subst this
      rw [hx] at hi; cases hi; rfl
    rw [get_frD_one (L := pickD done pre) (v := x.v) ⟨x, mem_pickD.2 ⟨j, by simpa using h, hx⟩, hd⟩ (fun y hy => by obtain ⟨i, _, hi⟩ := mem_pickD.1 hy; exact hu i y hi),
      get_frD_one (L := done.reverse) (v := x.v) ⟨x, List.mem_reverse.2 (List.mem_of_getElem? hx), hd⟩ (fun y hy => by obtain ⟨i, hi⟩ := List.getElem?_of_mem (List.mem_reverse.1 hy); exact hu i y hi)]
  · cases h

def pureL : List (Option Nat) → List Opr → Bool
  | _, [] => true
  | ds, o :: r => (o.kill.isEmpty || r.isEmpty) && (match pureS o.op with | some ss => ss.all (agreeB ds o.pre o.hide) | none => false) &&
      (match o.guard with | some (g, _) => agreeB ds o.pre o.hide g | none => true) && pureL (ds ++ [o.dst]) r

theorem newer_views {n : Nat} : ∀ {m : Mem}, newer n (views m) = []
  | [] => rfl
  | (i, B) :: r => by simp only [views, newer]; exact newer_views

theorem memD_nil {m : Mem} : ∀ {L : List Dn}, (∀ x ∈ L, x.new = []) → memD L m = m
  | [], _ => rfl
  | x :: r, h => by
    unfold memD
    rw [h x List.mem_cons_self, memD_nil (fun y hy => h y (List.mem_cons_of_mem _ hy))]; rfl

/-- THE ORDER OF THE TEXT WILL DO -/
theorem exA_of_seq {T : List (Nat × List SV)} {call : CallT} (hcall : PointC call) {fr0 : Fr} {m : Mem} {n : Nat} {B : List Opr} {K : Fr → Mem → Nat → Prop} :
    ∀ (r : List Opr) (done : List Dn) (ks : List Nat), pureL (done.map (·.dst)) r = true → (∀ x ∈ done, x.new = []) → (r = [] ∨ ks = []) →
      exR T call (r ++ B) (dels (frD done.reverse fr0) ks) m n K →
      exA T call fr0 m r done n fun done n' => exR T call B (dels (frD done.reverse fr0) (ks ++ kills r)) (memD done.reverse m) n' K
  | [], done, ks, _, hn, _, h => by
    simp only [exA]
    rw [memD_nil (fun x hx => hn x (List.mem_reverse.1 hx))]
    simpa [kills] using h
  | o :: r, done, ks, hp, hn, hk, h => by
    have hk0 : ks = [] := by rcases hk with h | h <;> first | exact h | cases h
    subst hk0
    simp only [pureL, Bool.and_eq_true, Bool.or_eq_true] at hp
    obtain ⟨⟨⟨h1, h2⟩, h3⟩, h4⟩ := hp
    split at h2
    rotate_left
    · cases h2
    rename_i ss hss
    have hmem : memD (pickD done o.pre) m = m := memD_nil (fun x hx => by obtain ⟨j, _, hj⟩ := mem_pickD.1 hx; exact hn x (List.mem_of_getElem? hj))
    have hag : ∀ d ∈ ss, Sx.get (frD (pickD done o.pre) (dels fr0 o.hide)) d = Sx.get (frD done.reverse fr0) d := fun d hd => agree_ok (List.all_eq_true.1 h2 d hd)
    have next : ∀ v, exR T call (r ++ B) (dels (putO (frD done.reverse fr0) o.dst v) o.kill) m n K →
        exA T call fr0 m r (done ++ [⟨o.dst, v, [], n, n⟩]) n fun done n' => exR T call B (dels (frD done.reverse fr0) ([] ++ kills (o :: r))) (memD done.reverse m) n' K := by
      intro v hv
      have := exA_of_seq hcall (B := B) (K := K) r (done ++ [⟨o.dst, v, [], n, n⟩]) o.kill (by simpa using h4) (fun x hx => by
          rcases List.mem_append.1 hx with h | h
          · exact hn x h
          · simp at h; subst h; rfl) (by
          rcases h1 with h | h
          · right; simpa using h
          · left; simpa using h) (by simpa [frD] using hv)
      simpa [kills] using this
    simp only [exA, List.cons_append, exR] at h ⊢
    have hd0 : dels (frD done.reverse fr0) [] = frD done.reverse fr0 := rfl
    rw [hd0] at h
    cases hg : o.guard with
    | none =>
      simp only [hg] at h ⊢
      rw [hmem]
      refine exO_pure hcall hss hag (fun v hv => ⟨Nat.le_refl _, ?_⟩) h
      rw [newer_views]; exact next v hv
    | some gb =>
      obtain ⟨g, b⟩ := gb
      simp only [hg] at h h3 ⊢
      rw [agree_ok h3, hmem]
      generalize Sx.get (frD done.reverse fr0) g = gv at h ⊢
      cases gv with
      | bool t =>
        refine ⟨fun e => exO_pure hcall hss hag (fun v hv => ⟨Nat.le_refl _, ?_⟩) (h.1 e), fun e => next _ (h.2 e)⟩
        rw [newer_views]; exact next v hv
      | val v =>
        cases v <;> simp only at h ⊢
        exact next _ h
      | _ => exact h.elim
end Go.Sx
