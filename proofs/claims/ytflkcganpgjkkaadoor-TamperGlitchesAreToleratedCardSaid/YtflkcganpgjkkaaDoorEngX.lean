/- The engine, part X: tables of what is known of calls; functions that change one block. -/
import Derived.Test.YtflkcganpgjkkaaDoorEngW
namespace Go.Sx
open Go
set_option linter.unusedSimpArgs false
set_option linter.unusedVariables false

def lookF {α : Type} : List (FuncId × α) → FuncId → Option α
  | [], _ => none
  | (g, x) :: r, f => if g = f then some x else lookF r f
theorem lookF_mem {α : Type} : ∀ {L : List (FuncId × α)} {f : FuncId} {x : α}, lookF L f = some x → (f, x) ∈ L
  | (g, y) :: r, f, x, h => by
    unfold lookF at h
    split at h
    · rename_i e; subst e; cases h; exact List.mem_cons_self
    · exact List.mem_cons_of_mem _ (lookF_mem h)

/-- functions of plain values; methods that change the block that they are handed -/
structure Tab where
  p : List (FuncId × (List SV → Option SV))
  o : List (FuncId × TypeId × (List SV → List SV → Option (SV × List SV)))

def callX (L : Tab) : CallT := fun f args m n K =>
  match lookF L.p f with
  | some g => (match g args with
    | some r => K r m n
    | none => False)
  | none => match lookF L.o f with
    | some (e, g) => (match args with
      | .ptr i 0 :: rest => (match rd m i with
        | some ⟨.own e', cells⟩ => if e' = e then (match g rest cells with
          | some (r, cells') => i < n ∧ K r ((i, ⟨.own e, cells'⟩) :: rm m i) n
          | none => False) else False
        | _ => False)
      | _ => False)
    | none => False

theorem u_callX {L : Tab} {f : FuncId} {args : List SV} {m : Mem} {n : Nat} {K : Kt} : callX L f args m n K = (match lookF L.p f with
  | some g => (match g args with
    | some r => K r m n
    | none => False)
  | none => match lookF L.o f with
    | some (e, g) => (match args with
      | .ptr i 0 :: rest => (match rd m i with
        | some ⟨.own e', cells⟩ => if e' = e then (match g rest cells with
          | some (r, cells') => i < n ∧ K r ((i, ⟨.own e, cells'⟩) :: rm m i) n
          | none => False) else False
        | _ => False)
      | _ => False)
    | none => False) := (rfl)

def Plain (l : List SV) : Prop := ∀ η, SV.renL η l = l

structure TabX (P : Program) (T : List (Nat × List SV)) (L : Tab) : Prop where
  p : ∀ x ∈ L.p, ∀ args r, x.2 args = some r → Fun P T x.1 args [] 0 r [] 0 ∧ Plain args ∧ Plain [r]
  o : ∀ x ∈ L.o, ∀ args cells r cells', x.2.2 args cells = some (r, cells') →
    Fun P T x.1 (.ptr 0 0 :: args) [(0, ⟨.own x.2.1, cells⟩)] 1 r [(0, ⟨.own x.2.1, cells'⟩)] 1 ∧ Plain args ∧ Plain cells ∧ Plain [r] ∧ Plain cells'

theorem callX_ok {P : Program} {T : List (Nat × List SV)} {L : Tab} (h : TabX P T L) : ∀ f a m n K, callX L f a m n K → callT P T f a m n K := by
  intro f a m n K hk
  unfold callX at hk
  split at hk
  · rename_i g hg
    split at hk
    · rename_i r hr
      obtain ⟨h1, h2, h3⟩ := h.p _ (lookF_mem hg) _ _ hr
      refine ⟨[], a, [], r, [], 0, h1, (h2 _).symm, trivial, trivial, trivial, by simp, trivial, ?_⟩
      have h4 : r.ren (eta [] n) = r := by have := h3 (eta [] n); simpa [SV.renL] using this
      rw [h4]; exact hk
    · exact hk.elim
  · split at hk
    · rename_i e g hg
      split at hk
      · rename_i i rest
        split at hk
        · rename_i e' cells hB
          split at hk
          · rename_i he
            subst he
            split at hk
            · rename_i r cells' hr
              obtain ⟨h1, h2, h3, h4, h5⟩ := h.o _ (lookF_mem hg) _ _ _ _ hr
              have e0 : eta [(i, 0)] n 0 = (i, 0) := rfl
              have e1 : SV.ren (eta [(i, 0)] n) (.ptr 0 0) = .ptr i 0 := by simp [SV.ren, e0]
              have e2 : r.ren (eta [(i, 0)] n) = r := by have := h4 (eta [(i, 0)] n); simpa [SV.renL] using this
              refine ⟨[(i, 0)], .ptr 0 0 :: rest, [(0, ⟨.own e', cells⟩)], r, [(0, ⟨.own e', cells'⟩)], 1, h1, ?_, ?_, ?_, ?_, ?_, ?_, ?_⟩
              · simp only [SV.renL, e1, h2 _]
              · refine ⟨⟨_, by rw [e0]; exact hB, ?_⟩, trivial⟩
                exact ⟨by rw [e0], rfl, (h3 _).symm⟩
              · exact ⟨by simp, trivial⟩
              · exact ⟨by simp, trivial⟩
              · intro x hx; simp at hx; subst hx; exact hk.1
              · exact ⟨fun _ => by rw [e0], trivial⟩
              · rw [e2]
                have : newOwn (eta [(i, 0)] n) [(0, ⟨.own e', cells'⟩)] ++ rms m (targets (eta [(i, 0)] n) [(0, ⟨.own e', cells⟩)]) = (i, ⟨.own e', cells'⟩) :: rm m i := by
                  simp [newOwn, targets, rms, Kind.isOwn, e0, h5 _]
                rw [this]
                simpa using hk.2
            · exact hk.elim
          · exact hk.elim
        · exact hk.elim
      · exact hk.elim
    · exact hk.elim

/-- a function that leaves its block in this state -/
def finO (T : List (Nat × List SV)) (res : List RV) (r : SV) (e : TypeId) (cells : List SV) : Post := fun x fr m n =>
  match x with
  | .exit _ => False
  | _ => evRes T fr res m n fun l m _ => (match rd m 0 with | some B => B = ⟨.own e, cells⟩ | none => False) ∧ retOf l = r
section
variable {T : List (Nat × List SV)} {res : List RV} {r : SV} {e : TypeId} {cells : List SV} {fr : Fr} {m : Mem} {n j : Nat}
theorem finO_r : finO T res r e cells .ret fr m n = evRes T fr res m n fun l m _ => (match rd m 0 with | some B => B = ⟨.own e, cells⟩ | none => False) ∧ retOf l = r := (rfl)
theorem finO_n : finO T res r e cells .normal fr m n = evRes T fr res m n fun l m _ => (match rd m 0 with | some B => B = ⟨.own e, cells⟩ | none => False) ∧ retOf l = r := (rfl)
theorem finO_x : finO T res r e cells (.exit j) fr m n = False := (rfl)
end

/-- THE RULE FOR A METHOD THAT CHANGES ITS BLOCK -/
theorem fun_own {P : Program} {T : List (Nat × List SV)} (u : Option Nat) (c1 : CallT) (hF : ∀ f a m n K, c1 f a m n K → callT P T f a m n K) {f : FuncId} {sf : SF} {args : List SV} {r : SV} {e : TypeId} {cells cells' : List SV}
    (hc : chkF P f sf = true) (hlen : args.length + 1 ≤ sf.n) (hr : Plain [r]) (hcs : Plain cells')
    (h : den T c1 (callT P T) u 1 (finO T sf.res r e cells') [.c sf.body] .normal (frOf 0 (.ptr 0 0 :: args)) [(0, ⟨.own e, cells⟩)] 1) :
    Fun P T f (.ptr 0 0 :: args) [(0, ⟨.own e, cells⟩)] 1 r [(0, ⟨.own e, cells'⟩)] 1 := by
  refine fun_of_exec hc (by simpa using hlen) (Nat.le_refl _) (exC_mono (callT_point P T) _ _ _ _ _ _ (exC_of_ev hF (callT_point P T) _ _ _ _ _ h) fun x fr m n h => ?_)
  have key : (evRes T fr sf.res m n fun l m _ => (match rd m 0 with | some B => B = ⟨.own e, cells'⟩ | none => False) ∧ retOf l = r) →
      exRes T fr sf.res m n fun l m1 n1 => ∃ hs, EntM 1 m1 n1 hs [(0, ⟨.own e, cells'⟩)] 1 ∧ retOf l = r.ren (eta hs n1) := fun h =>
    exRes_mono (exRes_of_ev h) fun l m n h => by
      obtain ⟨h1, h2⟩ := h
      split at h1
      · rename_i B hB
        subst h1
        refine ⟨[(0, 0)], ⟨rfl, Nat.le_refl _, rfl, ⟨⟨_, hB, rfl, rfl, (hcs _).symm⟩, trivial⟩, ⟨by simp, trivial⟩, ⟨by simp, trivial⟩⟩, ?_⟩
        have := hr (eta [(0, 0)] n)
        simp [SV.renL] at this
        rw [this]; exact h2
      · exact h1.elim
  cases x with
  | normal => exact key h
  | exit j => exact h
  | ret => exact key h

theorem idHs_len : ∀ k, (idHs k).length = k
  | 0 => rfl
  | k + 1 => by simp [idHs, idHs_len k]

/-- THE RULE FOR A FUNCTION OF WHICH THE ANSWER ALONE COUNTS -/
theorem fun_val {P : Program} {T : List (Nat × List SV)} (u : Option Nat) (c1 : CallT) (hF : ∀ f a m n K, c1 f a m n K → callT P T f a m n K) {f : FuncId} {sf : SF} {args : List SV} {m0 : Mem} {n0 : Nat} {r : SV}
    (hc : chkF P f sf = true) (hlen : args.length ≤ sf.n) (hr : ∀ η, r.ren η = r)
    (h : den T c1 (callT P T) u n0 (finP T sf.res r) [.c sf.body] .normal (frOf 0 args) m0 n0) : Fun P T f args m0 n0 r [] n0 := by
  refine fun_of_exec hc hlen (Nat.le_refl _) (exC_mono (callT_point P T) _ _ _ _ _ _ (exC_of_ev hF (callT_point P T) _ _ _ _ _ h) fun e fr m n h => ?_)
  have key : (evRes T fr sf.res m n fun l _ _ => retOf l = r) → exRes T fr sf.res m n fun l m1 n1 => ∃ hs, EntM n0 m1 n1 hs [] n0 ∧ retOf l = r.ren (eta hs n1) := fun h =>
    exRes_mono (exRes_of_ev h) fun l m n h => ⟨idHs n0, ⟨idHs_len n0, Nat.le_refl _, by rw [List.take_of_length_le (by rw [idHs_len]; exact Nat.le_refl _)], trivial, trivial, trivial⟩, by rw [hr]; exact h⟩
  cases e with
  | normal => exact key h
  | exit j => exact h
  | ret => exact key h

/-- one function whose calls are left to the reader, the others by the table -/
def callAnd (f0 : FuncId) (cT c : CallT) : CallT := fun f args m n K => if f = f0 then cT f args m n K else c f args m n K
theorem u_callAnd {f0 f : FuncId} {cT c : CallT} {args : List SV} {m : Mem} {n : Nat} {K : Kt} : callAnd f0 cT c f args m n K = if f = f0 then cT f args m n K else c f args m n K := (rfl)
theorem callAnd_ok {P : Program} {T : List (Nat × List SV)} {f0 : FuncId} {c : CallT} (hc : ∀ f a m n K, c f a m n K → callT P T f a m n K) :
    ∀ f a m n K, callAnd f0 (callT P T) c f a m n K → callT P T f a m n K := by
  intro f a m n K h
  unfold callAnd at h
  split at h
  · exact h
  · exact hc _ _ _ _ _ h
end Go.Sx
