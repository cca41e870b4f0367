/- Parts of the proof. No condition. -/
import Derived.WalkKit
import Derived.WalkSpells
import Derived.WalkLawsBesides
import Derived.RowKit3
import Derived.Laws.EntriesVeiled
import Derived.Deep.QuietTactic
import Derived.BigQuiet
import Derived.Lib.Hide
import Derived.StillTail
import Derived.Deep.CutRange
import Derived.Deep.DeepCutAuto
import Derived.LoopTactic
set_option linter.unusedVariables false
set_option linter.unusedSimpArgs false
set_option linter.unusedSectionVars false
namespace Go.Proofs.Ytkageldgmkajbaa
open Go.RowKit
structure After (w : World) where
  now : World
  grown : Grown w now
instance (w : World) : Nonempty (After w) := ⟨⟨w, Grown.refl w⟩⟩
theorem grown_cells {w w' : World} (h : Grown w w') : ∀ b o, b < w.heap.size → w'.cell? ⟨b, o, none⟩ = w.cell? ⟨b, o, none⟩ :=
  fun _ _ hb => h.1.cell hb (fun f => f)
@[go_sem] theorem After.cell {w : World} (n : After w) (b o : Nat) (hb : b < w.heap.size) : n.now.cell? ⟨b, o, none⟩ = w.cell? ⟨b, o, none⟩ := grown_cells n.grown b o hb
@[go_sem] theorem After.froz {w : World} (n : After w) (a : Addr) : n.now.frozen? a = w.frozen? a := n.grown.2.1 a
theorem After.size {w : World} (n : After w) : w.heap.size ≤ n.now.heap.size := n.grown.2.2
end Go.Proofs.Ytkageldgmkajbaa
namespace Go.Proofs.Ytkageldgmkajbaa
open Go.RowKit
structure Fact where
  idx : Nat
  lo : Nat
  hi : Nat
  holds : World → Prop
structure Stays (E : World → World → Prop) (w0 : World) : Prop where
  refl : ∀ w, E w w
  trans : ∀ a b c, E a b → E b c → E a c
  size : ∀ a b, E a b → a.heap.size ≤ b.heap.size
  alloc : ∀ w c t, E w (w.alloc (.cells c t))
  keeps : ∀ a b k, E a b → w0.heap.size ≤ k → k < a.heap.size → b.heap[k]? = a.heap[k]?
def Wit (E : World → World → Prop) (w0 : World) (fs : List Fact) (w : World) : Prop := E w0 w ∧ ∀ f ∈ fs, f.holds w ∧ f.hi ≤ w.heap.size
def Cls (md : Region.Mode) (ops : Array Oper) (E : World → World → Prop) (w0 : World) (j : Nat) (fs : List Fact) (w : World) : Prop :=
  E w0 w ∧ ∀ f ∈ fs, Region.waitsFor md ops j f.idx = true → f.holds w
def Far (fs : List Fact) (lo hi : Nat) : Prop := ∀ f ∈ fs, hi ≤ f.lo ∨ f.hi ≤ lo
def shV (sh : Option (Nat × Nat)) (b : Nat) : Value :=
  match sh with
  | none => .pointer (some ⟨b, 0, none⟩)
  | some (n, c) => .slice (some ⟨b, 0, none⟩) n c
theorem shV_inj {s t : Option (Nat × Nat)} {b : Nat} (h : shV s b = shV t b) : s = t := by
  cases s with
  | none => cases t with
    | none => rfl
    | some q => simp [shV] at h
  | some p => cases t with
    | none => simp [shV] at h
    | some q => obtain ⟨_, _⟩ := p; obtain ⟨_, _⟩ := q; simp [shV] at h; simp [h]
def isCall (o : Oper) : Bool :=
  match o.op with
  | .move _ | .assign _ | .pick .. | .alloc _ | .box .. | .build .. | .buildSlice .. | .load .. | .binOp .. | .unOp .. | .convert .. | .field .. | .fieldAddr .. | .indexAddr .. | .index .. | .extract .. | .slice .. | .lookup .. | .nilCheck _ => false
  | .call { callee := .builtin .len, .. } | .call { callee := .builtin .cap, .. } | .call { callee := .builtin .min, .. } | .call { callee := .builtin .max, .. } => false
  | _ => true
theorem value_of_v {P : Program} {w w' : World} {s : Sem Value} {n : Next} (h : (do pure (Next.value (← s)) : Sem Next).run P w = .ok n w') : ∃ v, n = .value v := by
  simp only [Sem.run_bind, Sem.run_pure] at h
  cases hs : s.run P w with
  | ok v w1 => rw [hs] at h; simp [Result.andThen] at h; exact ⟨v, h.1.symm⟩
  | halt x w1 => rw [hs] at h; simp [Result.andThen] at h
theorem noEnter {P : Program} {o : Oper} (hc : isCall o = false) (ρ : Operand → Value) {w w' : World} {f : FuncId} {args : Array Value} (h : (execOp ρ o).run P w = .ok (.enter f args) w') : False := by
  obtain ⟨dst, op, ty, pos, after, guard⟩ := o
  cases op
  case call c =>
    obtain ⟨cal, avs, at_⟩ := c
    cases cal with
    | builtin b =>
      cases b <;> first | (simp [isCall] at hc; done) | (simp only [execOp, resolve, invoke, builtin, Sem.run_bind, Sem.run_pure, Result.andThen] at h; split at h <;> simp at h)
    | _ => simp [isCall] at hc
  case pick c a b =>
    simp only [execOp, Sem.run_bind, Sem.run_pure] at h
    cases hs : (asBool (ρ c)).run P w with
    | ok v w1 => rw [hs] at h; simp [Result.andThen] at h
    | halt x w1 => rw [hs] at h; simp [Result.andThen] at h
  case nilCheck x =>
    have noPanic : (runtimePanic .nilDeref : Sem Next).run P w = .ok (.enter f args) w' → False := fun h => by
      simp [runtimePanic, program, goPanic, Sem.run, Sem.bind, bind, pure, Sem.pure, Result.andThen] at h
    have key : ∀ s : Sem Value, (do pure (Next.value (← s)) : Sem Next).run P w = .ok (.enter f args) w' → False := fun s h => by
      obtain ⟨v, hv⟩ := value_of_v (P := P) h; cases hv
    simp only [execOp] at h
    split at h
    · exact noPanic h
    · exact noPanic h
    · exact noPanic h
    · split at h
      · exact noPanic h
      · rename_i t u _
        simp only [Sem.run_bind] at h
        generalize hs : (program).run P w = r at h
        cases r with
        | halt x w1 => simp [Result.andThen] at h
        | ok v w1 =>
          simp only [Result.andThen] at h
          generalize hs' : Sem.run P _ w1 = r' at h
          cases r' with
          | halt x w2 => simp [Result.andThen] at h
          | ok v' w2 =>
            simp only [Result.andThen] at h
            split at h <;> simp [Sem.run_bind, Sem.run_pure, unsupported, Sem.run, Result.andThen] at h
      · simp [Sem.run_pure] at h
    · simp [Sem.run_pure] at h
  all_goals first | (simp [isCall] at hc; done) | (simp [execOp] at h; done) | (obtain ⟨v, hv⟩ := value_of_v (P := P) h; cases hv)
def isAlloc (o : Oper) : Bool := match o.op with | .alloc _ | .box .. | .buildSlice .. => true | _ => false
def givesUpon (P : Program) (w : World) (T : Value → World → Prop) : Result Next → Prop
  | .ok (.value u) w' => T u w'
  | .ok (.enter f args) w' => w' = w ∧ Calls P f args w (fun e w'' => ∃ v, e = .returned v ∧ T v w'')
  | _ => False
def gives (P : Program) (o : Oper) (a : Act) (w : World) (T : Value → World → Prop) : Prop := givesUpon P w T ((execOp a.eval o).run P w)
theorem givesUpon_some {P : Program} {w : World} {T : Value → World → Prop} : ∀ {r : Result Next}, givesUpon P w T r → ∃ v w', T v w'
  | .ok (.value _) _, hh => ⟨_, _, hh⟩
  | .ok (.enter _ _) _, hh => by
    obtain ⟨e, w', _, ⟨v, _, ht⟩, _⟩ := hh.2 []
    exact ⟨v, w', ht⟩
  | .ok .skip _, hh => hh.elim
  | .ok (.defer _) _, hh => hh.elim
  | .ok (.row _ _) _, hh => hh.elim
  | .halt _ _, hh => hh.elim
section
variable (P : Program) (md : Region.Mode) (ops : Array Oper) (E : World → World → Prop) (w0 : World)
def mStep (o : Oper) (j : Nat) (fs : List Fact) (a : Act) (K : List Fact → Act → Prop) : Prop :=
  (∃ v, (∀ w, Cls md ops E w0 j fs w → o.quietAt P a (E w) w v) ∧ K fs (a.put o.dst v))
  ∨ (isCall o = true ∧ ∃ S : Value → Nat → Nat → World → Prop, (∀ v lo hi w w', S v lo hi w → E w w' → S v lo hi w') ∧
      (∀ w, Cls md ops E w0 j fs w → gives P o a w (fun v w' => E w w' ∧ S v w.heap.size w'.heap.size w')) ∧
      ∀ v lo hi, lo ≤ hi → w0.heap.size ≤ lo → Far fs lo hi → (∃ w, Wit E w0 (⟨j, lo, hi, S v lo hi⟩ :: fs) w) → K (⟨j, lo, hi, S v lo hi⟩ :: fs) (a.put o.dst v))
  ∨ (isAlloc o = true ∧ ∃ sh c t, (∀ w, Cls md ops E w0 j fs w → (execOp a.eval o).run P w = .ok (.value (shV sh w.heap.size)) (w.alloc (.cells c t))) ∧
      ∀ b, w0.heap.size ≤ b → Far fs b (b + 1) → (∃ w, Wit E w0 (⟨j, b, b + 1, fun w => w.heap[b]? = some (.cells c t)⟩ :: fs) w) →
        K (⟨j, b, b + 1, fun w => w.heap[b]? = some (.cells c t)⟩ :: fs) (a.put o.dst (shV sh b)))
def mOp (j : Nat) (K : List Fact → Act → Prop) (fs : List Fact) (a : Act) : Prop :=
  match ops[j]? with
  | none => K fs a
  | some o => if Region.wanted o (yielded ops a.tmps) then mStep P md ops E w0 o j fs a K else K fs (a.put o.dst undef)
def wpM (Q : List Fact → Act → Prop) : List Nat → List Fact → Act → Prop
  | [], fs, a => Q fs a
  | j :: r, fs, a => (∃ w, Wit E w0 fs w) → mOp P md ops E w0 j (wpM Q r) fs a
def wpAnyM (n : Nat) (L : Array Bool → List Fact → Act → Prop) : Nat → Array Bool → List Fact → Act → Prop
  | 0, listed, fs, a => L listed fs a
  | f + 1, listed, fs, a => Region.ready md ops listed ≠ [] ∧ ∀ i ∈ Region.ready md ops listed, i < n ∧ mOp P md ops E w0 i (wpAnyM n L f (listed.setIfInBounds i true)) fs a
end
section
variable {P : Program} {md : Region.Mode} {ops : Array Oper} {E : World → World → Prop} {w0 : World}
theorem Wit.cls {fs : List Fact} {w : World} (h : Wit E w0 fs w) (j : Nat) : Cls md ops E w0 j fs w := ⟨h.1, fun f hf _ => (h.2 f hf).1⟩
theorem Wit.mono (hE : Stays E w0) {fs : List Fact} {w w' : World} (hS : ∀ f ∈ fs, ∀ u u', f.holds u → f.hi ≤ u.heap.size → E u u' → f.holds u') (h : Wit E w0 fs w) (he : E w w') : Wit E w0 fs w' :=
  ⟨hE.trans _ _ _ h.1 he, fun f hf => ⟨hS f hf _ _ (h.2 f hf).1 (h.2 f hf).2 he, Nat.le_trans (h.2 f hf).2 (hE.size _ _ he)⟩⟩
def Stay (E : World → World → Prop) (fs : List Fact) : Prop := ∀ f ∈ fs, ∀ u u', f.holds u → f.hi ≤ u.heap.size → E u u' → f.holds u'
theorem Stay.nil : Stay E [] := fun _ h => by cases h
theorem Stay.cons {f : Fact} {fs : List Fact} (h : ∀ u u', f.holds u → f.hi ≤ u.heap.size → E u u' → f.holds u') (hs : Stay E fs) : Stay E (f :: fs) := fun g hg => by
  rcases List.mem_cons.1 hg with rfl | hg
  · exact h
  · exact hs g hg
theorem far_of_wit {fs : List Fact} {w : World} {lo hi : Nat} (h : Wit E w0 fs w) (hl : w.heap.size ≤ lo) : Far fs lo hi := fun f hf => .inr (Nat.le_trans (h.2 f hf).2 hl)
theorem wpAny_of_M (hE : Stays E w0) {n g : Nat} {L : Array Bool → List Fact → Act → Prop} {Q' : Exit → Act → World → Prop}
    (hL : ∀ listed fs a w, L listed fs a → Wit E w0 fs w → wpAny P md ops Q' g listed a w) :
    ∀ (f : Nat) (listed : Array Bool) (fs : List Fact) (a : Act) (w : World), Stay E fs → Wit E w0 fs w → wpAnyM P md ops E w0 n L f listed fs a → wpAny P md ops Q' (f + g) listed a w
  | 0, listed, fs, a, w, _, hw, h => by rw [Nat.zero_add]; exact hL _ _ _ _ h hw
  | f + 1, listed, fs, a, w, hs, hw, h => by
    rw [show f + 1 + g = (f + g) + 1 by omega]
    refine ⟨fun h0 => absurd h0 h.1, fun i hi => ?_⟩
    have h1 := (h.2 i hi).2
    unfold mOp at h1
    unfold wpOp
    split
    · rename_i ho; simp only [ho] at h1; exact wpAny_of_M hE hL f _ _ _ _ hs hw h1
    · rename_i o ho
      simp only [ho] at h1
      split
      · rename_i hq
        simp only [hq, if_true] at h1
        left
        unfold Oper.wp
        rcases h1 with ⟨v, h2, h3⟩ | ⟨_, S, hm, h2, h3⟩ | ⟨_, sh, c, t, h2, h3⟩
        · have h4 := h2 w (hw.cls i)
          unfold Oper.quietAt at h4
          generalize (execOp a.eval o).run P w = r at *
          cases r with
          | ok k w' =>
            cases k <;> simp only [Oper.quietUpon] at h4 <;> simp only [Oper.upon]
            case value u => obtain ⟨e1, e2⟩ := h4; rw [e1, e2]; exact wpAny_of_M hE hL f _ _ _ _ hs hw h3
            case skip => obtain ⟨e1, e2⟩ := h4; rw [e1, ← e2]; exact wpAny_of_M hE hL f _ _ _ _ hs hw h3
            case enter f' args =>
              obtain ⟨e1, hc⟩ := h4
              rw [e1]
              exact hc.mono fun e w'' ⟨he, hw''⟩ => by subst he; exact wpAny_of_M hE hL f _ _ _ _ hs (hw.mono hE hs hw'') h3
          | halt x w' => simp only [Oper.quietUpon] at h4
        · have h4 := h2 w (hw.cls i)
          unfold gives at h4
          have key : ∀ v w'', E w w'' ∧ S v w.heap.size w''.heap.size w'' → wpAny P md ops Q' (f + g) (listed.setIfInBounds i true) (a.put o.dst v) w'' := fun v w'' ⟨he, hv⟩ => by
            have hs' : Stay E (⟨i, w.heap.size, w''.heap.size, S v w.heap.size w''.heap.size⟩ :: fs) := Stay.cons (fun u u' a _ b => hm _ _ _ _ _ a b) hs
            have hw' : Wit E w0 (⟨i, w.heap.size, w''.heap.size, S v w.heap.size w''.heap.size⟩ :: fs) w'' :=
              ⟨hE.trans _ _ _ hw.1 he, fun f hf => by
                rcases List.mem_cons.1 hf with rfl | hf
                · exact ⟨hv, Nat.le_refl _⟩
                · exact (hw.mono hE hs he).2 f hf⟩
            exact wpAny_of_M hE hL f _ _ _ _ hs' hw' (h3 v _ _ (hE.size _ _ he) (hE.size _ _ hw.1) (far_of_wit hw (Nat.le_refl _)) ⟨_, hw'⟩)
          generalize (execOp a.eval o).run P w = r at *
          cases r with
          | ok k w' =>
            cases k <;> simp only [givesUpon] at h4 <;> simp only [Oper.upon]
            case value u => exact key _ _ h4
            case enter f' args =>
              obtain ⟨e1, hc⟩ := h4
              rw [e1]
              exact hc.mono fun e w'' ⟨v, he, hw''⟩ => by subst he; exact key _ _ hw''
          | halt x w' => simp only [givesUpon] at h4
        · rw [h2 w (hw.cls i)]
          simp only [Oper.upon]
          have he := hE.alloc w c t
          have hn : (w.alloc (.cells c t)).heap[w.heap.size]? = some (.cells c t) := heap_alloc_new w _
          have hsz : (w.alloc (.cells c t)).heap.size = w.heap.size + 1 := by show (w.heap.push _).size = _; simp
          have hs' : Stay E (⟨i, w.heap.size, w.heap.size + 1, fun u => u.heap[w.heap.size]? = some (.cells c t)⟩ :: fs) :=
            Stay.cons (fun u u' a1 a2 b => (hE.keeps _ _ _ b (hE.size _ _ hw.1) (by simp only [] at a2; omega)).trans a1) hs
          have hw' : Wit E w0 (⟨i, w.heap.size, w.heap.size + 1, fun u => u.heap[w.heap.size]? = some (.cells c t)⟩ :: fs) (w.alloc (.cells c t)) :=
            ⟨hE.trans _ _ _ hw.1 he, fun f hf => by
              rcases List.mem_cons.1 hf with rfl | hf
              · exact ⟨hn, by rw [hsz]; exact Nat.le_refl _⟩
              · exact (hw.mono hE hs he).2 f hf⟩
          exact wpAny_of_M hE hL f _ _ _ _ hs' hw' (h3 _ (hE.size _ _ hw.1) (far_of_wit hw (Nat.le_refl _)) ⟨_, hw'⟩)
      · rename_i hq
        simp only [hq] at h1
        exact wpAny_of_M hE hL f _ _ _ _ hs hw h1
def QOk (P : Program) (md : Region.Mode) (ops : Array Oper) (E : World → World → Prop) (w0 : World) (o : Oper) (i : Nat) (fs : List Fact) (a : Act) (v : Value) : Prop :=
  (Region.wanted o (yielded ops a.tmps) = true ∧ ∀ w, Cls md ops E w0 i fs w → o.quietAt P a (E w) w v) ∨ (Region.wanted o (yielded ops a.tmps) = false ∧ v = undef)
def COk (P : Program) (md : Region.Mode) (ops : Array Oper) (E : World → World → Prop) (w0 : World) (o : Oper) (i : Nat) (fs : List Fact) (a : Act) (S : Value → Nat → Nat → World → Prop) : Prop :=
  Region.wanted o (yielded ops a.tmps) = true ∧ isCall o = true ∧ (∀ v lo hi w w', S v lo hi w → E w w' → S v lo hi w') ∧
      (∀ w, Cls md ops E w0 i fs w → gives P o a w (fun v w' => E w w' ∧ S v w.heap.size w'.heap.size w'))
def AOk (P : Program) (md : Region.Mode) (ops : Array Oper) (E : World → World → Prop) (w0 : World) (o : Oper) (i : Nat) (fs : List Fact) (a : Act) (sh : Option (Nat × Nat)) (c : Array Value) (t : TypeId) : Prop :=
  Region.wanted o (yielded ops a.tmps) = true ∧ isAlloc o = true ∧ (∀ w, Cls md ops E w0 i fs w → (execOp a.eval o).run P w = .ok (.value (shV sh w.heap.size)) (w.alloc (.cells c t)))
def CK (E : World → World → Prop) (w0 : World) (i : Nat) (o : Oper) (fs : List Fact) (a : Act) (S : Value → Nat → Nat → World → Prop) (K : List Fact → Act → Prop) : Prop :=
  ∀ v lo hi, lo ≤ hi → w0.heap.size ≤ lo → Far fs lo hi → (∃ w, Wit E w0 (⟨i, lo, hi, S v lo hi⟩ :: fs) w) → K (⟨i, lo, hi, S v lo hi⟩ :: fs) (a.put o.dst v)
def AK (E : World → World → Prop) (w0 : World) (i : Nat) (o : Oper) (fs : List Fact) (a : Act) (sh : Option (Nat × Nat)) (c : Array Value) (t : TypeId) (K : List Fact → Act → Prop) : Prop :=
  ∀ b, w0.heap.size ≤ b → Far fs b (b + 1) → (∃ w, Wit E w0 (⟨i, b, b + 1, fun w => w.heap[b]? = some (.cells c t)⟩ :: fs) w) →
        K (⟨i, b, b + 1, fun w => w.heap[b]? = some (.cells c t)⟩ :: fs) (a.put o.dst (shV sh b))
theorem mOp_cases {i : Nat} {o : Oper} {fs : List Fact} {a : Act} {K : List Fact → Act → Prop} (hi : ops[i]? = some o) (h : mOp P md ops E w0 i K fs a) :
    (∃ v, QOk P md ops E w0 o i fs a v ∧ K fs (a.put o.dst v)) ∨ (∃ S, COk P md ops E w0 o i fs a S ∧ CK E w0 i o fs a S K) ∨ (∃ sh c t, AOk P md ops E w0 o i fs a sh c t ∧ AK E w0 i o fs a sh c t K) := by
  unfold mOp at h
  simp only [hi] at h
  by_cases hq : Region.wanted o (yielded ops a.tmps) = true
  · simp only [hq, if_true] at h
    rcases h with ⟨v, h1, h2⟩ | ⟨hc, S, h1, h2, h3⟩ | ⟨hc, sh, c, t, h1, h2⟩
    · exact .inl ⟨v, .inl ⟨hq, h1⟩, h2⟩
    · exact .inr (.inl ⟨S, ⟨hq, hc, h1, h2⟩, h3⟩)
    · exact .inr (.inr ⟨sh, c, t, ⟨hq, hc, h1⟩, h2⟩)
  · simp only [hq] at h
    exact .inl ⟨undef, .inr ⟨by simpa using hq, rfl⟩, h⟩
theorem mOp_q {i : Nat} {o : Oper} {fs : List Fact} {a : Act} {v : Value} {K : List Fact → Act → Prop} (hi : ops[i]? = some o) (h : QOk P md ops E w0 o i fs a v) (hK : K fs (a.put o.dst v)) : mOp P md ops E w0 i K fs a := by
  unfold mOp
  simp only [hi]
  rcases h with ⟨hq, h1⟩ | ⟨hq, rfl⟩
  · simp only [hq, if_true]; exact .inl ⟨v, h1, hK⟩
  · simp only [hq, Bool.false_eq_true, if_false]; exact hK
theorem mOp_c {i : Nat} {o : Oper} {fs : List Fact} {a : Act} {S : Value → Nat → Nat → World → Prop} {K : List Fact → Act → Prop} (hi : ops[i]? = some o) (h : COk P md ops E w0 o i fs a S) (hK : CK E w0 i o fs a S K) : mOp P md ops E w0 i K fs a := by
  unfold mOp
  simp only [hi, h.1, if_true]
  exact .inr (.inl ⟨h.2.1, S, h.2.2.1, h.2.2.2, hK⟩)
theorem mOp_a {i : Nat} {o : Oper} {fs : List Fact} {a : Act} {sh : Option (Nat × Nat)} {c : Array Value} {t : TypeId} {K : List Fact → Act → Prop} (hi : ops[i]? = some o) (h : AOk P md ops E w0 o i fs a sh c t) (hK : AK E w0 i o fs a sh c t K) : mOp P md ops E w0 i K fs a := by
  unfold mOp
  simp only [hi, h.1, if_true]
  exact .inr (.inr ⟨h.2.1, sh, c, t, h.2.2, hK⟩)
def Same (fs gs : List Fact) : Prop := ∀ f, f ∈ fs ↔ f ∈ gs
theorem Same.cons {fs gs : List Fact} (h : Same fs gs) (f : Fact) : Same (f :: fs) (f :: gs) := fun g => by simp only [List.mem_cons, h g]
theorem Same.swap (f g : Fact) (fs : List Fact) : Same (f :: g :: fs) (g :: f :: fs) := fun x => by simp only [List.mem_cons]; constructor <;> (rintro (h | h | h) <;> simp [h])
theorem Same.symm {fs gs : List Fact} (h : Same fs gs) : Same gs fs := fun f => (h f).symm
theorem Same.refl (fs : List Fact) : Same fs fs := fun _ => Iff.rfl
theorem Cls.same {fs gs : List Fact} {j : Nat} {w : World} (h : Same fs gs) (hc : Cls md ops E w0 j gs w) : Cls md ops E w0 j fs w := ⟨hc.1, fun f hf => hc.2 f ((h f).1 hf)⟩
theorem Wit.same {fs gs : List Fact} {w : World} (h : Same fs gs) (hc : Wit E w0 gs w) : Wit E w0 fs w := ⟨hc.1, fun f hf => hc.2 f ((h f).1 hf)⟩
theorem Far.same {fs gs : List Fact} {lo hi : Nat} (h : Same fs gs) (hc : Far gs lo hi) : Far fs lo hi := fun f hf => hc f ((h f).1 hf)
theorem mOp_same {i : Nat} {fs gs : List Fact} {a : Act} {K K' : List Fact → Act → Prop} (hs : Same fs gs) (hK : ∀ fs gs a, Same fs gs → K fs a → K' gs a) (h : mOp P md ops E w0 i K fs a) : mOp P md ops E w0 i K' gs a := by
  cases hi : ops[i]? with
  | none => unfold mOp at *; simp only [hi] at *; exact hK _ _ _ hs h
  | some o =>
    rcases mOp_cases hi h with ⟨v, h1, h2⟩ | ⟨S, h1, h2⟩ | ⟨sh, c, t, h1, h2⟩
    · refine mOp_q hi (v := v) ?_ (hK _ _ _ hs h2)
      rcases h1 with ⟨hq, h1⟩ | h1
      · exact .inl ⟨hq, fun w hw => h1 w (hw.same hs)⟩
      · exact .inr h1
    · exact mOp_c hi ⟨h1.1, h1.2.1, h1.2.2.1, fun w hw => h1.2.2.2 w (hw.same hs)⟩ (fun v lo hi b1 b2 b3 ⟨w, b4⟩ => hK _ _ _ (hs.cons _) (h2 v lo hi b1 b2 (b3.same hs) ⟨w, b4.same (hs.cons _)⟩))
    · exact mOp_a hi ⟨h1.1, h1.2.1, fun w hw => h1.2.2 w (hw.same hs)⟩ (fun b b1 b2 ⟨w, b3⟩ => hK _ _ _ (hs.cons _) (h2 b b1 (b2.same hs) ⟨w, b3.same (hs.cons _)⟩))
theorem wpAnyM_same {n : Nat} {L : Array Bool → List Fact → Act → Prop} (hL : ∀ listed fs gs a, Same fs gs → L listed fs a → L listed gs a) :
    ∀ (f : Nat) (listed : Array Bool) (fs gs : List Fact) (a : Act), Same fs gs → wpAnyM P md ops E w0 n L f listed fs a → wpAnyM P md ops E w0 n L f listed gs a
  | 0, _, _, _, _, hs, h => hL _ _ _ _ hs h
  | f + 1, _, _, _, _, hs, h => ⟨h.1, fun i hi => ⟨(h.2 i hi).1, mOp_same hs (fun _ _ _ hs' h' => wpAnyM_same hL f _ _ _ _ hs' h') (h.2 i hi).2⟩⟩
theorem cls_cons {f : Fact} {fs : List Fact} {j : Nat} {w : World} (h : Region.waitsFor md ops j f.idx = false) : Cls md ops E w0 j (f :: fs) w ↔ Cls md ops E w0 j fs w := by
  constructor
  · exact fun hc => ⟨hc.1, fun g hg hw => hc.2 g (List.mem_cons_of_mem _ hg) hw⟩
  · exact fun hc => ⟨hc.1, fun g hg hw => by
      rcases List.mem_cons.1 hg with rfl | hg
      · rw [h] at hw; cases hw
      · exact hc.2 g hg hw⟩
section
variable {o : Oper} {dst : Option Tmp} {x : Value} {a : Act} {fs : List Fact} {i : Nat}
theorem QOk_put {v : Value} (hs : ∀ cs b, o.op ≠ .select cs b) (h : ∀ d, dst = some d → d ∉ o.looksAt ops) : QOk P md ops E w0 o i fs (a.put dst x) v ↔ QOk P md ops E w0 o i fs a v := by
  unfold QOk Oper.quietAt; rw [execOp_put o hs a dst x h, wanted_put o a dst x h]
theorem COk_put {S : Value → Nat → Nat → World → Prop} (hs : ∀ cs b, o.op ≠ .select cs b) (h : ∀ d, dst = some d → d ∉ o.looksAt ops) : COk P md ops E w0 o i fs (a.put dst x) S ↔ COk P md ops E w0 o i fs a S := by
  unfold COk gives; rw [execOp_put o hs a dst x h, wanted_put o a dst x h]
theorem AOk_put {sh : Option (Nat × Nat)} {c : Array Value} {t : TypeId} (hs : ∀ cs b, o.op ≠ .select cs b) (h : ∀ d, dst = some d → d ∉ o.looksAt ops) : AOk P md ops E w0 o i fs (a.put dst x) sh c t ↔ AOk P md ops E w0 o i fs a sh c t := by
  unfold AOk; rw [execOp_put o hs a dst x h, wanted_put o a dst x h]
theorem QOk_cons {v : Value} {f : Fact} (h : Region.waitsFor md ops i f.idx = false) : QOk P md ops E w0 o i (f :: fs) a v ↔ QOk P md ops E w0 o i fs a v := by
  unfold QOk; simp only [cls_cons h]
theorem COk_cons {S : Value → Nat → Nat → World → Prop} {f : Fact} (h : Region.waitsFor md ops i f.idx = false) : COk P md ops E w0 o i (f :: fs) a S ↔ COk P md ops E w0 o i fs a S := by
  unfold COk; simp only [cls_cons h]
theorem AOk_cons {sh : Option (Nat × Nat)} {c : Array Value} {t : TypeId} {f : Fact} (h : Region.waitsFor md ops i f.idx = false) : AOk P md ops E w0 o i (f :: fs) a sh c t ↔ AOk P md ops E w0 o i fs a sh c t := by
  unfold AOk; simp only [cls_cons h]
theorem COk_some (hE : Stays E w0) {S : Value → Nat → Nat → World → Prop} (h : COk P md ops E w0 o i fs a S) (hst : Stay E fs) (hw : ∃ w, Wit E w0 fs w) :
    ∃ v lo hi, lo ≤ hi ∧ w0.heap.size ≤ lo ∧ Far fs lo hi ∧ ∃ w, Wit E w0 (⟨i, lo, hi, S v lo hi⟩ :: fs) w := by
  obtain ⟨w, hw⟩ := hw
  obtain ⟨v, w', he, hv⟩ := givesUpon_some (h.2.2.2 w (hw.cls i))
  exact ⟨v, _, _, hE.size _ _ he, hE.size _ _ hw.1, far_of_wit hw (Nat.le_refl _), w', hE.trans _ _ _ hw.1 he, fun f hf => by
    rcases List.mem_cons.1 hf with rfl | hf
    · exact ⟨hv, Nat.le_refl _⟩
    · exact (hw.mono hE hst he).2 f hf⟩
theorem AOk_some (hE : Stays E w0) {c : Array Value} {t : TypeId} (hst : Stay E fs) (hw : ∃ w, Wit E w0 fs w) :
    ∃ b, w0.heap.size ≤ b ∧ Far fs b (b + 1) ∧ ∃ w, Wit E w0 (⟨i, b, b + 1, fun w => w.heap[b]? = some (.cells c t)⟩ :: fs) w := by
  obtain ⟨w, hw⟩ := hw
  refine ⟨w.heap.size, hE.size _ _ hw.1, far_of_wit hw (Nat.le_refl _), w.alloc (.cells c t), hE.trans _ _ _ hw.1 (hE.alloc w c t), fun f hf => ?_⟩
  rcases List.mem_cons.1 hf with rfl | hf
  · exact ⟨heap_alloc_new w _, by show _ ≤ (w.heap.push _).size; simp⟩
  · exact (hw.mono hE hst (hE.alloc w c t)).2 f hf
theorem QOk_one {u v : Value} (hc : isCall o = false) (hw : ∃ w, Wit E w0 fs w) (h : QOk P md ops E w0 o i fs a u) (h' : QOk P md ops E w0 o i fs a v) : u = v := by
  obtain ⟨w, hw⟩ := hw
  rcases h with ⟨hq, h⟩ | ⟨hq, rfl⟩
  · rcases h' with ⟨_, h'⟩ | ⟨hq', _⟩
    · have h1 := h w (hw.cls i)
      have h2 := h' w (hw.cls i)
      unfold Oper.quietAt at h1 h2
      cases hr : (execOp a.eval o).run P w with
      | ok k w' =>
        rw [hr] at h1 h2
        cases k <;> simp only [Oper.quietUpon] at h1 h2
        case value y => exact h1.2.symm.trans h2.2
        case skip => exact h1.2.trans h2.2.symm
        case enter f args => exact (noEnter hc _ hr).elim
      | halt y w' => rw [hr] at h1; simp only [Oper.quietUpon] at h1
    · rw [hq] at hq'; cases hq'
  · rcases h' with ⟨hq', _⟩ | ⟨_, rfl⟩
    · rw [hq] at hq'; cases hq'
    · rfl
theorem not_alloc_self (w : World) (ob : Obj) (h : w.alloc ob = w) : False := by
  have : (w.alloc ob).heap.size = w.heap.size + 1 := by show (w.heap.push _).size = _; simp
  rw [h] at this
  omega
theorem QOk_AOk {u : Value} {sh : Option (Nat × Nat)} {c : Array Value} {t : TypeId} (hw : ∃ w, Wit E w0 fs w) (h : QOk P md ops E w0 o i fs a u) (h' : AOk P md ops E w0 o i fs a sh c t) : False := by
  obtain ⟨w, hw⟩ := hw
  rcases h with ⟨hq, h⟩ | ⟨hq, rfl⟩
  · have h1 := h w (hw.cls i)
    unfold Oper.quietAt at h1
    rw [h'.2.2 w (hw.cls i)] at h1
    simp only [Oper.quietUpon] at h1
    exact not_alloc_self _ _ h1.1
  · have := h'.1
    rw [hq] at this
    cases this
theorem AOk_one {sh sh' : Option (Nat × Nat)} {c c' : Array Value} {t t' : TypeId} (hw : ∃ w, Wit E w0 fs w) (h : AOk P md ops E w0 o i fs a sh c t) (h' : AOk P md ops E w0 o i fs a sh' c' t') : sh = sh' ∧ c = c' ∧ t = t' := by
  obtain ⟨w, hw⟩ := hw
  have h1 := h.2.2 w (hw.cls i)
  rw [h'.2.2 w (hw.cls i)] at h1
  simp only [Result.ok.injEq, Next.value.injEq] at h1
  have e1 := shV_inj h1.1
  have e2 : (w.alloc (.cells c' t')).heap[w.heap.size]? = (w.alloc (.cells c t)).heap[w.heap.size]? := by rw [h1.2]
  rw [heap_alloc_new, heap_alloc_new] at e2
  simp at e2
  exact ⟨e1.symm, e2.1.symm, e2.2.symm⟩
end
theorem far_cons {f : Fact} {fs : List Fact} {lo hi : Nat} : Far (f :: fs) lo hi ↔ (hi ≤ f.lo ∨ f.hi ≤ lo) ∧ Far fs lo hi := by
  unfold Far; simp only [List.mem_cons, forall_eq_or_imp]
theorem wit_drop {f : Fact} {fs : List Fact} {w : World} (h : Wit E w0 (f :: fs) w) : Wit E w0 fs w := ⟨h.1, fun g hg => h.2 g (List.mem_cons_of_mem _ hg)⟩
theorem wit_drop2 {f g : Fact} {fs : List Fact} {w : World} (h : Wit E w0 (f :: g :: fs) w) : Wit E w0 (f :: fs) w := wit_drop (h.same (Same.swap g f fs))
theorem mOp_swap (hE : Stays E w0) {i j : Nat} {oi oj : Oper} (hi : ops[i]? = some oi) (hj : ops[j]? = some oj) (hap : oi.apart ops oj = true)
    (hsi : ∀ cs b, oi.op ≠ .select cs b) (hsj : ∀ cs b, oj.op ≠ .select cs b) (hwi : Region.waitsFor md ops i j = false) (hwj : Region.waitsFor md ops j i = false)
    (hsolo : isCall oi = true ∨ isAlloc oi = true → isCall oj = false) {fs : List Fact} {a : Act} {K : List Fact → Act → Prop} (hst : Stay E fs) (hw : ∃ w, Wit E w0 fs w)
    (H : mOp P md ops E w0 i (mOp P md ops E w0 j K) fs a) : mOp P md ops E w0 j (mOp P md ops E w0 i (fun gs b => ∃ gs', Same gs' gs ∧ K gs' b)) fs a := by
  obtain ⟨h1, h2, h3⟩ := Oper.apart_spec hap
  have pc : ∀ v u, (a.put oi.dst v).put oj.dst u = (a.put oj.dst u).put oi.dst v := fun v u => Act.put_comm a v u h2
  rcases mOp_cases hi H with ⟨v, q, k⟩ | ⟨S, q, k⟩ | ⟨sh, c, t, q, k⟩
  · rcases mOp_cases hj k with ⟨u, q', k'⟩ | ⟨S', q', k'⟩ | ⟨sh', c', t', q', k'⟩
    · exact mOp_q hj ((QOk_put hsj h1).1 q') (mOp_q hi ((QOk_put hsi h3).2 q) ⟨_, Same.refl _, by rw [← pc]; exact k'⟩)
    · exact mOp_c hj ((COk_put hsj h1).1 q') (fun u lo hi' b1 b2 b3 b4 => mOp_q hi ((QOk_cons hwi).2 ((QOk_put hsi h3).2 q)) ⟨_, Same.refl _, by rw [← pc]; exact k' u lo hi' b1 b2 b3 b4⟩)
    · exact mOp_a hj ((AOk_put hsj h1).1 q') (fun b b1 b2 b3 => mOp_q hi ((QOk_cons hwi).2 ((QOk_put hsi h3).2 q)) ⟨_, Same.refl _, by rw [← pc]; exact k' b b1 b2 b3⟩)
  · have hc : isCall oj = false := hsolo (.inl q.2.1)
    obtain ⟨v0, lo0, hi0, c1, c2, c3, c4⟩ := COk_some hE q hst hw
    rcases mOp_cases hj (k v0 lo0 hi0 c1 c2 c3 c4) with ⟨u, q', _⟩ | ⟨S', q', _⟩ | ⟨sh', c', t', q', _⟩
    · have q1 := (QOk_put hsj h1).1 ((QOk_cons hwj).1 q')
      refine mOp_q hj q1 (mOp_c hi ((COk_put hsi h3).2 q) (fun v lo hi' b1 b2 b3 b4 => ⟨_, Same.refl _, ?_⟩))
      rcases mOp_cases hj (k v lo hi' b1 b2 b3 b4) with ⟨u', q2, k2⟩ | ⟨S', q2, _⟩ | ⟨sh', c', t', q2, _⟩
      · have := QOk_one hc hw q1 ((QOk_put hsj h1).1 ((QOk_cons hwj).1 q2))
        subst this
        rw [← pc]; exact k2
      · exact absurd q2.2.1 (by rw [hc]; decide)
      · exact (QOk_AOk hw q1 ((AOk_put hsj h1).1 ((AOk_cons hwj).1 q2))).elim
    · exact absurd q'.2.1 (by rw [hc]; decide)
    · have q1 := (AOk_put hsj h1).1 ((AOk_cons hwj).1 q')
      refine mOp_a hj q1 (fun b d1 d2 d3 => mOp_c hi ((COk_cons hwi).2 ((COk_put hsi h3).2 q)) (fun v lo hi' b1 b2 b3 b4 => ⟨_, Same.swap _ _ _, ?_⟩))
      have b3' := far_cons.1 b3
      obtain ⟨w, b4⟩ := b4
      rcases mOp_cases hj (k v lo hi' b1 b2 b3'.2 ⟨w, wit_drop2 b4⟩) with ⟨u', q2, k2⟩ | ⟨S', q2, _⟩ | ⟨sh2, c2', t2, q2, k2⟩
      · exact (QOk_AOk hw ((QOk_put hsj h1).1 ((QOk_cons hwj).1 q2)) q1).elim
      · exact absurd q2.2.1 (by rw [hc]; decide)
      · obtain ⟨e1, e2, e3⟩ := AOk_one hw q1 ((AOk_put hsj h1).1 ((AOk_cons hwj).1 q2))
        subst e1; subst e2; subst e3
        rw [← pc]
        exact k2 b d1 (far_cons.2 ⟨by have := b3'.1; simp only [] at this ⊢; omega, d2⟩) ⟨w, b4.same (Same.swap _ _ _)⟩
  · have hc : isCall oj = false := hsolo (.inr q.2.1)
    obtain ⟨b0, c2, c3, c4⟩ := AOk_some (i := i) (c := c) (t := t) hE hst hw
    rcases mOp_cases hj (k b0 c2 c3 c4) with ⟨u, q', _⟩ | ⟨S', q', _⟩ | ⟨sh', c', t', q', _⟩
    · have q1 := (QOk_put hsj h1).1 ((QOk_cons hwj).1 q')
      refine mOp_q hj q1 (mOp_a hi ((AOk_put hsi h3).2 q) (fun b b1 b2 b3 => ⟨_, Same.refl _, ?_⟩))
      rcases mOp_cases hj (k b b1 b2 b3) with ⟨u', q2, k2⟩ | ⟨S', q2, _⟩ | ⟨sh', c', t', q2, _⟩
      · have := QOk_one hc hw q1 ((QOk_put hsj h1).1 ((QOk_cons hwj).1 q2))
        subst this
        rw [← pc]; exact k2
      · exact absurd q2.2.1 (by rw [hc]; decide)
      · exact (QOk_AOk hw q1 ((AOk_put hsj h1).1 ((AOk_cons hwj).1 q2))).elim
    · exact absurd q'.2.1 (by rw [hc]; decide)
    · have q1 := (AOk_put hsj h1).1 ((AOk_cons hwj).1 q')
      refine mOp_a hj q1 (fun b d1 d2 d3 => mOp_a hi ((AOk_cons hwi).2 ((AOk_put hsi h3).2 q)) (fun b' b1 b2 b3 => ⟨_, Same.swap _ _ _, ?_⟩))
      have b2' := far_cons.1 b2
      obtain ⟨w, b3⟩ := b3
      rcases mOp_cases hj (k b' b1 b2'.2 ⟨w, wit_drop2 b3⟩) with ⟨u', q2, k2⟩ | ⟨S', q2, _⟩ | ⟨sh2, c2', t2, q2, k2⟩
      · exact (QOk_AOk hw ((QOk_put hsj h1).1 ((QOk_cons hwj).1 q2)) q1).elim
      · exact absurd q2.2.1 (by rw [hc]; decide)
      · obtain ⟨e1, e2, e3⟩ := AOk_one hw q1 ((AOk_put hsj h1).1 ((AOk_cons hwj).1 q2))
        subst e1; subst e2; subst e3
        rw [← pc]
        exact k2 b d1 (far_cons.2 ⟨by have := b2'.1; simp only [] at this ⊢; omega, d2⟩) ⟨w, b3.same (Same.swap _ _ _)⟩
theorem stay_c {i : Nat} {o : Oper} {fs : List Fact} {a : Act} {S : Value → Nat → Nat → World → Prop} (h : COk P md ops E w0 o i fs a S) (hst : Stay E fs) (v : Value) (lo hi : Nat) : Stay E (⟨i, lo, hi, S v lo hi⟩ :: fs) :=
  Stay.cons (fun _ _ a1 _ b => h.2.2.1 _ _ _ _ _ a1 b) hst
theorem stay_a (hE : Stays E w0) {i b : Nat} {fs : List Fact} {c : Array Value} {t : TypeId} (hst : Stay E fs) (hb : w0.heap.size ≤ b) : Stay E (⟨i, b, b + 1, fun w => w.heap[b]? = some (.cells c t)⟩ :: fs) :=
  Stay.cons (fun _ _ a1 a2 e => (hE.keeps _ _ _ e hb (by simp only [] at a2; omega)).trans a1) hst
theorem mOp_mono' (hE : Stays E w0) {j : Nat} {fs : List Fact} {a : Act} {K K' : List Fact → Act → Prop} (hst : Stay E fs) (hw : ∃ w, Wit E w0 fs w)
    (h : ∀ fs' a', Stay E fs' → (∃ w, Wit E w0 fs' w) → K fs' a' → K' fs' a') (hh : mOp P md ops E w0 j K fs a) : mOp P md ops E w0 j K' fs a := by
  cases hj : ops[j]? with
  | none => unfold mOp at *; simp only [hj] at *; exact h _ _ hst hw hh
  | some o =>
    rcases mOp_cases hj hh with ⟨v, q, k⟩ | ⟨S, q, k⟩ | ⟨sh, c, t, q, k⟩
    · exact mOp_q hj q (h _ _ hst hw k)
    · exact mOp_c hj q (fun v lo hi b1 b2 b3 b4 => h _ _ (stay_c q hst v lo hi) b4 (k v lo hi b1 b2 b3 b4))
    · exact mOp_a hj q (fun b b1 b2 b3 => h _ _ (stay_a hE hst b1) b3 (k b b1 b2 b3))
theorem mOp_some (hE : Stays E w0) {j : Nat} {fs : List Fact} {a : Act} {K : List Fact → Act → Prop} (hst : Stay E fs) (hw : ∃ w, Wit E w0 fs w) (hh : mOp P md ops E w0 j K fs a) : ∃ fs' a', K fs' a' := by
  cases hj : ops[j]? with
  | none => unfold mOp at hh; simp only [hj] at hh; exact ⟨_, _, hh⟩
  | some o =>
    rcases mOp_cases hj hh with ⟨v, q, k⟩ | ⟨S, q, k⟩ | ⟨sh, c, t, q, k⟩
    · exact ⟨_, _, k⟩
    · obtain ⟨v, lo, hi, b1, b2, b3, b4⟩ := COk_some hE q hst hw
      exact ⟨_, _, k v lo hi b1 b2 b3 b4⟩
    · obtain ⟨b, b1, b2, b3⟩ := AOk_some (i := j) (c := c) (t := t) hE hst hw
      exact ⟨_, _, k b b1 b2 b3⟩
def callAt (ops : Array Oper) (j : Nat) : Bool := match ops[j]? with | some o => isCall o | none => false
def edgeB (md : Region.Mode) (ops : Array Oper) (i k : Nat) (l : List Nat) : Bool :=
  match ops[k]? with
  | some o => o.after.any fun e => Region.binds md e && (e.on == i || l.contains e.on)
  | none => false
def reachL (md : Region.Mode) (ops : Array Oper) (i : Nat) : Nat → List Nat
  | 0 => []
  | k + 1 => if edgeB md ops i k (reachL md ops i k) then k :: reachL md ops i k else reachL md ops i k
def soloB (md : Region.Mode) (ops : Array Oper) (listed : Array Bool) (i : Nat) : Bool :=
  (List.range ops.size).all fun j => listed.getD j false || j == i || !callAt ops j || (reachL md ops i ops.size).contains j
theorem reach_edge {i k j : Nat} (h : j ∈ reachL md ops i k) : ∃ o, ops[j]? = some o ∧ ∃ e ∈ o.after, Region.binds md e = true ∧ (e.on = i ∨ ∃ k', k' < k ∧ e.on ∈ reachL md ops i k') := by
  induction k with
  | zero => cases h
  | succ k ih =>
    unfold reachL at h
    split at h
    · rename_i hc
      unfold edgeB at hc
      rcases List.mem_cons.1 h with rfl | h
      · cases hj : ops[j]? with
        | none => rw [hj] at hc; cases hc
        | some o =>
          rw [hj] at hc
          obtain ⟨e, he, h2⟩ := Array.any_eq_true'.1 hc
          simp only [Bool.and_eq_true, Bool.or_eq_true, beq_iff_eq, List.contains_iff_mem] at h2
          exact ⟨o, rfl, e, he, h2.1, h2.2.imp id fun h3 => ⟨j, Nat.lt_succ_self _, h3⟩⟩
      · obtain ⟨o, h1, e, h2, h3, h4⟩ := ih h
        exact ⟨o, h1, e, h2, h3, h4.imp id fun ⟨k', h5, h6⟩ => ⟨k', Nat.lt_succ_of_lt h5, h6⟩⟩
    · obtain ⟨o, h1, e, h2, h3, h4⟩ := ih h
      exact ⟨o, h1, e, h2, h3, h4.imp id fun ⟨k', h5, h6⟩ => ⟨k', Nat.lt_succ_of_lt h5, h6⟩⟩
theorem reach_listed {n : Nat} {listed : Array Bool} {i : Nat} (inv : HeadInv md ops n listed) : ∀ k j, j ∈ reachL md ops i k → listed.getD j false = true → listed.getD i false = true := by
  intro k
  induction k using Nat.strongRecOn with
  | _ k ih =>
    intro j hj hl
    obtain ⟨o, h1, e, h2, h3, h4⟩ := reach_edge hj
    have h5 := inv.closed j o h1 hl e h2 h3
    rcases h4 with h4 | ⟨k', h6, h7⟩
    · rw [← h4]; exact h5
    · exact ih k' h6 _ h7 h5
theorem solo_ready {n : Nat} {base listed : Array Bool} {i j : Nat} {oj : Oper} (hb : soloB md ops base i = true) (inv : HeadInv md ops n listed) (hsub : ∀ k, base.getD k false = true → listed.getD k false = true)
    (hiu : listed.getD i false = false) (hj : j ∈ Region.ready md ops listed) (hne : j ≠ i) (hoj : ops[j]? = some oj) : isCall oj = false := by
  cases hc : isCall oj with
  | false => rfl
  | true =>
    exfalso
    obtain ⟨hju, o', ho', hall⟩ := mem_ready.1 hj
    have : o' = oj := Option.some.inj (ho'.symm.trans hoj)
    subst this
    have hbu : base.getD j false = false := by
      cases h : base.getD j false with
      | false => rfl
      | true => have := hsub j h; rw [getD_both hju] at this; cases this
    have h1 := List.all_eq_true.1 hb j (List.mem_range.2 (Array.getElem?_eq_some_iff.1 hoj).1)
    have hcj : callAt ops j = true := by unfold callAt; rw [hoj]; exact hc
    simp only [hbu, hcj, Bool.false_or, Bool.not_true, Bool.or_false, Bool.or_eq_true, beq_iff_eq, hne, false_or, List.contains_iff_mem] at h1
    obtain ⟨o, h2, e, h3, h4, h5⟩ := reach_edge h1
    have : o = o' := Option.some.inj (h2.symm.trans hoj)
    subst this
    have h6 := hall e h3 h4
    rcases h5 with h5 | ⟨k', _, h7⟩
    · rw [h5, hiu] at h6; cases h6
    · have := reach_listed inv k' _ h7 h6
      rw [hiu] at this; cases this
theorem waits_ready {i j : Nat} {oi : Oper} {listed : Array Bool} (hi : ops[i]? = some oi) (hall : ∀ e ∈ oi.after, Region.binds md e = true → listed.getD e.on false = true) (hju : listed.getD j false = false) : Region.waitsFor md ops i j = false := by
  cases h : Region.waitsFor md ops i j with
  | false => rfl
  | true =>
    obtain ⟨o', ho', e, he, hb, hon⟩ := Region.waitsFor_spec h
    have : o' = oi := Option.some.inj (ho'.symm.trans hi)
    subst this
    have := hall e he hb
    rw [hon, hju] at this
    cases this
theorem wpAnyM_first (hE : Stays E w0) {n i : Nat} {oi : Oper} {base : Array Bool} {L : Array Bool → List Fact → Act → Prop} (hi : ops[i]? = some oi) (hsel : ∀ (j : Nat) (o : Oper) cs b, ops[j]? = some o → o.op ≠ .select cs b)
    (hwait : ∀ listed, HeadInv md ops n listed → ∀ i, i < n → listed.getD i true = false → ∀ t, n ≤ t → t ∉ Region.ready md ops listed) (hin : i < n)
    (hsolo : isCall oi = true ∨ isAlloc oi = true → soloB md ops base i = true)
    (hdone : ∀ listed fs a, L listed fs a → ∀ j ∈ Region.ready md ops listed, n ≤ j) (hL : ∀ listed fs gs a, Same fs gs → L listed fs a → L listed gs a) :
    ∀ (f : Nat) (listed : Array Bool) (fs : List Fact) (a : Act), HeadInv md ops n listed → (∀ k, base.getD k false = true → listed.getD k false = true) → Stay E fs → (∃ w, Wit E w0 fs w) →
      (∀ j oj, ops[j]? = some oj → j ≠ i → listed.getD j true = false → (∀ e ∈ oj.after, Region.binds md e = true → e.on ≠ i) → oi.apart ops oj = true) →
      i ∈ Region.ready md ops listed → mOp P md ops E w0 i (wpAnyM P md ops E w0 n L f (listed.setIfInBounds i true)) fs a → wpAnyM P md ops E w0 n L (f + 1) listed fs a := by
  intro f
  induction f with
  | zero =>
    intro listed fs a inv _ hst hw _ hr H
    have hun := (mem_ready.1 hr).1
    refine ⟨fun h => (by rw [h] at hr; cases hr), fun j hj => ?_⟩
    have hjn : j < n := by
      rcases Nat.lt_or_ge j n with h | h
      · exact h
      · exact absurd hj (hwait _ inv i hin hun j h)
    refine ⟨hjn, ?_⟩
    by_cases hji : j = i
    · subst hji; exact H
    · obtain ⟨fs', a', h⟩ := mOp_some hE hst hw H
      have := hdone _ _ _ h j (ready_mono hj hji)
      omega
  | succ f ih =>
    intro listed fs a inv hsub hst hw hfree hr H
    obtain ⟨hun, oi', hoi', halli⟩ := mem_ready.1 hr
    have : oi' = oi := Option.some.inj (hoi'.symm.trans hi)
    subst this
    refine ⟨fun h => (by rw [h] at hr; cases hr), fun j hj => ?_⟩
    have hjn : j < n := by
      rcases Nat.lt_or_ge j n with h | h
      · exact h
      · exact absurd hj (hwait _ inv i hin hun j h)
    refine ⟨hjn, ?_⟩
    by_cases hji : j = i
    · subst hji; exact H
    · obtain ⟨hjun, oj, hoj, hall⟩ := mem_ready.1 hj
      have hnot : ∀ e ∈ oj.after, Region.binds md e = true → e.on ≠ i := fun e he hb heq => by
        have h1 := hall e he hb
        rw [heq, getD_both hun] at h1
        cases h1
      have H1 : mOp P md ops E w0 i (mOp P md ops E w0 j (wpAnyM P md ops E w0 n L f ((listed.setIfInBounds i true).setIfInBounds j true))) fs a :=
        mOp_mono' hE hst hw (fun _ _ _ _ h => (h.2 j (ready_mono hj hji)).2) H
      have H2 := mOp_swap hE hi hoj (hfree j oj hoj hji hjun hnot) (fun cs b => hsel i oi' cs b hi) (fun cs b => hsel j oj cs b hoj) (waits_ready hi halli (getD_both hjun)) (waits_ready hoj hall (getD_both hun))
        (fun hx => solo_ready (hsolo hx) inv hsub (getD_both hun) hj hji hoj) hst hw H1
      refine mOp_mono' hE hst hw (fun fs' a' hst' hw' h => ?_) H2
      refine ih (listed.setIfInBounds j true) fs' a' (inv.set hj hjn) (fun k hk => getD_set_true (hsub k hk)) hst' hw' (fun k ok hk hki hun' hno => ?_) (ready_mono hr (Ne.symm hji)) ?_
      · refine hfree k ok hk hki ?_ hno
        by_cases hjk : j = k
        · subst hjk; exact hjun
        · rw [getD_set_ne true hjk] at hun'; exact hun'
      · refine mOp_mono' hE hst' hw' (fun gs b _ _ ⟨gs', hs, h3⟩ => ?_) h
        rw [Array.setIfInBounds_comm _ _ hji]
        exact wpAnyM_same hL _ _ _ _ _ hs h3
def headB (md : Region.Mode) (ops : Array Oper) (g n : Nat) : List Nat → Array Bool → Bool
  | [], listed => Region.seqB md ops g n listed
  | k :: r, listed => decide (k < n) && (Region.ready md ops listed).contains k && Region.free md ops listed k && (!(match ops[k]? with | some o => isCall o || isAlloc o | none => true) || soloB md ops listed k) && headB md ops g n r (listed.setIfInBounds k true)
def regionB (md : Region.Mode) (ops : Array Oper) (n : Nat) (L : List Nat) : Bool :=
  Region.noSelect ops && decide (L.length = n) && decide (n ≤ ops.size) && (n == ops.size || (Region.sinkB md ops n && Region.chainB md ops n)) && headB md ops (ops.size - n) n L (Array.replicate ops.size false)
theorem wpAnyM_lex (hE : Stays E w0) {n g : Nat} {Lq : List Fact → Act → Prop} (hsel : Region.noSelect ops = true)
    (hwait : ∀ listed, HeadInv md ops n listed → ∀ i, i < n → listed.getD i true = false → ∀ t, n ≤ t → t ∉ Region.ready md ops listed) (hLq : ∀ fs gs a, Same fs gs → Lq fs a → Lq gs a) :
    ∀ (l : List Nat) (listed : Array Bool) (fs : List Fact) (a : Act), HeadInv md ops n listed → Stay E fs → (∃ w, Wit E w0 fs w) → headB md ops g n l listed = true → wpM P md ops E w0 Lq l fs a →
    wpAnyM P md ops E w0 n (fun listed' fs' a' => Region.seqB md ops g n listed' = true ∧ Lq fs' a') l.length listed fs a
  | [], listed, fs, a, _, _, _, hB, h => ⟨hB, h⟩
  | k :: l, listed, fs, a, inv, hst, hw, hB, h => by
    simp only [headB, Bool.and_eq_true, decide_eq_true_eq] at hB
    obtain ⟨⟨⟨⟨hkn, hr⟩, hf⟩, hs⟩, hB'⟩ := hB
    have hr' : k ∈ Region.ready md ops listed := by simpa using hr
    obtain ⟨_, ok, hok, _⟩ := mem_ready.1 hr'
    refine wpAnyM_first (base := listed) hE hok (Region.noSelect_spec hsel) hwait hkn (fun hx => ?_) (fun listed' _ _ hL => seqB_ready hL.1) (fun _ _ _ _ hs' h' => ⟨h'.1, hLq _ _ _ hs' h'.2⟩) l.length listed fs a inv (fun _ hk => hk) hst hw (Region.free_spec hok hf) hr' ?_
    · rw [hok] at hs
      simp only [Bool.or_eq_true, Bool.not_eq_true'] at hs
      rcases hs with hs | hs
      · rcases hx with hx | hx <;> simp [hx] at hs
      · exact hs
    · exact mOp_mono' hE hst hw (fun fs' a' hst' hw' h' => wpAnyM_lex hE hsel hwait hLq l _ _ _ (inv.set hr' hkn) hst' hw' hB' h') (h hw)
theorem wp_region_M {id : Nat} {Q : Exit → Act → World → Prop} {a : Act} {w : World} {l : List Oper} {E : World → World → Prop} (n : Nat) (L : List Nat) (hm : P.follows .mixedOrders = true) (hB : regionB .any l.toArray n L = true)
    (hE : Stays E w.drew) (h : wpM P .any l.toArray E w.drew (fun fs a' => ∀ w', Wit E w.drew fs w' → wpList P l.toArray Q (l.drop n) a' w') L [] a) : (Code.region id l.toArray true).wp P Q a w := by
  simp only [regionB, Bool.and_eq_true, decide_eq_true_eq, Bool.or_eq_true, beq_iff_eq] at hB
  obtain ⟨⟨⟨⟨hsel, hlen⟩, hn⟩, htail⟩, hlex⟩ := hB
  have hdl : (l.drop n).length = l.toArray.size - n := by simp
  have inv0 : HeadInv .any l.toArray n (Array.replicate l.toArray.size false) :=
    ⟨by simp, fun j oj _ hl => (by rw [getD_replicate_false] at hl; cases hl), fun t _ ht => getD_in (by simpa using ht) (getD_replicate_false _ _)⟩
  have hwait : ∀ listed, HeadInv .any l.toArray n listed → ∀ i, i < n → listed.getD i true = false → ∀ t, n ≤ t → t ∉ Region.ready .any l.toArray listed := by
    intro listed inv i hin hun t ht
    rcases htail with htail | ⟨hs, hc⟩
    · intro hr
      obtain ⟨_, o, ho, _⟩ := mem_ready.1 hr
      have := (Array.getElem?_eq_some_iff.1 ho).1
      omega
    · by_cases hlt : n < l.toArray.size
      · exact tail_waits hs hc hlt inv _ i rfl hin hun t ht
      · intro hr
        obtain ⟨_, o, ho, _⟩ := mem_ready.1 hr
        have := (Array.getElem?_eq_some_iff.1 ho).1
        omega
  have w0 : Wit E w.drew [] w.drew := ⟨hE.refl _, fun f hf => by cases hf⟩
  have H := wpAnyM_lex (md := .any) (g := l.toArray.size - n) hE hsel hwait (Lq := fun fs a' => ∀ w', Wit E w.drew fs w' → wpList P l.toArray Q (l.drop n) a' w')
    (fun _ _ _ hs h' w' hw' => h' w' (hw'.same hs)) L _ [] a inv0 Stay.nil ⟨_, w0⟩ hlex h
  refine wp_region_any hm ?_
  have := wpAny_of_M (Q' := Q) (g := l.toArray.size - n) hE (fun listed fs a' w' hL hw' => by
    have := wpAny_of_seq (md := .any) (Q' := Q) (l.drop n) n listed a' w' (fun j => by simp [List.getElem?_drop]) (by rw [hdl]; exact hL.1) (hL.2 w' hw')
    rwa [hdl] at this) _ _ _ _ _ Stay.nil w0 H
  rw [hlen, show n + (l.toArray.size - n) = l.toArray.size by omega] at this
  exact this
end
section
variable {P : Program} {md : Region.Mode} {l : List Oper} {E : World → World → Prop} {w0 : World} {Q : List Fact → Act → Prop} {j : Nat} {r : List Nat} {fs : List Fact} {a : Act} {o : Oper}
structure Clx (md : Region.Mode) (ops : Array Oper) (E : World → World → Prop) (w0 : World) (j : Nat) (fs : List Fact) where
  now : World
  cls : Cls md ops E w0 j fs now
end
section
variable {l : List Oper} {vs : List Value} {o oj : Oper} {j d : Nat} {b : Bool}
end
section
variable (P : Program) (w : World) (T : Value → World → Prop)
@[go_sem] theorem givesUpon_value (u : Value) (w' : World) : givesUpon P w T (.ok (.value u) w') = T u w' := rfl
@[go_sem] theorem givesUpon_enter (f : FuncId) (args : Array Value) (w' : World) : givesUpon P w T (.ok (.enter f args) w') = (w' = w ∧ Calls P f args w (fun e w'' => ∃ v, e = .returned v ∧ T v w'')) := rfl
end
attribute [go_sem] gives
@[go_sem] theorem Clx.cell {md : Region.Mode} {ops : Array Oper} {w0 : World} {j : Nat} {fs : List Fact} (n : Clx md ops Grown w0 j fs) (b o : Nat) (hb : b < w0.heap.size) : n.now.cell? ⟨b, o, none⟩ = w0.cell? ⟨b, o, none⟩ :=
  grown_cells n.cls.1 b o hb
end Go.Proofs.Ytkageldgmkajbaa
namespace Go.Proofs.Ytkageldgmkajbaa
open Go.RowKit
structure Term where
  of_ : Int
  co : Int
instance : Inhabited Term := ⟨⟨0, 0⟩⟩
structure Row where
  te : List Term
  mo : Int
instance : Inhabited Row := ⟨⟨[], 0⟩⟩
structure Frc where
  num : Int
  den : Int
instance : Inhabited Frc := ⟨⟨0, 0⟩⟩
inductive Ty where
  | int
  | bool
  | ints
  | term
  | row
  | frac
  | fracs
@[reducible] def El : Ty → Type
  | .int => Int
  | .bool => Bool
  | .ints => List Int
  | .term => Term
  | .row => Row
  | .frac => Frc
  | .fracs => List Frc
def dflt : (c : Ty) → El c
  | .int => (0 : Int)
  | .bool => false
  | .ints => ([] : List Int)
  | .term => (default : Term)
  | .row => (default : Row)
  | .frac => (default : Frc)
  | .fracs => ([] : List Frc)
inductive TC where
  | int (k : IntKind) (n : Int)
  | bool (b : Bool)
  | str (s : ByteArray)
  | sl (c : Ty) (l : List (El c))
def Ty.eq? (a b : Ty) : Option (PLift (a = b)) :=
  match a, b with
  | .int, .int => some ⟨rfl⟩
  | .bool, .bool => some ⟨rfl⟩
  | .ints, .ints => some ⟨rfl⟩
  | .term, .term => some ⟨rfl⟩
  | .row, .row => some ⟨rfl⟩
  | .frac, .frac => some ⟨rfl⟩
  | .fracs, .fracs => some ⟨rfl⟩
  | _, _ => none
def castL {c c' : Ty} (l : List (El c)) : Option (List (El c')) :=
  match c, c', l with
  | .int, .int, l => some l
  | .bool, .bool, l => some l
  | .ints, .ints, l => some l
  | .term, .term, l => some l
  | .row, .row, l => some l
  | .frac, .frac, l => some l
  | .fracs, .fracs, l => some l
  | _, _, _ => none
theorem castL_eq {c c' : Ty} {l : List (El c)} {l' : List (El c')} (h : castL l = some l') : (⟨c, l⟩ : (c : Ty) × List (El c)) = ⟨c', l'⟩ := by
  unfold castL at h
  split at h <;> first | (cases h; done) | (cases h; rfl)
def tcells : (c : Ty) → El c → List TC
  | .int, (x : Int) => [.int .i64 x]
  | .bool, (x : Bool) => [.bool x]
  | .ints, (x : List Int) => [.sl .int x]
  | .term, (x : Term) => [.int .i64 x.of_, .int .i64 x.co]
  | .row, (x : Row) => [.sl .term x.te, .int .i64 x.mo]
  | .frac, (x : Frc) => [.int .i64 x.num, .int .i64 x.den]
  | .fracs, (x : List Frc) => [.sl .frac x]
def mkc : (c : Ty) → List TC → Option (El c)
  | .int, [.int .i64 v0] => some v0
  | .bool, [.bool v0] => some v0
  | .ints, [.sl .int v0] => some v0
  | .term, [.int .i64 v0, .int .i64 v1] => some (⟨v0, v1⟩ : Term)
  | .row, [.sl .term v0, .int .i64 v1] => some (⟨v0, v1⟩ : Row)
  | .frac, [.int .i64 v0, .int .i64 v1] => some (⟨v0, v1⟩ : Frc)
  | .fracs, [.sl .frac v0] => some v0
  | _, _ => none
def wid : Ty → Nat
  | .int => 1
  | .bool => 1
  | .ints => 1
  | .term => 2
  | .row => 2
  | .frac => 2
  | .fracs => 1
theorem tcells_len : ∀ (c : Ty) (x : El c), (tcells c x).length = wid c
  | .int, _ => rfl
  | .bool, _ => rfl
  | .ints, _ => rfl
  | .term, _ => rfl
  | .row, _ => rfl
  | .frac, _ => rfl
  | .fracs, _ => rfl
theorem wid_pos : ∀ (c : Ty), 0 < wid c
  | .int => by decide
  | .bool => by decide
  | .ints => by decide
  | .term => by decide
  | .row => by decide
  | .frac => by decide
  | .fracs => by decide
theorem mkc_cells {c : Ty} {l : List TC} {x : El c} (h : mkc c l = some x) : tcells c x = l := by
  unfold mkc at h
  split at h <;> first | (cases h; done) | (cases h; rfl)
inductive CKd where
  | int (k : IntKind)
  | bool
  | str
  | sl (c : Ty)
def cks : Ty → List CKd
  | .int => [.int .i64]
  | .bool => [.bool]
  | .ints => [.sl .int]
  | .term => [.int .i64, .int .i64]
  | .row => [.sl .term, .int .i64]
  | .frac => [.int .i64, .int .i64]
  | .fracs => [.sl .frac]
def ckOf : TC → CKd
  | .int k _ => .int k
  | .bool _ => .bool
  | .str _ => .str
  | .sl c _ => .sl c
theorem tcells_ck : ∀ (c : Ty) (x : El c), (tcells c x).map ckOf = cks c
  | .int, _ => rfl
  | .bool, _ => rfl
  | .ints, _ => rfl
  | .term, _ => rfl
  | .row, _ => rfl
  | .frac, _ => rfl
  | .fracs, _ => rfl
def gt {c : Ty} (l : List (El c)) (i : Nat) : El c := l.getD i (dflt c)
theorem gt_eq {c : Ty} {l : List (El c)} {i : Nat} {x : El c} (h : l[i]? = some x) : gt l i = x := by unfold gt; rw [List.getD_eq_getElem?_getD, h]; rfl
theorem gt_at {c : Ty} {l : List (El c)} {i : Nat} (h : i < l.length) : l[i]? = some (gt l i) := by rw [gt_eq (List.getElem?_eq_getElem h)]; exact List.getElem?_eq_getElem h
end Go.Proofs.Ytkageldgmkajbaa
namespace Go.Proofs.Ytkageldgmkajbaa
structure MpD where
  bl : Bool
  es : List (Int × Int)
def mpV : Bool → Int → Value
  | true, v => .bool (decide (v = 1))
  | false, v => .int .i64 v
def mpGet : List (Int × Int) → Int → Option Int
  | [], _ => none
  | (a, v) :: l, n => if n = a then some v else mpGet l n
def mpSet : List (Int × Int) → Int → Int → List (Int × Int)
  | [], n, v => [(n, v)]
  | (a, u) :: l, n, v => if n = a then (n, v) :: l else (a, u) :: mpSet l n v
def mpDel : List (Int × Int) → Int → List (Int × Int)
  | [], _ => []
  | (a, u) :: l, n => if n = a then l else (a, u) :: mpDel l n
def mpE (d : MpD) (arr : Array MapEntry) (cl : Nat) : Prop := arr.toList.map (fun e => (e.key, e.val)) = (d.es.map fun p => (.int .i64 p.1, mpV d.bl p.2)) ∧ (arr.toList.map (·.born)).Nodup ∧ (∀ e ∈ arr.toList, e.born < cl) ∧ (d.es.map Prod.fst).Nodup
theorem map_erase {α β : Type} (f : α → β) : ∀ (l : List α) (j : Nat), (l.eraseIdx j).map f = (l.map f).eraseIdx j
  | [], _ => rfl
  | _ :: _, 0 => rfl
  | a :: l, j + 1 => by simp [map_erase f l j]
theorem findNow_mp {bl : Bool} {n : Int} : ∀ {l : List MapEntry} {es : List (Int × Int)} {i : Nat}, l.map (fun e => (e.key, e.val)) = es.map (fun p => (Value.int .i64 p.1, mpV bl p.2)) →
    (mpGet es n = none ∧ Instr.findNow (.int .i64) (.int .i64 n) l i = some none ∧ (mpSet es n = fun v => es ++ [(n, v)]) ∧ mpDel es n = es) ∨
    ∃ j v e, mpGet es n = some v ∧ Instr.findNow (.int .i64) (.int .i64 n) l i = some (some (i + j, mpV bl v)) ∧ l[j]? = some e ∧ e.key = .int .i64 n ∧ (∀ u, mpSet es n u = es.set j (n, u)) ∧ mpDel es n = es.eraseIdx j
  | [], [], i, _ => .inl ⟨rfl, rfl, rfl, rfl⟩
  | [], _ :: _, i, h => by simp at h
  | _ :: _, [], i, h => by simp at h
  | e :: l, (a, v) :: es, i, h => by
    simp only [List.map_cons, List.cons.injEq, Prod.mk.injEq] at h
    obtain ⟨⟨h1, h2⟩, h3⟩ := h
    by_cases hn : n = a
    · subst hn
      refine .inr ⟨0, v, e, by simp [mpGet], ?_, rfl, h1, fun u => by simp [mpSet], by simp [mpDel]⟩
      unfold Instr.findNow
      simp [Instr.sameNow, h1, h2]
    · have hs : Instr.findNow (.int .i64) (.int .i64 n) (e :: l) i = Instr.findNow (.int .i64) (.int .i64 n) l (i + 1) := by
        conv => lhs; unfold Instr.findNow
        have hb : (n == a) = false := by simpa using hn
        simp [Instr.sameNow, h1, hb]
      rcases findNow_mp (n := n) (i := i + 1) h3 with ⟨g1, g2, g3, g6⟩ | ⟨j, u, e', g1, g2, g3, g4, g5, g6⟩
      · refine .inl ⟨by simp [mpGet, hn, g1], by rw [hs, g2], funext fun w => ?_, by simp [mpDel, hn, g6]⟩
        simp [mpSet, hn, g3]
      · refine .inr ⟨j + 1, u, e', by simp [mpGet, hn, g1], by rw [hs, g2, show i + 1 + j = i + (j + 1) by omega], by simpa using g3, g4, fun w => ?_, by simp [mpDel, hn, g6]⟩
        simp [mpSet, hn, g5]
theorem mpSet_mem : ∀ {l : List (Int × Int)} {n u a : Int}, a ∈ (mpSet l n u).map Prod.fst → a ∈ l.map Prod.fst ∨ a = n
  | [], n, u, a, h => by simpa [mpSet] using h
  | (b, v) :: l, n, u, a, h => by
    unfold mpSet at h
    split at h
    · rename_i e
      simp only [List.map_cons, List.mem_cons] at h ⊢
      rcases h with h | h
      · exact .inr h
      · exact .inl (.inr h)
    · simp only [List.map_cons, List.mem_cons] at h ⊢
      rcases h with h | h
      · exact .inl (.inl h)
      · rcases mpSet_mem h with h | h
        · exact .inl (.inr h)
        · exact .inr h
theorem mpSet_keys : ∀ {l : List (Int × Int)} {n u : Int}, (l.map Prod.fst).Nodup → ((mpSet l n u).map Prod.fst).Nodup
  | [], n, u, h => by simp [mpSet]
  | (a, v) :: l, n, u, h => by
    simp only [List.map_cons, List.nodup_cons] at h
    unfold mpSet
    split
    · rename_i e; subst e; simpa using h
    · rename_i e
      simp only [List.map_cons, List.nodup_cons]
      exact ⟨fun q => (mpSet_mem q).elim h.1 (fun q => e q.symm), mpSet_keys h.2⟩
theorem mpDel_sub : ∀ {l : List (Int × Int)} {n : Int}, (mpDel l n).Sublist l
  | [], n => List.Sublist.refl _
  | (a, v) :: l, n => by
    unfold mpDel
    split
    · exact List.sublist_cons_self _ _
    · exact mpDel_sub.cons_cons _
theorem mpDel_keys {l : List (Int × Int)} {n : Int} (h : (l.map Prod.fst).Nodup) : ((mpDel l n).map Prod.fst).Nodup := (mpDel_sub.map Prod.fst).nodup h
theorem born_modify {f : MapEntry → MapEntry} (hf : ∀ e, (f e).born = e.born) {arr : Array MapEntry} {j : Nat} : (arr.modify j f).toList.map (·.born) = arr.toList.map (·.born) := by
  apply List.ext_getElem?
  intro q
  simp only [Array.toList_modify, List.getElem?_map, List.getElem?_modify]
  split <;> cases arr.toList[q]? <;> simp [hf]
theorem lt_of_map {l l' : List MapEntry} {cl : Nat} (e : l.map (·.born) = l'.map (·.born)) (h : ∀ x ∈ l', x.born < cl) : ∀ x ∈ l, x.born < cl := by
  intro x hx
  have : x.born ∈ l.map (·.born) := List.mem_map_of_mem hx
  rw [e] at this
  obtain ⟨y, hy, q⟩ := List.mem_map.1 this
  rw [← q]; exact h y hy
section
variable {P : Program} {w : World} {T kt e b n : Nat} {arr : Array MapEntry} {cl : Nat} {d : MpD}
theorem mp_getObj (hb : w.heap[b]? = some (.map arr cl)) : (getObj b).run P w = .ok (.map arr cl) w := by
  simp [getObj, Sem.run, hb]
theorem mp_setObj (o : Obj) (hb : w.heap[b]? = some (.map arr cl)) : (setObj b o).run P w = .ok () { w with heap := w.heap.setIfInBounds b o } := by
  simp [setObj, Sem.run, hb]
theorem mp_under {t : TypeId} {x : TypeDesc} (h : P.underlying t = some x) : (underlying t).run P w = .ok x w := by
  show (match P.underlying t with | some d => (pure d : Sem TypeDesc) | none => stuck _).run P w = _
  rw [h]; rfl
theorem mp_checkKey {emp : Bool} {m : Nat} {z : Int} (hk : P.underlying kt = some (.int .i64)) : (Instr.checkKey emp (m + 1) kt (.int .i64 z)).run P w = .ok () w := by
  unfold Instr.checkKey
  simp only [Sem.run_bind, mp_under hk, Result.andThen_ok]
  rfl
theorem mp_findKey {z : Int} {es : List MapEntry} {r : Option (Nat × Value)} (hk : P.underlying kt = some (.int .i64)) (h : Instr.findNow (.int .i64) (.int .i64 z) es 0 = some r) : (Instr.findKey kt (.int .i64 z) es).run P w = .ok r w := by
  unfold Instr.findKey
  simp only [Sem.run_bind, mp_under hk, Result.andThen_ok, h, Sem.run_pure]
theorem mp_look {z : Int} (hT : P.underlying T = some (.map kt e)) (hk : P.underlying kt = some (.int .i64)) (hz : (zeroValue e).run P w = .ok (mpV d.bl 0) w) (hb : w.heap[b]? = some (.map arr cl)) (he : mpE d arr cl) (c : Bool) :
    (Instr.lookup T (.map (some b)) (.int .i64 z) c).run P w = .ok (if c then .tuple #[mpV d.bl ((mpGet d.es z).getD 0), .bool (mpGet d.es z).isSome] else mpV d.bl ((mpGet d.es z).getD 0)) w := by
  unfold Instr.lookup
  simp only [Sem.run_bind, mp_under hT, Result.andThen_ok, mp_getObj hb, Sem.run_pure, mp_checkKey hk]
  rcases findNow_mp (n := z) (i := 0) he.1 with ⟨g1, g2, _⟩ | ⟨j, v, e', g1, g2, _⟩
  · simp only [mp_findKey hk g2, Result.andThen_ok, Sem.run_bind, hz, Sem.run_pure, g1]
    rfl
  · simp only [mp_findKey hk g2, Result.andThen_ok, Sem.run_bind, Sem.run_pure, g1]
    rfl
theorem mp_put {z u : Int} (hT : P.underlying T = some (.map kt e)) (hk : P.underlying kt = some (.int .i64)) (hb : w.heap[b]? = some (.map arr cl)) (he : mpE d arr cl) :
    ∃ arr' cl', (Instr.mapUpdate T (.map (some b)) (.int .i64 z) (mpV d.bl u)).run P w = .ok () { w with heap := w.heap.setIfInBounds b (.map arr' cl') } ∧ mpE ⟨d.bl, mpSet d.es z u⟩ arr' cl' := by
  unfold Instr.mapUpdate
  simp only [Sem.run_bind, mp_under hT, Result.andThen_ok, mp_getObj hb, Sem.run_pure, mp_checkKey hk]
  rcases findNow_mp (n := z) (i := 0) he.1 with ⟨g1, g2, g3, _⟩ | ⟨j, v, e', g1, g2, g3, g4, g5, _⟩
  · simp only [mp_findKey hk g2, Result.andThen_ok, mp_setObj _ hb]
    refine ⟨_, _, rfl, ?_⟩
    obtain ⟨h1, h2, h3, h4⟩ := he
    refine ⟨by rw [g3]; simp [h1], ?_, ?_, mpSet_keys h4⟩
    · simp only [Array.toList_push, List.map_append, List.map_cons, List.map_nil]
      refine List.nodup_append.2 ⟨h2, by simp, ?_⟩
      intro a ha b hb e
      simp only [List.mem_singleton] at hb
      obtain ⟨y, hy, q⟩ := List.mem_map.1 ha
      have := h3 y hy
      omega
    · intro e he
      simp only [Array.toList_push, List.mem_append, List.mem_singleton] at he
      rcases he with he | rfl
      · have := h3 e he; omega
      · exact Nat.lt_succ_self _
  · simp only [mp_findKey hk g2, Result.andThen_ok, Sem.run_bind, Nat.zero_add]
    have hk2 : (((arr[j]?).map (·.key)).getD (.int .i64 z)) = .int .i64 z := by
      have : arr[j]? = some e' := by rw [← g3]; simp
      rw [this]; simp [g4]
    simp only [hk2]
    have hs : (Instr.keyThatStays (.int .i64 z) (.int .i64 z)).run P w = .ok (.int .i64 z) w := by
      unfold Instr.keyThatStays
      rw [if_pos (by simp [Instr.sameBits])]; rfl
    simp only [hs, Result.andThen_ok, mp_setObj _ hb]
    refine ⟨_, _, rfl, ?_⟩
    obtain ⟨h1, h2, h3, h4⟩ := he
    have hbm : (arr.modify j fun e => { e with key := .int .i64 z, val := mpV d.bl u }).toList.map (·.born) = arr.toList.map (·.born) := born_modify (f := fun e => { e with key := .int .i64 z, val := mpV d.bl u }) (fun _ => rfl)
    refine ⟨?_, by rw [hbm]; exact h2, lt_of_map hbm h3, mpSet_keys h4⟩
    rw [g5]
    simp only [Array.toList_modify]
    rw [List.map_set, ← h1]
    apply List.ext_getElem?
    intro q
    simp only [List.getElem?_map, List.getElem?_modify, List.getElem?_set]
    by_cases hq : j = q
    · subst hq
      have hlt := (List.getElem?_eq_some_iff.1 g3).1
      simp [g3, hlt]
      simpa using hlt
    · simp [hq]
theorem mp_del {z : Int} {ts : Array TypeId} {ty : TypeId} (h0 : ts[0]? = some T) (hT : P.underlying T = some (.map kt e)) (hk : P.underlying kt = some (.int .i64)) (hb : w.heap[b]? = some (.map arr cl)) (he : mpE d arr cl) :
    ∃ arr' cl', (Builtin.delete_ ts ty #[.map (some b), .int .i64 z]).run P w = .ok (.tuple #[]) { w with heap := w.heap.setIfInBounds b (.map arr' cl') } ∧ mpE ⟨d.bl, mpDel d.es z⟩ arr' cl' := by
  unfold Builtin.delete_
  have a0 : (#[Value.map (some b), .int .i64 z] : Array Value)[0]? = some (.map (some b)) := rfl
  have a1 : (#[Value.map (some b), .int .i64 z] : Array Value)[1]? = some (.int .i64 z) := rfl
  simp only [h0, a0, a1, Sem.run_bind, mp_under hT, Result.andThen_ok, mp_getObj hb, mp_checkKey hk, Sem.run_pure]
  rcases findNow_mp (n := z) (i := 0) he.1 with ⟨g1, g2, g3, g6⟩ | ⟨j, v, e', g1, g2, g3, g4, g5, g6⟩
  · simp only [mp_findKey hk g2, Result.andThen_ok, mp_setObj _ hb, Sem.run_bind, Sem.run_pure]
    refine ⟨_, _, rfl, ?_⟩
    obtain ⟨h1, h2, h3, h4⟩ := he
    exact ⟨by rw [g6]; exact h1, h2, h3, mpDel_keys h4⟩
  · simp only [mp_findKey hk g2, Result.andThen_ok, Sem.run_bind, Nat.zero_add, mp_setObj _ hb, Sem.run_pure]
    refine ⟨_, _, rfl, ?_⟩
    have hlt : j < arr.size := by have := (List.getElem?_eq_some_iff.1 g3).1; simpa using this
    obtain ⟨h1, h2, h3, h4⟩ := he
    have hsub : (arr.eraseIdx j hlt).toList.Sublist arr.toList := by rw [Array.toList_eraseIdx]; exact List.eraseIdx_sublist _ _
    refine ⟨?_, ?_, ?_, mpDel_keys h4⟩
    · rw [g6]
      simp only [Array.eraseIdxIfInBounds, hlt, dif_pos, Array.toList_eraseIdx]
      rw [map_erase, map_erase, h1]
    · simp only [Array.eraseIdxIfInBounds, hlt, dif_pos]
      exact (hsub.map _).nodup h2
    · simp only [Array.eraseIdxIfInBounds, hlt, dif_pos]
      exact fun e he => h3 e (hsub.subset he)
end
end Go.Proofs.Ytkageldgmkajbaa
