/- Walks, third framework: regions that draw their order, in which an append may come ahead of operations that it does not wait for. No condition on any program. -/
import Derived.Test.YtonjbhdfimcedaaVE
namespace Go.Proofs.Ytonjbhdfimcedaa
set_option linter.unusedSimpArgs false
set_option linter.unusedSectionVars false
set_option linter.unusedVariables false
open Go.RowKit

/-- The operation n, made to wait for those of D. -/
def lateE (D : List Nat) (o : Oper) : Oper := ⟨o.dst, o.op, o.type, o.pos, o.after ++ (D.map fun d => (⟨d, .data⟩ : Edge)).toArray, o.guard⟩
def lateOps : List Oper → Nat → List Nat → List Oper
  | [], _, _ => []
  | o :: l, 0, D => lateE D o :: l
  | o :: l, n + 1, D => o :: lateOps l n D
theorem lateOps_len : ∀ (l : List Oper) (n : Nat) (D : List Nat), (lateOps l n D).length = l.length
  | [], _, _ => rfl
  | _ :: _, 0, _ => rfl
  | _ :: l, n + 1, D => by simp [lateOps, lateOps_len l n D]
theorem lateOps_ne : ∀ {l : List Oper} {n : Nat} {D : List Nat} {i : Nat}, i ≠ n → (lateOps l n D)[i]? = l[i]?
  | [], _, _, _, _ => rfl
  | o :: l, 0, D, 0, h => absurd rfl h
  | o :: l, 0, D, i + 1, _ => by simp [lateOps]
  | o :: l, n + 1, D, 0, _ => by simp [lateOps]
  | o :: l, n + 1, D, i + 1, h => by simp only [lateOps, List.getElem?_cons_succ]; exact lateOps_ne (by omega)
theorem lateOps_eq : ∀ {l : List Oper} {n : Nat} {D : List Nat}, (lateOps l n D)[n]? = (l[n]?).map (lateE D)
  | [], _, _ => rfl
  | o :: l, 0, D => by simp [lateOps]
  | o :: l, n + 1, D => by simp only [lateOps, List.getElem?_cons_succ]; exact lateOps_eq
theorem lateOps_dst {l : List Oper} {n : Nat} {D : List Nat} (j : Nat) : ((lateOps l n D)[j]?).bind (·.dst) = (l[j]?).bind (·.dst) := by
  by_cases h : j = n
  · subst h; rw [lateOps_eq]; cases l[j]? <;> rfl
  · rw [lateOps_ne h]
theorem late_yielded {l : List Oper} {n : Nat} {D : List Nat} (tmps : Array Value) : yielded (lateOps l n D).toArray tmps = yielded l.toArray tmps := by
  funext j
  unfold yielded
  have : ((lateOps l n D).toArray[j]?).bind (·.dst) = (l.toArray[j]?).bind (·.dst) := by
    simp only [List.getElem?_toArray]; exact lateOps_dst j
  rw [this]
section
variable {P : Program} {md : Region.Mode} {E : World → World → Prop} {w0 : World}
/-- An operation of the head, in a row. -/
theorem mOp_sound (hE : Stays E w0) {ops ops' : Array Oper} {i : Nat} {o : Oper} (ho' : ops'[i]? = some o) (ho : ops[i]? = some o) (hy : ∀ tmps, yielded ops' tmps = yielded ops tmps) {K : List Fact → Act → Prop} {K' : Act → World → Prop} {Q' : Exit → Act → World → Prop}
    {fs : List Fact} {a : Act} {w : World} (hs : Stay E fs) (hw : Wit E w0 fs w) (h1 : mOp P md ops' E w0 i K fs a) (hK : ∀ fs' a' w', Stay E fs' → Wit E w0 fs' w' → K fs' a' → K' a' w') : wpOp P ops Q' i K' a w := by
  unfold mOp at h1
  unfold wpOp
  simp only [ho', ho, hy] at h1 ⊢
  split
  · rename_i hq
    simp only [hq, if_true] at h1
    left
    unfold Oper.wp
    rcases h1 with ⟨v, h2, h3⟩ | ⟨_, S, hm, h2, h3⟩ | ⟨_, sh, c, t, h2, h3⟩
    · have h4 := h2 w (hw.cls i)
      unfold Oper.quietAt at h4
      generalize (execOp a.eval o).run P w = r at *
      cases r with
      | ok k w' =>
        cases k <;> simp only [Oper.quietUpon] at h4 <;> simp only [Oper.upon]
        case value u => obtain ⟨e1, e2⟩ := h4; rw [e1, e2]; exact hK _ _ _ hs hw h3
        case skip => obtain ⟨e1, e2⟩ := h4; rw [e1, ← e2]; exact hK _ _ _ hs hw h3
        case enter f' args =>
          obtain ⟨e1, hc⟩ := h4
          rw [e1]
          exact hc.mono fun e w'' ⟨he, hw''⟩ => by subst he; exact hK _ _ _ hs (hw.mono hE hs hw'') h3
      | halt x w' => simp only [Oper.quietUpon] at h4
    · have h4 := h2 w (hw.cls i)
      unfold gives at h4
      have key : ∀ v w'', E w w'' ∧ S v w.heap.size w''.heap.size w'' → K' (a.put o.dst v) w'' := fun v w'' ⟨he, hv⟩ => by
        have hs' : Stay E (⟨i, w.heap.size, w''.heap.size, S v w.heap.size w''.heap.size⟩ :: fs) := Stay.cons (fun u u' a _ b => hm _ _ _ _ _ a b) hs
        have hw' : Wit E w0 (⟨i, w.heap.size, w''.heap.size, S v w.heap.size w''.heap.size⟩ :: fs) w'' :=
          ⟨hE.trans _ _ _ hw.1 he, fun f hf => by
            rcases List.mem_cons.1 hf with rfl | hf
            · exact ⟨hv, Nat.le_refl _⟩
            · exact (hw.mono hE hs he).2 f hf⟩
        exact hK _ _ _ hs' hw' (h3 v _ _ (hE.size _ _ he) (hE.size _ _ hw.1) (far_of_wit hw (Nat.le_refl _)) ⟨_, hw'⟩)
      generalize (execOp a.eval o).run P w = r at *
      cases r with
      | ok k w' =>
        cases k <;> simp only [givesUpon] at h4 <;> simp only [Oper.upon]
        case value u => exact key _ _ h4
        case enter f' args =>
          obtain ⟨e1, hc⟩ := h4
          rw [e1]
          exact hc.mono fun e w'' ⟨v, he, hw''⟩ => by subst he; exact key _ _ hw''
      | halt x w' => simp only [givesUpon] at h4
    · rw [h2 w (hw.cls i)]
      simp only [Oper.upon]
      have he := hE.alloc w c t
      have hn : (w.alloc (.cells c t)).heap[w.heap.size]? = some (.cells c t) := heap_alloc_new w _
      have hsz : (w.alloc (.cells c t)).heap.size = w.heap.size + 1 := by show (w.heap.push _).size = _; simp
      have hs' : Stay E (⟨i, w.heap.size, w.heap.size + 1, fun u => u.heap[w.heap.size]? = some (.cells c t)⟩ :: fs) :=
        Stay.cons (fun u u' a1 a2 b => (hE.keeps _ _ _ b (hE.size _ _ hw.1) (by simp only [] at a2; omega)).trans a1) hs
      have hw' : Wit E w0 (⟨i, w.heap.size, w.heap.size + 1, fun u => u.heap[w.heap.size]? = some (.cells c t)⟩ :: fs) (w.alloc (.cells c t)) :=
        ⟨hE.trans _ _ _ hw.1 he, fun f hf => by
          rcases List.mem_cons.1 hf with rfl | hf
          · exact ⟨hn, by rw [hsz]; exact Nat.le_refl _⟩
          · exact (hw.mono hE hs he).2 f hf⟩
      exact hK _ _ _ hs' hw' (h3 _ (hE.size _ _ hw.1) (far_of_wit hw (Nat.le_refl _)) ⟨_, hw'⟩)
  · rename_i hq
    simp only [hq] at h1
    exact hK _ _ _ hs hw h1
end

/-! ### What is asked of the region -/
def lateD (l : List Oper) (n t : Nat) (on : Oper) (D : List Nat) (d : Nat) : Bool := decide (d < n) && match l[d]? with
  | none => false
  | some o => o.guard.isNone && (!isCall o && (!isAlloc o && match o.dst with
    | none => false
    | some s => decide (s ≠ t) && (!(on.looksAt l.toArray).contains s && (D.all (fun d' => match l[d']? with
        | some o' => (d' == d || decide (o'.dst ≠ some s)) && (!(o'.looksAt l.toArray).contains s || (decide (d' ≠ d) && Region.waitsFor .any l.toArray d' d))
        | none => false) && (o.after.all fun e => !Region.binds .any e || decide (e.on < d))))))
def lateB (l : List Oper) (n : Nat) (D : List Nat) : Bool := match l[n]? with
  | none => false
  | some on => on.guard.isNone && (match on.dst with
    | none => false
    | some t => D.all (lateD l n t on D)) && (decide (n + 1 < l.length) && (D.all (fun d => Region.waitsFor .any l.toArray (n + 1) d || D.any fun d' => decide (d < d') && Region.waitsFor .any l.toArray d' d) && (Region.chainB .any l.toArray n &&
      ((List.range n).all (fun i => D.contains i || (List.range (n + 1)).any fun j => decide (i < j) && (!D.contains j && Region.waitsFor .any l.toArray j i)) &&
      (Region.noSelect l.toArray && Region.seqB .any l.toArray (l.length - (n + 1)) (n + 1) (List.replicate (n + 1) true ++ List.replicate (l.length - (n + 1)) false).toArray)))))
/-- The append may come now; those of D yield then what they yielded. -/
def LateA (P : Program) (l : List Oper) (Q : Exit → Act → World → Prop) (n : Nat) (D : List Nat) (a : Act) (w : World) : Prop :=
  ∃ on t v w1, l[n]? = some on ∧ on.dst = some t ∧ (execOp a.eval on).run P w = .ok (.value v) w1 ∧
    (∀ d ∈ D, ∀ o s, l[d]? = some o → o.dst = some s → (execOp (a.put (some t) v).eval o).run P w1 = .ok (.value ((a.put (some t) v).tmps.getD s Go.undef)) w1) ∧ wpList P l.toArray Q (l.drop (n + 1)) (a.put (some t) v) w1
/-- The states differ in the slots of some operations alone. -/
structure AgreeA (l : List Oper) (R : List Nat) (a b : Act) : Prop where
  defers : a.defers = b.defers
  size : a.tmps.size = b.tmps.size
  slot : ∀ s, (∀ d ∈ R, ∀ o, l[d]? = some o → o.dst ≠ some s) → a.tmps[s]? = b.tmps[s]?
theorem AgreeA.full {l : List Oper} {a b : Act} (h : AgreeA l [] a b) : a = b := by
  obtain ⟨t1, d1⟩ := a
  obtain ⟨t2, d2⟩ := b
  obtain ⟨h1, h2, h3⟩ := h
  simp only at h1 h2 h3
  subst h1
  congr 1
  apply Array.ext_getElem?
  intro i
  exact h3 i fun d hd => absurd hd List.not_mem_nil
theorem AgreeA.eval {l : List Oper} {R : List Nat} {a b : Act} (h : AgreeA l R a b) {o : Oper} (hs : ∀ cs b, o.op ≠ .select cs b) (hn : ∀ d ∈ R, ∀ o', l[d]? = some o' → ∀ s, o'.dst = some s → s ∉ o.looksAt l.toArray) : execOp a.eval o = execOp b.eval o :=
  execOp_congr o hs fun x hx => by
    cases x with
    | tmp t =>
      have := h.slot t (fun d hd o' ho' e => hn d hd o' ho' t e (List.mem_append_left _ (List.mem_filterMap.2 ⟨.tmp t, by simpa using hx, rfl⟩)))
      simp only [Act.eval, Array.getD_eq_getD_getElem?, this]
    | _ => rfl

structure LateOk (l : List Oper) (n t : Nat) (on : Oper) (D : List Nat) : Prop where
  at_ : l[n]? = some on
  g : on.guard = none
  dst : on.dst = some t
  d : ∀ d ∈ D, d < n ∧ ∃ o s, l[d]? = some o ∧ o.guard = none ∧ isCall o = false ∧ isAlloc o = false ∧ o.dst = some s ∧ s ≠ t ∧ s ∉ on.looksAt l.toArray ∧ (∀ d' ∈ D, ∃ o', l[d']? = some o' ∧ (d' = d ∨ o'.dst ≠ some s) ∧ (s ∈ o'.looksAt l.toArray → d' ≠ d ∧ Region.waitsFor .any l.toArray d' d = true)) ∧ ∀ e ∈ o.after, Region.binds .any e = true → e.on < d
  next : n + 1 < l.length
  wt : ∀ d ∈ D, Region.waitsFor .any l.toArray (n + 1) d = true ∨ ∃ d' ∈ D, d < d' ∧ Region.waitsFor .any l.toArray d' d = true
  chain : Region.chainB .any l.toArray n = true
  cov : ∀ i, i < n → i ∉ D → ∃ j, i < j ∧ j ≤ n ∧ j ∉ D ∧ Region.waitsFor .any l.toArray j i = true
  sel : Region.noSelect l.toArray = true
  seq : Region.seqB .any l.toArray (l.length - (n + 1)) (n + 1) (List.replicate (n + 1) true ++ List.replicate (l.length - (n + 1)) false).toArray = true
theorem lateB_ok {l : List Oper} {n : Nat} {D : List Nat} (h : lateB l n D = true) : ∃ t on, LateOk l n t on D := by
  unfold lateB at h
  split at h
  · cases h
  · rename_i on hon
    simp only [Bool.and_eq_true, decide_eq_true_eq] at h
    obtain ⟨⟨h1, h2⟩, h3, h4, h5, h6, h7, h8⟩ := h
    split at h2
    · cases h2
    · rename_i t ht
      refine ⟨t, on, hon, by simpa using h1, ht, fun d hd => ?_, h3, fun d hd => (by
        have := List.all_eq_true.1 h4 d hd
        simp only [Bool.or_eq_true] at this
        rcases this with h | h
        · exact .inl h
        · obtain ⟨d', hd', hp⟩ := List.any_eq_true.1 h
          simp only [Bool.and_eq_true, decide_eq_true_eq] at hp
          exact .inr ⟨d', hd', hp.1, hp.2⟩), h5, fun i hi hn => ?_, h7, h8⟩
      · have := List.all_eq_true.1 h2 d hd
        unfold lateD at this
        simp only [Bool.and_eq_true, decide_eq_true_eq] at this
        obtain ⟨g1, g2⟩ := this
        split at g2
        · cases g2
        · rename_i o ho
          simp only [Bool.and_eq_true, Bool.not_eq_true'] at g2
          obtain ⟨g3, g4, g5, g6⟩ := g2
          split at g6
          · cases g6
          · rename_i s hs
            simp only [Bool.and_eq_true, decide_eq_true_eq, Bool.not_eq_true'] at g6
            obtain ⟨k1, k2, k3, k4⟩ := g6
            refine ⟨g1, o, s, ho, by simpa using g3, g4, g5, hs, k1, by simpa using k2, fun d' hd' => ?_, fun e he hb => ?_⟩
            · have := List.all_eq_true.1 k3 d' hd'
              split at this
              · rename_i o' ho'
                simp only [Bool.and_eq_true, Bool.or_eq_true, beq_iff_eq, decide_eq_true_eq, Bool.not_eq_true'] at this
                refine ⟨o', ho', this.1, fun hx => ?_⟩
                rcases this.2 with h | h
                · exfalso
                  have : (o'.looksAt l.toArray).contains s = true := by simpa using hx
                  rw [this] at h; cases h
                · exact h
              · cases this
            · have := Array.all_eq_true_iff_forall_mem.1 k4 e he
              simp only [Bool.or_eq_true, Bool.not_eq_true', decide_eq_true_eq] at this
              rcases this with h | h
              · rw [h] at hb; cases hb
              · exact h
      · have := List.all_eq_true.1 h6 i (List.mem_range.2 hi)
        simp only [Bool.or_eq_true] at this
        rcases this with h | h
        · exact absurd (by simpa using h) hn
        · obtain ⟨j, hj, hp⟩ := List.any_eq_true.1 h
          simp only [Bool.and_eq_true, decide_eq_true_eq, Bool.not_eq_true'] at hp
          exact ⟨j, hp.1, by have := List.mem_range.1 hj; omega, by simpa using hp.2.1, hp.2.2⟩
/-- The head's operations that have not come are those of R. -/
structure LeftR (l : List Oper) (n : Nat) (R : List Nat) (listed : Array Bool) : Prop where
  nodup : R.Nodup
  size : listed.size = l.length
  lt : ∀ i ∈ R, i < n
  is : ∀ i, i < n → (listed.getD i false = true ↔ i ∉ R)
theorem LeftR.unl {l : List Oper} {n : Nat} {R : List Nat} {listed : Array Bool} (h : LeftR l n R listed) {i : Nat} (hi : i < n) (hu : listed.getD i true = false) : i ∈ R := by
  have h1 := getD_both hu
  rcases Classical.em (i ∈ R) with h2 | h2
  · exact h2
  · rw [(h.is i hi).2 h2] at h1; cases h1
theorem LeftR.set {l : List Oper} {n : Nat} {R : List Nat} {listed : Array Bool} (h : LeftR l n R listed) {i : Nat} (hi : i ∈ R) (hn : n ≤ l.length) : LeftR l n (R.erase i) (listed.setIfInBounds i true) := by
  have hin := h.lt i hi
  refine ⟨h.nodup.erase i, by simp [h.size], fun j hj => h.lt j (List.mem_of_mem_erase hj), fun j hj => ?_⟩
  by_cases e : i = j
  · subst e
    refine ⟨fun _ hm => ?_, fun _ => ?_⟩
    · exact (h.nodup.mem_erase_iff.1 hm).1 rfl
    · have : i < listed.size := by rw [h.size]; omega
      simp [this]
  · rw [getD_set_ne false e, h.is j hj, h.nodup.mem_erase_iff]
    exact ⟨fun h1 h2 => h1 h2.2, fun h1 h2 => h1 ⟨Ne.symm e, h2⟩⟩
theorem get_arr {l : List Oper} {i : Nat} : l.toArray[i]? = l[i]? := by simp
section
variable {P : Program} {Q : Exit → Act → World → Prop} {l : List Oper} {n t : Nat} {on : Oper} {D : List Nat}
theorem wanted_none {o : Oper} (h : o.guard = none) (y : Nat → Option Bool) : Region.wanted o y = true := by unfold Region.wanted; rw [h]
theorem late_last (LO : LateOk l n t on D) {R : List Nat} (hR : ∀ d ∈ R, d ∈ D) (hcl : ∀ d' ∈ D, d' ∉ R → ∀ d ∈ R, Region.waitsFor .any l.toArray d' d = false) : ∀ (m d : Nat), n - d = m → d ∈ R → ∃ d ∈ R, Region.waitsFor .any l.toArray (n + 1) d = true := by
  intro m
  induction m using Nat.strongRecOn with
  | _ m ih =>
    intro d hm hd
    rcases LO.wt d (hR d hd) with h | ⟨d', h1, h2, h3⟩
    · exact ⟨d, hd, h⟩
    · have hd' : d' ∈ R := by
        rcases Classical.em (d' ∈ R) with h | h
        · exact h
        · rw [hcl d' h1 h d hd] at h3; cases h3
      have := (LO.d d' h1).1
      exact ih (n - d') (by omega) d' rfl hd'
theorem late_after (LO : LateOk l n t on D) {b : Act} {w1 : World} (hb : ∀ d ∈ D, ∀ o s, l[d]? = some o → o.dst = some s → (execOp b.eval o).run P w1 = .ok (.value (b.tmps.getD s Go.undef)) w1) (hr : wpList P l.toArray Q (l.drop (n + 1)) b w1) :
    ∀ (k : Nat) (R : List Nat) (listed : Array Bool) (a : Act), R.length = k → (∀ d ∈ R, d ∈ D) → (∀ d' ∈ D, d' ∉ R → ∀ d ∈ R, Region.waitsFor .any l.toArray d' d = false) → LeftR l n R listed → listed.getD n false = true → (∀ j, n < j → j < l.length → listed.getD j true = false) → AgreeA l R a b → wpAny P .any l.toArray Q (k + (l.length - (n + 1))) listed a w1 := by
  intro k
  induction k with
  | zero =>
    intro R listed a hk hR hcl hl hn ht ha
    have : R = [] := List.eq_nil_of_length_eq_zero hk
    subst this
    rw [ha.full]
    have harr : listed = (List.replicate (n + 1) true ++ List.replicate (l.length - (n + 1)) false).toArray := by
      have hnx := LO.next
      apply Array.ext_getElem?
      intro i
      have hsz := hl.size
      rcases Nat.lt_trichotomy i n with h | h | h
      · have := (hl.is i h).2 List.not_mem_nil
        have hi : i < listed.size := by omega
        simp only [List.getElem?_toArray]
        rw [List.getElem?_append_left (by simp; omega), List.getElem?_replicate, if_pos (by omega)]
        simp only [Array.getD_eq_getD_getElem?, Array.getElem?_eq_getElem hi, Option.getD_some] at this ⊢
        rw [this]
      · subst h
        have hi : i < listed.size := by omega
        simp only [List.getElem?_toArray]
        rw [List.getElem?_append_left (by simp), List.getElem?_replicate, if_pos (by omega)]
        simp only [Array.getD_eq_getD_getElem?, Array.getElem?_eq_getElem hi, Option.getD_some] at hn ⊢
        rw [hn]
      · simp only [List.getElem?_toArray]
        rw [List.getElem?_append_right (by simp; omega), List.getElem?_replicate]
        by_cases hlt : i < l.length
        · have := ht i h hlt
          have hi : i < listed.size := by omega
          simp only [Array.getD_eq_getD_getElem?, Array.getElem?_eq_getElem hi, Option.getD_some] at this ⊢
          rw [this, if_pos (by simp; omega)]
        · rw [if_neg (by simp; omega), Array.getElem?_eq_none (by omega)]
    rw [harr, Nat.zero_add]
    have := wpAny_of_seq (md := .any) (P := P) (ops := l.toArray) (Q' := Q) (l.drop (n + 1)) (n + 1) _ b w1 (fun j => by simp [List.getElem?_drop]) (by rw [List.length_drop]; exact LO.seq) hr
    rwa [List.length_drop] at this
  | succ k ih =>
    intro R listed a hk hR hcl hl hn ht ha
    rw [show k + 1 + (l.length - (n + 1)) = (k + (l.length - (n + 1))) + 1 by omega]
    have hne : R ≠ [] := by intro e; subst e; simp at hk
    have hnx := LO.next
    refine ⟨fun h0 => ?_, fun i hi => ?_⟩
    · exfalso
      -- the least of R may come
      obtain ⟨m, hm, hmin⟩ : ∃ m ∈ R, ∀ r ∈ R, m ≤ r := by
        have : ∀ (R : List Nat), R ≠ [] → ∃ m ∈ R, ∀ r ∈ R, m ≤ r := by
          intro R
          induction R with
          | nil => intro h; exact absurd rfl h
          | cons x R ih =>
            intro _
            by_cases e : R = []
            · subst e; exact ⟨x, List.mem_cons_self, fun r hr => by rw [List.mem_singleton] at hr; omega⟩
            · obtain ⟨m, h1, h2⟩ := ih e
              by_cases hxm : x ≤ m
              · exact ⟨x, List.mem_cons_self, fun r hr => by
                  rcases List.mem_cons.1 hr with rfl | hr
                  · exact Nat.le_refl _
                  · exact Nat.le_trans hxm (h2 r hr)⟩
              · exact ⟨m, List.mem_cons_of_mem _ h1, fun r hr => by
                  rcases List.mem_cons.1 hr with rfl | hr
                  · omega
                  · exact h2 r hr⟩
        exact this R hne
      obtain ⟨_, o, s, ho, _, _, _, _, _, _, _, hed⟩ := LO.d m (hR m hm)
      have hmn := hl.lt m hm
      have : m ∈ Region.ready .any l.toArray listed := mem_ready.2 ⟨getD_in (by rw [hl.size]; omega) (by
        cases hx : listed.getD m false with
        | false => rfl
        | true => exact absurd hm ((hl.is m hmn).1 hx)), o, by rw [get_arr]; exact ho, fun e he hb2 => by
          have h1 := hed e he hb2
          refine (hl.is e.on (by omega)).2 fun hm2 => ?_
          have := hmin _ hm2
          omega⟩
      rw [h0] at this; cases this
    · obtain ⟨hun, oj, hoj, hall⟩ := mem_ready.1 hi
      rw [get_arr] at hoj
      have hiR : i ∈ R := by
        rcases Nat.lt_trichotomy i n with h | h | h
        · exact hl.unl h hun
        · subst h
          exfalso
          have hlt : i < listed.size := by rw [hl.size]; omega
          simp [hlt] at hn hun
          rw [hn] at hun; cases hun
        · exfalso
          have hil : i < l.length := (List.getElem?_eq_some_iff.1 hoj).1
          by_cases hi1 : i = n + 1
          · subst hi1
            obtain ⟨d0, hd0⟩ := List.exists_mem_of_ne_nil _ hne
            obtain ⟨d, hd, hw⟩ := late_last LO hR hcl _ d0 rfl hd0
            obtain ⟨oj', hoj', e, he, hbb, hon⟩ := Region.waitsFor_spec hw
            rw [get_arr] at hoj'
            have : oj' = oj := Option.some.inj (hoj'.symm.trans hoj)
            subst this
            have := hall e he hbb
            rw [hon] at this
            exact (hl.is d (hl.lt d hd)).1 this hd
          · have hc := LO.chain
            unfold Region.chainB at hc
            have := List.all_eq_true.1 hc i (List.mem_range.2 (by simpa using hil))
            simp only [Bool.or_eq_true, decide_eq_true_eq] at this
            rcases this with h2 | h2
            · omega
            · obtain ⟨oj', hoj', e, he, hbb, hon⟩ := Region.waitsFor_spec h2
              rw [get_arr] at hoj'
              have : oj' = oj := Option.some.inj (hoj'.symm.trans hoj)
              subst this
              have h3 := hall e he hbb
              rw [hon] at h3
              have h4 := getD_both (ht (i - 1) (by omega) (by omega))
              rw [h3] at h4; cases h4
      obtain ⟨hin, o, s, ho, hg, hc1, hc2, hdst, hst, hsn, hDD, hed⟩ := LO.d i (hR i hiR)
      have : oj = o := Option.some.inj (hoj.symm.trans ho)
      subst this
      have hev : execOp a.eval oj = execOp b.eval oj := ha.eval (fun cs bb => Region.noSelect_spec LO.sel i oj cs bb (by rw [get_arr]; exact hoj)) (fun d hd o' ho' s' hs' hx => by
        obtain ⟨_, o2, s2, ho2, _, _, _, hs2, _, _, hDD2, _⟩ := LO.d d (hR d hd)
        rw [ho'] at ho2
        cases ho2
        rw [hs'] at hs2
        cases hs2
        obtain ⟨o3, ho3, _, h3⟩ := hDD2 i (hR i hiR)
        rw [hoj] at ho3
        cases ho3
        obtain ⟨hne2, hw⟩ := h3 hx
        obtain ⟨oj', hoj', e, he, hbb, hon⟩ := Region.waitsFor_spec hw
        rw [get_arr] at hoj'
        have : oj' = oj := Option.some.inj (hoj'.symm.trans hoj)
        subst this
        have := hall e he hbb
        rw [hon] at this
        exact (hl.is d (hl.lt d hd)).1 this hd)
      unfold wpOp
      simp only [get_arr, hoj, wanted_none hg, if_true]
      left
      unfold Oper.wp
      rw [hev, hb i (hR i hiR) oj s ho hdst]
      simp only [Oper.upon, hdst]
      have hlen : (R.erase i).length = k := by rw [List.length_erase_of_mem hiR]; omega
      refine ih (R.erase i) _ _ hlen (fun d hd => hR d (List.mem_of_mem_erase hd)) (fun d' hd' hn' d hd => (by
        have hdR := List.mem_of_mem_erase hd
        by_cases e : d' = i
        · subst e
          cases hw : Region.waitsFor .any l.toArray d' d with
          | false => rfl
          | true =>
            exfalso
            obtain ⟨oj', hoj', e, he, hbb, hon⟩ := Region.waitsFor_spec hw
            rw [get_arr] at hoj'
            have : oj' = oj := Option.some.inj (hoj'.symm.trans hoj)
            subst this
            have := hall e he hbb
            rw [hon] at this
            exact (hl.is d (hl.lt d hdR)).1 this hdR
        · exact hcl d' hd' (fun h => hn' ((hl.nodup.mem_erase_iff).2 ⟨e, h⟩)) d hdR)) (hl.set hiR (by omega)) (by rw [getD_set_ne false (by omega)]; exact hn) (fun j hj hjl => by rw [getD_set_ne true (by omega)]; exact ht j hj hjl) ⟨ha.defers, ?_, fun x hx => ?_⟩
      · show (a.tmps.setIfInBounds s _).size = _
        rw [Array.size_setIfInBounds]; exact ha.size
      · show (a.tmps.setIfInBounds s _)[x]? = _
        by_cases e : s = x
        · subst e
          rw [Array.getElem?_setIfInBounds]
          simp only [if_true]
          have hsz : a.tmps.size = b.tmps.size := ha.size
          by_cases hlt : s < a.tmps.size
          · have hlb : s < b.tmps.size := hsz ▸ hlt
            rw [if_pos hlt, Array.getD_eq_getD_getElem?, Array.getElem?_eq_getElem hlb]; rfl
          · have hlb : b.tmps.size ≤ s := by rw [← hsz]; exact Nat.le_of_not_lt hlt
            rw [if_neg hlt, Array.getElem?_eq_none hlb]
        · rw [Array.getElem?_setIfInBounds_ne e]
          refine ha.slot x fun d hd o' ho' hdx => ?_
          by_cases e2 : d = i
          · subst e2
            rw [hoj] at ho'
            cases ho'
            rw [hdst] at hdx
            cases hdx
            exact e rfl
          · exact hx d ((hl.nodup.mem_erase_iff).2 ⟨e2, hd⟩) o' ho' hdx

variable {E : World → World → Prop} {w0 : World} {LL : Array Bool → List Fact → Act → Prop}
theorem late_ready (LO : LateOk l n t on D) {i : Nat} {listed : Array Bool} (h : i ≠ n) : i ∈ Region.ready .any (lateOps l n D).toArray listed ↔ i ∈ Region.ready .any l.toArray listed := by
  rw [mem_ready, mem_ready]
  simp only [get_arr, lateOps_ne h]
/-- What is left of the head yields values alone. -/
theorem late_unroll (LO : LateOk l n t on D) {fs : List Fact} : ∀ (k : Nat) (R : List Nat) (listed : Array Bool) (a : Act), R.length = k → (∀ d ∈ R, d ∈ D) → LeftR l n R listed → wpAnyM P .any (lateOps l n D).toArray E w0 n LL k listed fs a → ∃ listed' b, LL listed' fs b ∧ AgreeA l R a b := by
  intro k
  induction k with
  | zero =>
    intro R listed a hk hR hl h
    exact ⟨listed, a, h, rfl, rfl, fun _ _ => rfl⟩
  | succ k ih =>
    intro R listed a hk hR hl h
    obtain ⟨i, hi⟩ := List.exists_mem_of_ne_nil _ h.1
    obtain ⟨hin, hm⟩ := h.2 i hi
    have hir := (late_ready LO (by omega)).1 hi
    obtain ⟨hun, oj, hoj, hall⟩ := mem_ready.1 hir
    rw [get_arr] at hoj
    have hiR := hl.unl hin hun
    obtain ⟨_, o, s, ho, hg, hc1, hc2, hdst, _⟩ := LO.d i (hR i hiR)
    have : oj = o := Option.some.inj (hoj.symm.trans ho)
    subst this
    have hnl : n ≤ l.length := by have := LO.next; omega
    have hlen : (R.erase i).length = k := by rw [List.length_erase_of_mem hiR]; omega
    have go : ∀ v, wpAnyM P .any (lateOps l n D).toArray E w0 n LL k (listed.setIfInBounds i true) fs (a.put oj.dst v) → ∃ listed' b, LL listed' fs b ∧ AgreeA l R a b := by
      intro v hv
      obtain ⟨listed', b, h1, h2⟩ := ih (R.erase i) _ _ hlen (fun d hd => hR d (List.mem_of_mem_erase hd)) (hl.set hiR hnl) hv
      refine ⟨listed', b, h1, ?_, ?_, fun x hx => ?_⟩
      · have := h2.defers
        rw [hdst] at this; exact this
      · have := h2.size
        rw [hdst] at this
        have e : (a.put (some s) v).tmps.size = a.tmps.size := by show (a.tmps.setIfInBounds s _).size = _; rw [Array.size_setIfInBounds]
        rw [e] at this; exact this
      · have := h2.slot x (fun d hd o' ho' => hx d (List.mem_of_mem_erase hd) o' ho')
        rw [← this, hdst]
        have hne : s ≠ x := fun e => hx i hiR oj hoj (by rw [hdst, e])
        show a.tmps[x]? = (a.tmps.setIfInBounds s _)[x]?
        rw [Array.getElem?_setIfInBounds_ne hne]
    unfold mOp at hm
    simp only [get_arr, lateOps_ne (show i ≠ n by omega), hoj, wanted_none hg, if_true] at hm
    rcases hm with ⟨v, _, h3⟩ | ⟨hc, _⟩ | ⟨hc, _⟩
    · exact go v h3
    · rw [hc1] at hc; cases hc
    · rw [hc2] at hc; cases hc
theorem late_append (LO : LateOk l n t on D) (hLL : ∀ listed fs a w, LL listed fs a → Wit E w0 fs w → LateA P l Q n D a w) {fs : List Fact} {R : List Nat} {listed : Array Bool} {a : Act} {w : World} (hR : ∀ d ∈ R, d ∈ D) (hcl : ∀ d' ∈ D, d' ∉ R → ∀ d ∈ R, Region.waitsFor .any l.toArray d' d = false) (hl : LeftR l n R listed) (ht : ∀ j, n ≤ j → j < l.length → listed.getD j true = false)
    (hw : Wit E w0 fs w) (h : wpAnyM P .any (lateOps l n D).toArray E w0 n LL R.length listed fs a) : wpOp P l.toArray Q n (wpAny P .any l.toArray Q (R.length + (l.length - (n + 1))) (listed.setIfInBounds n true)) a w := by
  obtain ⟨listed', b, h1, h2⟩ := late_unroll LO R.length R listed a rfl hR hl h
  obtain ⟨on', t', v, w1, e1, e2, hrun, hval, hwp⟩ := hLL listed' fs b w h1 hw
  have := LO.at_
  rw [this] at e1
  cases e1
  have := LO.dst
  rw [this] at e2
  cases e2
  have hnx := LO.next
  have hev : execOp a.eval on = execOp b.eval on := h2.eval (fun cs bb => Region.noSelect_spec LO.sel n on cs bb (by rw [get_arr]; exact LO.at_)) (fun d hd o' ho' s' hs' hx => by
    obtain ⟨_, o2, s2, ho2, _, _, _, hs2, _, hsn, _⟩ := LO.d d (hR d hd)
    rw [ho'] at ho2
    cases ho2
    rw [hs'] at hs2
    cases hs2
    exact hsn hx)
  unfold wpOp
  simp only [get_arr, LO.at_, wanted_none LO.g, if_true]
  left
  unfold Oper.wp
  rw [hev, hrun]
  simp only [Oper.upon, LO.dst]
  refine late_after LO hval hwp R.length R _ _ rfl hR hcl ⟨hl.nodup, by simp [hl.size], hl.lt, fun i hi => by rw [getD_set_ne false (by omega)]; exact hl.is i hi⟩ ?_ (fun j hj hjl => by rw [getD_set_ne true (by omega)]; exact ht j (by omega) hjl) ⟨h2.defers, ?_, fun x hx => ?_⟩
  · have : n < listed.size := by rw [hl.size]; omega
    simp [this]
  · show (a.tmps.setIfInBounds t _).size = (b.tmps.setIfInBounds t _).size
    rw [Array.size_setIfInBounds, Array.size_setIfInBounds]; exact h2.size
  · show (a.tmps.setIfInBounds t v)[x]? = (b.tmps.setIfInBounds t v)[x]?
    have hsz : a.tmps.size = b.tmps.size := h2.size
    by_cases e : t = x
    · subst e
      rw [Array.getElem?_setIfInBounds, Array.getElem?_setIfInBounds, hsz]
      simp only [if_true]
    · rw [Array.getElem?_setIfInBounds_ne e, Array.getElem?_setIfInBounds_ne e]
      exact h2.slot x hx
theorem late_cov (LO : LateOk l n t on D) {R : List Nat} {listed : Array Bool} (hl : LeftR l n R listed) (inv : HeadInv .any (lateOps l n D).toArray n listed) (hr : n ∈ Region.ready .any l.toArray listed) : ∀ d ∈ R, d ∈ D := by
  have hnx := LO.next
  obtain ⟨_, on', hon', halln⟩ := mem_ready.1 hr
  have key : ∀ (m i : Nat), n - i = m → i < n → i ∉ D → listed.getD i false = true := by
    intro m
    induction m using Nat.strongRecOn with
    | _ m ih =>
      intro i hm hi hnd
      obtain ⟨j, h1, h2, h3, h4⟩ := LO.cov i hi hnd
      obtain ⟨oj, hoj, e, he, hbb, hon⟩ := Region.waitsFor_spec h4
      by_cases hj : j = n
      · subst hj
        rw [hoj] at hon'
        cases hon'
        have := halln e he hbb
        rw [hon] at this; exact this
      · have hlj := ih (n - j) (by omega) j rfl (by omega) h3
        have := inv.closed j oj (by rw [get_arr, lateOps_ne hj]; rw [get_arr] at hoj; exact hoj) hlj e he hbb
        rw [hon] at this; exact this
  intro d hd
  have hdn := hl.lt d hd
  rcases Classical.em (d ∈ D) with h | h
  · exact h
  · exact absurd hd ((hl.is d hdn).1 (key _ d rfl hdn h))
/-- The orders in which the append may come early. -/
theorem wpAny_late (hE : Stays E w0) (LO : LateOk l n t on D) (hLL : ∀ listed fs a w, LL listed fs a → Wit E w0 fs w → LateA P l Q n D a w) (hrdy : ∀ listed fs a, LL listed fs a → n ∈ Region.ready .any l.toArray listed) :
    ∀ (f : Nat) (R : List Nat) (listed : Array Bool) (fs : List Fact) (a : Act) (w : World), R.length = f → LeftR l n R listed → HeadInv .any (lateOps l n D).toArray n listed → Stay E fs → Wit E w0 fs w → wpAnyM P .any (lateOps l n D).toArray E w0 n LL f listed fs a → wpAny P .any l.toArray Q (f + (l.length - n)) listed a w := by
  intro f
  induction f with
  | zero =>
    intro R listed fs a w hf hl inv hs hw h
    have hnx := LO.next
    have hRe : R = [] := List.eq_nil_of_length_eq_zero hf
    subst hRe
    rw [show 0 + (l.length - n) = (0 + (l.length - (n + 1))) + 1 by omega]
    have hr := hrdy listed fs a h
    refine ⟨fun h0 => (by rw [h0] at hr; cases hr), fun i hi => ?_⟩
    obtain ⟨hun, oj, hoj, hall⟩ := mem_ready.1 hi
    have hil : i < l.length := by have := (Array.getElem?_eq_some_iff.1 hoj).1; simpa using this
    have ht : ∀ j, n ≤ j → j < l.length → listed.getD j true = false := fun j h1 h2 => inv.tail j h1 (by simpa [lateOps_len] using h2)
    rcases Nat.lt_trichotomy i n with h1 | h1 | h1
    · exact absurd (hl.unl h1 hun) List.not_mem_nil
    · subst h1
      exact late_append LO hLL (R := []) (fun d hd => absurd hd List.not_mem_nil) (fun _ _ _ d hd => absurd hd List.not_mem_nil) hl ht hw h
    · exfalso
      have hc := LO.chain
      unfold Region.chainB at hc
      have := List.all_eq_true.1 hc i (List.mem_range.2 (by simpa using hil))
      simp only [Bool.or_eq_true, decide_eq_true_eq] at this
      rcases this with h2 | h2
      · omega
      · obtain ⟨oj', hoj', e, he, hbb, hon⟩ := Region.waitsFor_spec h2
        have : oj' = oj := Option.some.inj (hoj'.symm.trans hoj)
        subst this
        have h3 := hall e he hbb
        rw [hon] at h3
        have h4 := getD_both (ht (i - 1) (by omega) (by omega))
        rw [h3] at h4; cases h4
  | succ f ih =>
    intro R listed fs a w hf hl inv hs hw h
    have hnx := LO.next
    rw [show f + 1 + (l.length - n) = (f + (l.length - n)) + 1 by omega]
    refine ⟨fun h0 => ?_, fun i hi => ?_⟩
    · obtain ⟨i, hi⟩ := List.exists_mem_of_ne_nil _ h.1
      have := (late_ready LO (by have := (h.2 i hi).1; omega)).1 hi
      rw [h0] at this; cases this
    · obtain ⟨hun, oj, hoj, hall⟩ := mem_ready.1 hi
      have hil : i < l.length := by have := (Array.getElem?_eq_some_iff.1 hoj).1; simpa using this
      have ht : ∀ j, n ≤ j → j < l.length → listed.getD j true = false := fun j h1 h2 => inv.tail j h1 (by simpa [lateOps_len] using h2)
      rcases Nat.lt_trichotomy i n with h1 | h1 | h1
      · have hiR := hl.unl h1 hun
        have hi2 := (late_ready LO (show i ≠ n by omega)).2 hi
        have hlen : (R.erase i).length = f := by rw [List.length_erase_of_mem hiR]; omega
        exact mOp_sound hE (ops' := (lateOps l n D).toArray) (o := oj) (by rw [get_arr, lateOps_ne (show i ≠ n by omega)]; rw [get_arr] at hoj; exact hoj) hoj (fun tmps => late_yielded tmps) hs hw (h.2 i hi2).2 (fun fs' a' w' hs' hw' h' => ih (R.erase i) _ fs' a' w' hlen (hl.set hiR (by omega)) (inv.set hi2 h1) hs' hw' h')
      · subst h1
        have hR := late_cov LO hl inv hi
        have hcl : ∀ d' ∈ D, d' ∉ R → ∀ d ∈ R, Region.waitsFor .any l.toArray d' d = false := by
          intro d' hd' hn' d hd
          cases hw2 : Region.waitsFor .any l.toArray d' d with
          | false => rfl
          | true =>
            exfalso
            have hlt := (LO.d d' hd').1
            have hls := (hl.is d' hlt).2 hn'
            obtain ⟨oj', hoj', e, he, hbb, hon⟩ := Region.waitsFor_spec hw2
            rw [get_arr] at hoj'
            have := inv.closed d' oj' (by rw [get_arr, lateOps_ne (by omega)]; exact hoj') hls e he hbb
            rw [hon] at this
            exact (hl.is d (hl.lt d hd)).1 this hd
        have := late_append LO hLL hR hcl hl ht hw (by rw [hf]; exact h)
        rw [show f + (l.length - i) = R.length + (l.length - (i + 1)) by omega]
        exact this
      · exfalso
        have hc := LO.chain
        unfold Region.chainB at hc
        have := List.all_eq_true.1 hc i (List.mem_range.2 (by simpa using hil))
        simp only [Bool.or_eq_true, decide_eq_true_eq] at this
        rcases this with h2 | h2
        · omega
        · obtain ⟨oj', hoj', e, he, hbb, hon⟩ := Region.waitsFor_spec h2
          have : oj' = oj := Option.some.inj (hoj'.symm.trans hoj)
          subst this
          have h3 := hall e he hbb
          rw [hon] at h3
          have h4 := getD_both (ht (i - 1) (by omega) (by omega))
          rw [h3] at h4; cases h4
end
/-- **THE RULE.** -/
theorem wp_region_late {P : Program} {id : Nat} {Q : Exit → Act → World → Prop} {a : Act} {w : World} {l : List Oper} {E : World → World → Prop} (n : Nat) (L D : List Nat) (hm : P.follows .mixedOrders = true) (hB : regionB .any (lateOps l n D).toArray n L = true) (hB2 : lateB l n D = true)
    (hE : Stays E w.drew) (h : wpM P .any (lateOps l n D).toArray E w.drew (fun fs a' => ∀ w', Wit E w.drew fs w' → LateA P l Q n D a' w') L [] a) : (Code.region id l.toArray true).wp P Q a w := by
  obtain ⟨t, on, LO⟩ := lateB_ok hB2
  have hnx := LO.next
  simp only [regionB, Bool.and_eq_true, decide_eq_true_eq, Bool.or_eq_true, beq_iff_eq] at hB
  obtain ⟨⟨⟨⟨hsel, hlen⟩, hn⟩, htail⟩, hlex⟩ := hB
  have hszl : (lateOps l n D).toArray.size = l.length := by simp [lateOps_len]
  have inv0 : HeadInv .any (lateOps l n D).toArray n (Array.replicate (lateOps l n D).toArray.size false) :=
    ⟨by simp, fun j oj _ hl => (by rw [getD_replicate_false] at hl; cases hl), fun t _ ht => getD_in (by simpa using ht) (getD_replicate_false _ _)⟩
  have hwait : ∀ listed, HeadInv .any (lateOps l n D).toArray n listed → ∀ i, i < n → listed.getD i true = false → ∀ t, n ≤ t → t ∉ Region.ready .any (lateOps l n D).toArray listed := by
    intro listed inv i hin hun t ht
    rcases htail with htail | ⟨hs, hc⟩
    · intro hr
      obtain ⟨_, o, ho, _⟩ := mem_ready.1 hr
      have := (Array.getElem?_eq_some_iff.1 ho).1
      omega
    · exact tail_waits hs hc (by rw [hszl]; omega) inv _ i rfl hin hun t ht
  have w0 : Wit E w.drew [] w.drew := ⟨hE.refl _, fun f hf => by cases hf⟩
  have H := wpAnyM_lex (md := .any) (g := (lateOps l n D).toArray.size - n) hE hsel hwait (Lq := fun fs a' => ∀ w', Wit E w.drew fs w' → LateA P l Q n D a' w')
    (fun _ _ _ hs h' w' hw' => h' w' (hw'.same hs)) L _ [] a inv0 Stay.nil ⟨_, w0⟩ hlex h
  refine wp_region_any hm ?_
  have LR : LeftR l n (List.range n) (Array.replicate (lateOps l n D).toArray.size false) :=
    ⟨List.nodup_range, by rw [Array.size_replicate, hszl], fun i hi => List.mem_range.1 hi, fun i hi => ⟨fun h => (by rw [getD_replicate_false] at h; cases h), fun h => absurd (List.mem_range.2 hi) h⟩⟩
  have rdy : ∀ (listed : Array Bool) (fs : List Fact) (a : Act), Region.seqB .any (lateOps l n D).toArray ((lateOps l n D).toArray.size - n) n listed = true ∧ (∀ w', Wit E w.drew fs w' → LateA P l Q n D a w') → n ∈ Region.ready .any l.toArray listed := by
    rintro listed fs a ⟨hq, _⟩
    rw [hszl, show l.length - n = (l.length - (n + 1)) + 1 by omega] at hq
    simp only [Region.seqB, Bool.and_eq_true, decide_eq_true_eq] at hq
    have : n ∈ Region.ready .any (lateOps l n D).toArray listed := by rw [hq.1]; exact List.mem_singleton_self _
    obtain ⟨h1, o, h2, h3⟩ := mem_ready.1 this
    rw [get_arr, lateOps_eq, LO.at_] at h2
    cases h2
    refine mem_ready.2 ⟨h1, on, by rw [get_arr]; exact LO.at_, fun e he hb => h3 e (by simp only [lateE]; exact Array.mem_append_left _ he) hb⟩
  have := wpAny_late hE LO (fun listed fs a w hLL hw => hLL.2 w hw) rdy n (List.range n) _ [] a w.drew List.length_range LR inv0 Stay.nil w0 (by rw [hlen] at H; exact H)
  have e : l.toArray.size = n + (l.length - n) := by simp; omega
  rw [e]
  have e2 : Array.replicate (n + (l.length - n)) false = Array.replicate (lateOps l n D).toArray.size false := by rw [hszl]; congr 1; omega
  rw [e2]
  exact this

/-! ### Said of walks -/
/-- Those of D give what they gave. -/
def lateC (x : Cx) (l : List Oper) (t nb1 : Nat) (env2 : List (Nat × SV)) (mem : List (Nat × MB)) : List Nat → Option (List Prop)
  | [] => some []
  | d :: D => match nthC l d with
    | some ⟨some s, op, _, _, _, _⟩ => match Nat.beq s t, find env2 s, ev x.L ⟨env2, mem, nb1⟩ op with
      | false, some v, some (v', ob) => match eqS v' v, lateC x l t nb1 env2 mem D with
        | some o1, some o2 => some (app ob (app o1 o2))
        | _, _ => none
      | _, _, _ => none
    | _ => none
theorem lateC_ok {x : Cx} (hL : LayOk x.P x.L) {l : List Oper} {t nb1 : Nat} {env2 : List (Nat × SV)} {mem : List (Nat × MB)} {D0 : Nat → Prop} {V : Vl} {a : Act} {w : World} (he : EnvR V env2 a) (hE : ∀ e, Ents D0 V ⟨e, mem, nb1⟩ w) :
    ∀ {D : List Nat} {obs : List Prop}, lateC x l t nb1 env2 mem D = some obs → AllP obs → ∀ d ∈ D, ∀ o s, l[d]? = some o → o.dst = some s → (execOp a.eval o).run x.P w = .ok (.value (a.tmps.getD s Go.undef)) w
  | [], obs, _, _, d, hd => absurd hd List.not_mem_nil
  | d0 :: D, obs, h, ho, d, hd => fun o s hl hs => by
    unfold lateC at h
    split at h
    · rename_i s0 op ty pos after gd hn
      split at h
      · rename_i v v' ob _ hv hev
        split at h
        · rename_i o1 o2 heq hrest
          simp only [Option.some.injEq] at h
          subst h
          obtain ⟨h1, h2⟩ := AllP_app.1 ho
          obtain ⟨h2, h3⟩ := AllP_app.1 h2
          rcases List.mem_cons.1 hd with rfl | hd
          · rw [nthC_eq] at hn
            rw [hl] at hn
            cases hn
            cases hs
            have := (ev_ok (s := ⟨env2, mem, nb1⟩) hL hev h1).run D0 V a w he (hE _)
            rw [this, he _ _ hv, eqS_den V heq h2]
          · exact lateC_ok hL he hE hrest h3 d hd o s hl hs
        · cases h
      · cases h
    · cases h
structure LateG (x : Cx) (l : List Oper) (n : Nat) (D : List Nat) (G : AppN → St → Prop) (s : St) : Prop where
  is : ∃ on t d obs, nthC l n = some on ∧ on.dst = some t ∧ appN x l s.env s.mem s.nb on (dropN (n + 1) l) = some d ∧ AllP d.obs ∧ lateC x l t (s.nb + 1) ((t, .sl ⟨s.nb, [(d.i, d.f)]⟩) :: s.env) s.mem D = some obs ∧ AllP obs ∧ G d s
theorem LateG.mono {x : Cx} {l : List Oper} {n : Nat} {D : List Nat} {G G' : AppN → St → Prop} {s : St} (h : LateG x l n D G s) (hg : ∀ d s, G d s → G' d s) : LateG x l n D G' s := by
  obtain ⟨on, t, d, obs, h1, h2, h3, h4, h5, h6, h7⟩ := h.is
  exact ⟨on, t, d, obs, h1, h2, h3, h4, h5, h6, hg _ _ h7⟩
def appNS (d : AppN) (s : St) : St := ⟨envT (ridT d.k s.nb d.f 1 d.i []) d.env, memT (ridT d.k s.nb d.f 1 d.i []) ((s.nb, d.m) :: killL [d.k] s.mem), s.nb + 1⟩
theorem tr_drawL {x : Cx} {Q : Exit → St → Prop} {s : St} (hL : LayOk x.P x.L) (hm : x.P.follows .mixedOrders = true) {id : Nat} {l : List Oper} (n : Nat) (L D : List Nat) (hB : regionB .any (lateOps l n D).toArray n L = true) (hB2 : lateB l n D = true)
    (h : Hd x (lateOps l n D) s.mem L [] s (LateG x l n D fun d s' => Sq x l d.rest (appNS d s') fun s' => Q .normal s')) : Tr x (.region id l.toArray true) Q s :=
  ⟨fun g V a w hr => by
    refine wp_region_late n L D hm hB hB2 (er_stays (DK := DKof V s.mem) fun b L ⟨k, v, h1, h2, _⟩ => ?_) ?_
    · have := hr.ents.lt (r := ⟨k, []⟩) (b := .deck v) (cont_iff.2 ⟨_, h1, rfl⟩) trivial
      rw [Loc.b_eq h2] at this
      exact this
    · refine h.run hL g w.drew _ _ V [] a rfl (fun tags' V' s' fs' a' hs hd hi w' hw' => ?_) ?_
      · obtain ⟨on, t, d, obs, h1, h2, h3, h4, h5, h6, h7⟩ := hs.is
        obtain ⟨env', mem', nb'⟩ := s'
        obtain ⟨t', v, w1, V1, e1, _, _, e2, e3, e4, e5⟩ := appN_core hL h3 h4 h7 (g := g) (Q := fun e a w => ∃ s V, Q e s ∧ Rep x g V s a w) (fun s'' V'' a'' w'' hq hr'' => ⟨s'', V'', hq, hr''⟩) (hi.rep (by rw [hd]; exact hw'))
        rw [h2] at e1
        cases e1
        refine ⟨on, t, v, w1, by rw [← nthC_eq]; exact h1, h2, e2, lateC_ok hL e3 e4 h5 h6, ?_⟩
        rw [dropN_eq] at e5
        exact e5
      · exact ⟨hr.defers, hr.size, hr.env, hr.envOk, hr.ents.ok, hr.ents.heap rfl, hr.own, hr.pin, hr.d0, ⟨hr.frame.1, hr.frame.2.1, ⟨hr.frame.2.2.os, hr.frame.2.2.tape, hr.frame.2.2.output⟩⟩, fun k c hk => ⟨rfl, hk⟩, fun k c hk _ => hk, (fun k i hk => by cases hk), (fun i j a b hi => by cases hi)⟩⟩
section
variable {x : Cx} {Q : Exit → St → Prop} {obs : List Prop} {K : List Kf}
/-- A region that draws its order and in which the append n may come before those of D. -/
theorem g_drawL (hL : LayOk x.P x.L) (hm : x.P.follows .mixedOrders = true) (fuel n : Nat) (L D : List Nat) (N : Nat) {id : Nat} {l : List Oper} {env : List (Nat × SV)} {mem : List (Nat × MB)} {nb : Nat} (_ : l.length = N) (hB : regionB .any (lateOps l n D).toArray n L = true) (hB2 : lateB l n D = true) (ho : AllP obs)
    (h : GoodH x (lateOps l n D) mem (LateG x l n D fun d s' => Good x Q (appNR d s'.mem s'.nb fun rest s' => run x fuel [] (.ops l rest) K s')) (runH x (lateOps l n D) mem fuel [] L [] ⟨env, mem, nb⟩)) : Good x Q (.code obs (.region id l.toArray true) K ⟨env, mem, nb⟩) := by
  refine ⟨ho, tr_drawL hL hm n L D hB hB2 ?_⟩
  have := (runH_ok hL h).2
  refine ⟨fun hL g u DK Q V fs a hd hQ hi => this.run hL g u DK Q V fs a hd (fun tags' V' s' fs' a' hs => hQ tags' V' s' fs' a' (hs.mono fun d s hk => ?_)) hi⟩
  obtain ⟨k, i, f, m, env', rest, ob⟩ := d
  simp only [appNR, killP_eq, memTP_eq, envTP_eq, nx_eq] at hk
  exact (run_ok hL hk).2
theorem g_late {l : List Oper} {n t : Nat} {D : List Nat} {G : AppN → St → Prop} {env : List (Nat × SV)} {mem : List (Nat × MB)} {nb nb1 : Nat} {on : Oper} {d : AppN} {obs2 : List Prop} (h1 : nthC l n = some on) (h2 : on.dst = some t) (h3 : appN x l env mem nb on (dropN (n + 1) l) = some d) (h4 : AllP d.obs) (hnb : nb + 1 = nb1) (h5 : lateC x l t nb1 ((t, .sl ⟨nb, [(d.i, d.f)]⟩) :: env) mem D = some obs2) (h6 : AllP obs2) (h : G d ⟨env, mem, nb⟩) : LateG x l n D G ⟨env, mem, nb⟩ :=
  ⟨⟨on, t, d, obs2, h1, h2, h3, h4, by subst hnb; exact h5, h6, h⟩⟩
end
end Go.Proofs.Ytonjbhdfimcedaa
