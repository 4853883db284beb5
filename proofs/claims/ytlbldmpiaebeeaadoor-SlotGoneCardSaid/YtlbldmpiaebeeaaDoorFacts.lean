/- A region of open order by facts, where some operations spoil some facts (an append in place); each operation is walked once. No condition but the region's own edges. -/
import Derived.Test.YtlbldmpiaebeeaaDoorRegion
import Derived.Tactics
import Derived.WalkKit
namespace Go.Proofs.YtlbldmpiaebeeaaDoor
open Go Go.RowKit

theorem Oper.wp_weak {P : Program} {o : Oper} {a : Act} {w : World} {K K' : Act → World → Prop} {Q Q' : Exit → Act → World → Prop} (h : ∀ a w, K a w → K' a w) (hq : ∀ e a w, e ≠ .normal → Q e a w → Q' e a w)
    (hh : o.wp P a w K Q) : o.wp P a w K' Q' := by
  have hl : LetsOut Q → LetsOut Q' := fun ⟨a, w, h⟩ => ⟨a, w, hq _ _ _ (by simp) h⟩
  unfold Oper.wp at *
  generalize (execOp a.eval o).run P w = r at *
  cases r with
  | ok n w' =>
    cases n <;> simp only [Oper.upon] at hh ⊢ <;>
      first
        | exact h _ _ hh
        | exact Calls.mono hh (fun e w'' he => by cases e <;> first | exact h _ _ he | exact hq _ _ _ (by simp) he | exact hl he)
        | exact Rows.mono hh (fun _ _ he => h _ _ he)
  | halt x w' => cases x <;> simp only [Oper.upon] at hh ⊢ <;> first | exact hq _ _ _ (by simp) hh | exact hh

/-- Must operation i wait for operation j? -/
def depB (ops : Array Oper) (i j : Nat) : Bool := match ops[i]? with
  | some o => o.after.any fun e => Region.binds .any e && e.on == j
  | none => false
/-- Must operation i wait for operation j, by a chain of others? -/
def depT (ops : Array Oper) : Nat → Nat → Nat → Bool
  | 0, _, _ => false
  | n + 1, i, j => match ops[i]? with
    | some o => o.after.any fun e => Region.binds .any e && (e.on == j || depT ops n e.on j)
    | none => false
/-- May operation i use what 'spoil' says others spoil? Each spoiler waits for i. -/
def okB (ops : Array Oper) (spoil : Nat → Bool) (i : Nat) : Bool := (List.range ops.size).all fun k => k == i || !spoil k || depT ops ops.size k i

/-- A fact that is no fact. -/
def noI : World → Prop := fun _ => True
def noS : Nat → Nat → Bool := fun _ _ => false
def noSI : Nat → Bool := fun _ => false

section
variable {P : Program} {ops : Array Oper} {Q : Exit → Act → World → Prop}

def StepF (P : Program) (ops : Array Oper) (Q : Exit → Act → World → Prop) (Fs : List Fact) (I : World → Prop) (spoil : Nat → Nat → Bool) (spoilI : Nat → Bool) (B : Nat) (F : (Nat → Value) → Act) (w0 : World) (i : Nat) : Prop :=
  ∀ o f, ops[i]? = some o → Fs[i]? = some f → ∀ (vals : Nat → Value) (w : World), Below B w0 w → B ≤ w.heap.size → (okB ops spoilI i = true → I w) →
    (∀ j g, depB ops i j = true → okB ops (fun k => spoil k j) i = true → Fs[j]? = some g → g.p (vals j) w) →
    ∀ K : Act → World → Prop, (∀ v w', Below B w w' → f.p v w' → (spoilI i = false → I w → I w') → (∀ j g, Fs[j]? = some g → j ≠ i → depT ops ops.size j i = false → spoil i j = false → g.p (vals j) w → g.p (vals j) w') → K ((F vals).put o.dst v) w') →
      if Region.wanted o (yielded ops (F vals).tmps) = true then o.wp P (F vals) w K Q else K ((F vals).put o.dst undef) w

theorem depB_of {i : Nat} {o : Oper} (ho : ops[i]? = some o) {e : Edge} (he : e ∈ o.after) (hb : Region.binds .any e = true) : depB ops i e.on = true := by
  unfold depB
  simp only [ho]
  rw [Array.any_eq_true']
  exact ⟨e, he, by simp [hb]⟩
theorem of_depB {i j : Nat} {o : Oper} (ho : ops[i]? = some o) (h : depB ops i j = true) : ∃ e ∈ o.after, Region.binds .any e = true ∧ e.on = j := by
  unfold depB at h
  simp only [ho] at h
  rw [Array.any_eq_true'] at h
  obtain ⟨e, he, h⟩ := h
  simp only [Bool.and_eq_true, beq_iff_eq] at h
  exact ⟨e, he, h.1, h.2⟩
theorem lt_of_depB {i j : Nat} (h : depB ops i j = true) : i < ops.size := by
  unfold depB at h
  split at h
  · rename_i o ho
    exact (Array.getElem?_eq_some_iff.1 ho).1
  · cases h

theorem listed_depT {listed : Nat → Bool} (hcl : ∀ i j, listed i = true → depB ops i j = true → listed j = true) : ∀ (n i j : Nat), listed i = true → depT ops n i j = true → listed j = true
  | 0, _, _, _, h => by cases h
  | n + 1, i, j, hl, h => by
    unfold depT at h
    split at h
    · rename_i o ho
      rw [Array.any_eq_true'] at h
      obtain ⟨e, he, h⟩ := h
      simp only [Bool.and_eq_true, Bool.or_eq_true, beq_iff_eq] at h
      have h1 := hcl i e.on hl (depB_of ho he h.1)
      rcases h.2 with rfl | h2
      · exact h1
      · exact listed_depT hcl n e.on j h1 h2
    · cases h

theorem wpAny_facts (Fs : List Fact) (I : World → Prop) (spoil : Nat → Nat → Bool) (spoilI : Nat → Bool) (B : Nat) (a0 : Act) (F : (Nat → Value) → Act) (hF : ∀ vals, fillA (dstsOf ops.toList) vals a0 = F vals) (w0 : World)
    (hlen : Fs.length = ops.size) (hok : dstOk (dstsOf ops.toList) = true) (hB0 : B ≤ w0.heap.size)
    (hback : ∀ i o, ops[i]? = some o → ∀ e ∈ o.after, Region.binds .any e = true → e.on < i)
    (hstep : ∀ i, i < ops.size → StepF P ops Q Fs I spoil spoilI B F w0 i)
    (hend : ∀ (vals : Nat → Value) (w : World), Below B w0 w → (∀ (i : Nat) (g : Fact), Fs[i]? = some g → (∀ k, k < ops.size → spoil k i = false) → g.p (vals i) w) → Q .normal (F vals) w) :
    ∀ (fuel : Nat) (listed : Array Bool) (vals : Nat → Value) (w : World), listed.size = ops.size → ((List.range ops.size).filter fun j => !listed.getD j false).length ≤ fuel → Below B w0 w →
      (∀ i j, listed.getD i false = true → depB ops i j = true → listed.getD j false = true) →
      ((∀ k, listed.getD k false = true → spoilI k = false) → I w) →
      (∀ (i : Nat) (g : Fact), Fs[i]? = some g → listed.getD i false = true → (∀ k, k ≠ i → listed.getD k false = true → spoil k i = false) → g.p (vals i) w) →
      wpAny P .any ops Q fuel listed (fillA (dstsOf ops.toList) vals a0) w := by
  have hacyc := acyc hback
  have done : ∀ (listed : Array Bool) (vals : Nat → Value) (w : World), listed.size = ops.size → Below B w0 w → (∀ (i : Nat) (g : Fact), Fs[i]? = some g → listed.getD i false = true → (∀ k, k ≠ i → listed.getD k false = true → spoil k i = false) → g.p (vals i) w) → Region.ready .any ops listed = [] → Q .normal (fillA (dstsOf ops.toList) vals a0) w := by
    intro listed vals w hs hg hf hr
    rw [hF]
    refine hend vals w hg fun i g hi hsp => hf i g hi (hacyc listed hs hr i (by have := (List.getElem?_eq_some_iff.1 hi).1; omega)) fun k _ hl => hsp k ?_
    rcases Nat.lt_or_ge k ops.size with h | h
    · exact h
    · rw [Array.getD_eq_getD_getElem?, Array.getElem?_eq_none (by omega)] at hl; cases hl
  intro fuel
  induction fuel with
  | zero =>
    intro listed vals w hs hc hg _ _ hf
    have hr : Region.ready .any ops listed = [] := by
      cases h : Region.ready .any ops listed with
      | nil => rfl
      | cons i r =>
        have hi : i ∈ Region.ready .any ops listed := by rw [h]; exact List.mem_cons_self ..
        have hlt : i < ops.size := by
          unfold Region.ready at hi
          exact List.mem_range.1 (List.mem_filter.1 hi).1
        have hu := (mem_ready.1 hi).1
        have : i ∈ (List.range ops.size).filter fun j => !listed.getD j false := by
          rw [List.mem_filter]
          refine ⟨List.mem_range.2 hlt, ?_⟩
          have e : listed.getD i false = listed.getD i true := by simp [Array.getD, hs, hlt]
          rw [e, hu]; rfl
        have := List.length_pos_of_mem this
        omega
    exact ⟨hr, done listed vals w hs hg hf hr⟩
  | succ fuel ih =>
    intro listed vals w hs hc hg hcl hI hf
    refine ⟨done listed vals w hs hg hf, fun i hi => ?_⟩
    have hlt : i < ops.size := by
      unfold Region.ready at hi
      exact List.mem_range.1 (List.mem_filter.1 hi).1
    obtain ⟨hu, o, ho, hall⟩ := mem_ready.1 hi
    obtain ⟨f, hfi⟩ : ∃ f, Fs[i]? = some f := ⟨_, List.getElem?_eq_getElem (by omega)⟩
    have hdst : (dstsOf ops.toList)[i]? = some o.dst := by
      unfold dstsOf
      rw [List.getElem?_map, Array.getElem?_toList, ho]
      rfl
    have huf : listed.getD i false = false := by
      have e : listed.getD i false = listed.getD i true := by simp [Array.getD, hs, hlt]
      rw [e, hu]
    have get_set : ∀ j, (listed.setIfInBounds i true).getD j false = if j = i then true else listed.getD j false := by
      intro j
      by_cases hj : j = i
      · subst hj; simp [Array.getD, hs, hlt]
      · simp [Array.getD_eq_getD_getElem?, Array.getElem?_setIfInBounds_ne (Ne.symm hj), hj]
    have hcount : ((List.range ops.size).filter fun j => !(listed.setIfInBounds i true).getD j false).length ≤ fuel := by
      have h1 : ((List.range ops.size).filter fun j => !(listed.setIfInBounds i true).getD j false).length < ((List.range ops.size).filter fun j => !listed.getD j false).length := by
        have sub : ∀ l : List Nat, i ∈ l → l.Nodup → (l.filter fun j => !(listed.setIfInBounds i true).getD j false).length < (l.filter fun j => !listed.getD j false).length := by
          intro l
          induction l with
          | nil => intro h; cases h
          | cons x r ihl =>
            intro h hn
            rw [List.nodup_cons] at hn
            by_cases hx : x = i
            · subst hx
              have e1 : (listed.setIfInBounds x true).getD x false = true := by rw [get_set]; simp
              have e2 : (r.filter fun j => !(listed.setIfInBounds x true).getD j false) = r.filter fun j => !listed.getD j false := by
                apply List.filter_congr
                intro j hj
                have hne : j ≠ x := fun e => hn.1 (e ▸ hj)
                rw [get_set, if_neg hne]
              rw [List.filter_cons, List.filter_cons, e1, huf, e2]
              simp
            · have hi' : i ∈ r := by
                rcases List.mem_cons.1 h with rfl | h
                · exact absurd rfl hx
                · exact h
              have e3 : (listed.setIfInBounds i true).getD x false = listed.getD x false := by rw [get_set, if_neg hx]
              rw [List.filter_cons, List.filter_cons, e3]
              have := ihl hi' hn.2
              split
              · simp only [List.length_cons]; omega
              · exact this
        exact sub _ (List.mem_range.2 hlt) List.nodup_range
      omega
    -- whoever is listed does not wait for i
    have nodep : ∀ k, listed.getD k false = true → depT ops ops.size k i = false := by
      intro k hk
      cases hd : depT ops ops.size k i with
      | false => rfl
      | true => rw [listed_depT (listed := fun k => listed.getD k false) hcl _ k i hk hd] at huf; cases huf
    have free : ∀ sp : Nat → Bool, okB ops sp i = true → ∀ k, k ≠ i → listed.getD k false = true → sp k = false := by
      intro sp hsp k hki hk
      have hkn : k < ops.size := by
        rcases Nat.lt_or_ge k ops.size with h | h
        · exact h
        · rw [Array.getD_eq_getD_getElem?, Array.getElem?_eq_none (by omega)] at hk; cases hk
      have := List.all_eq_true.1 hsp k (List.mem_range.2 hkn)
      rw [nodep k hk] at this
      simpa [hki] using this
    have next : ∀ v w', Below B w w' → f.p v w' → (spoilI i = false → I w → I w') → (∀ j g, Fs[j]? = some g → j ≠ i → depT ops ops.size j i = false → spoil i j = false → g.p (vals j) w → g.p (vals j) w') →
        wpAny P .any ops Q fuel (listed.setIfInBounds i true) ((F vals).put o.dst v) w' := by
      intro v w' hg' hp hI' hst
      rw [← hF, fill_put _ _ _ i o.dst v hok hdst]
      refine ih _ (setV vals i v) w' (by simpa using hs) hcount (hg.trans hg') ?_ ?_ ?_
      · intro x j hx hd
        rw [get_set] at hx ⊢
        by_cases hj : j = i
        · rw [if_pos hj]
        · rw [if_neg hj]
          by_cases hxi : x = i
          · subst hxi
            obtain ⟨e, he, hb, rfl⟩ := of_depB ho hd
            have h1 := hall e he hb
            exact h1
          · rw [if_neg hxi] at hx
            exact hcl x j hx hd
      · intro hno
        refine hI' (hno i (by rw [get_set]; simp)) (hI fun k hk => hno k ?_)
        rw [get_set]
        split
        · rfl
        · exact hk
      · intro j g hj hl hno
        by_cases hji : j = i
        · subst hji
          rw [hfi] at hj
          obtain rfl := Option.some.inj hj
          simpa [setV] using hp
        · rw [get_set, if_neg hji] at hl
          have h1 := hf j g hj hl fun k hk hkl => hno k hk (by
            rw [get_set]
            split
            · rfl
            · exact hkl)
          have h2 := hst j g hj hji (nodep j hl) (hno i (Ne.symm hji) (by rw [get_set]; simp)) h1
          simpa [setV, hji] using h2
    have hs' := hstep i hlt o f ho hfi vals w hg (Nat.le_trans hB0 hg.size) (fun h => hI fun k hk => by
        by_cases hki : k = i
        · subst hki; rw [huf] at hk; cases hk
        · exact free _ h k hki hk) (fun j g hd hsp hgj => by
        obtain ⟨e, he, hb, rfl⟩ := of_depB ho hd
        have h1 := hall e he hb
        refine hf e.on g hgj h1 fun k hk hkl => ?_
        by_cases hki : k = i
        · subst hki; rw [huf] at hkl; cases hkl
        · exact free _ hsp k hki hkl) _ next
    rw [← hF] at hs'
    unfold wpOp
    simp only [ho]
    split
    · rename_i hw
      rw [if_pos hw] at hs'
      exact .inl hs'
    · rename_i hw
      rw [if_neg hw] at hs'
      exact hs'

/-- THE LAW: a region of open order by facts. -/
theorem wp_region_facts {id : Nat} {a0 : Act} {w0 : World} (Fs : List Fact) (I : World → Prop) (spoil : Nat → Nat → Bool) (spoilI : Nat → Bool) (B : Nat) (hm : P.follows .mixedOrders = true) (hlen : Fs.length = ops.size) (hok : dstOk (dstsOf ops.toList) = true) (hback : backB ops = true)
    (hB0 : B ≤ w0.heap.size) (hI0 : I w0.drew) {F : (Nat → Value) → Act} (hF : ∀ vals, fillA (dstsOf ops.toList) vals a0 = F vals)
    (hstep : ∀ i, i < ops.size → StepF P ops Q Fs I spoil spoilI B F w0 i)
    (hend : ∀ (vals : Nat → Value) (w : World), Below B w0 w → (∀ (i : Nat) (g : Fact), Fs[i]? = some g → (∀ k, k < ops.size → spoil k i = false) → g.p (vals i) w) → Q .normal (F vals) w) :
    (Code.region id ops true).wp P Q a0 w0 := by
  refine wp_region_any hm ?_
  obtain ⟨vals, hv⟩ := fill_own (dstsOf ops.toList) a0
  have none_listed : ∀ i, (Array.replicate ops.size false).getD i false = false := by
    intro i
    rw [Array.getD_eq_getD_getElem?, Array.getElem?_replicate]
    split <;> simp
  have h := wpAny_facts (P := P) (ops := ops) (Q := Q) Fs I spoil spoilI B a0 F hF w0 hlen hok hB0 (back_of hback) hstep hend ops.size (Array.replicate ops.size false) vals w0.drew (by simp)
    (Nat.le_trans (List.length_filter_le _ _) (by simp)) (Below.drew (Below.refl _ _)) (fun i j hi _ => by rw [none_listed] at hi; cases hi) (fun _ => hI0) (fun i g _ hl => by rw [none_listed] at hl; cases hl)
  rw [hv] at h
  exact h

/-- Where an operation that only grows the world comes to. -/
def EndG (Fr : Act) (o : Oper) (f : Fact) (w : World) : Exit → Act → World → Prop := fun e a' w' => e = .normal ∧ ∃ v, a' = Fr.put o.dst v ∧ Gr w w' ∧ f.p v w'
/-- Where an operation that may spoil comes to. -/
def EndS (Fs : List Fact) (I : World → Prop) (spoilI : Nat → Bool) (B i : Nat) (keep : List Nat) (vals : Nat → Value) (Fr : Act) (o : Oper) (f : Fact) (w : World) : Exit → Act → World → Prop :=
  fun e a' w' => e = .normal ∧ ∃ v, a' = Fr.put o.dst v ∧ Below B w w' ∧ f.p v w' ∧ (spoilI i = false → I w → I w') ∧ (∀ j ∈ keep, ∀ g, Fs[j]? = some g → g.p (vals j) w → g.p (vals j) w')

theorem one_op {o : Oper} {Fr : Act} {w : World} {E : Exit → Act → World → Prop} {K : Act → World → Prop} (hne : ∀ e a w, E e a w → e = .normal) (h : wpList P ops E [o] Fr w) (hK : ∀ a w, E .normal a w → K a w) :
    if Region.wanted o (yielded ops Fr.tmps) = true then o.wp P Fr w K Q else K (Fr.put o.dst undef) w := by
  unfold wpList at h
  split
  · rename_i hw
    rw [if_pos hw] at h
    rcases h with h | ⟨_, a, w', h⟩
    · exact Oper.wp_weak (fun a w h => hK a w h) (fun e a w hn h => absurd (hne _ _ _ h) hn) h
    · have := hne _ _ _ h
      cases this
  · rename_i hw
    rw [if_neg hw] at h
    exact hK _ _ h

variable {Fs : List Fact} {I : World → Prop} {spoil : Nat → Nat → Bool} {spoilI : Nat → Bool} {B : Nat} {F : (Nat → Value) → Act} {w0 : World}
/-- One operation's step, where the world only grows. -/
theorem step_g (i : Nat) (deps : List Nat) (o : Oper) (f : Fact) (ho : ops[i]? = some o) (hf : Fs[i]? = some f) (hI : ∀ w w', I w → Gr w w' → I w') (hd : (deps.all fun j => depB ops i j && okB ops (fun k => spoil k j) i) = true)
    (h : ∀ (vals : Nat → Value) (w : World), Below B w0 w → B ≤ w.heap.size → (okB ops spoilI i = true → I w) → (∀ j ∈ deps, ∀ g, Fs[j]? = some g → g.p (vals j) w) → wpList P ops (EndG (F vals) o f w) [o] (F vals) w) :
    StepF P ops Q Fs I spoil spoilI B F w0 i := by
  intro o' f' ho' hf' vals w hb hB hIw hfs K hK
  rw [ho] at ho'
  obtain rfl := Option.some.inj ho'
  rw [hf] at hf'
  obtain rfl := Option.some.inj hf'
  refine one_op (fun e a w h => h.1) (h vals w hb hB hIw fun j hj g hg => ?_) ?_
  · have := List.all_eq_true.1 hd j hj
    rw [Bool.and_eq_true] at this
    exact hfs j g this.1 this.2 hg
  · rintro a w' ⟨_, v, rfl, hg, hp⟩
    exact hK v w' (hg.mono hB) hp (fun _ h => hI _ _ h hg) (fun j g _ _ _ _ h => g.stays _ _ _ h hg)
/-- One operation's step, where it may spoil. -/
theorem step_s (i : Nat) (deps keep : List Nat) (o : Oper) (f : Fact) (ho : ops[i]? = some o) (hf : Fs[i]? = some f) (hd : (deps.all fun j => depB ops i j && okB ops (fun k => spoil k j) i) = true)
    (hk : ((List.range Fs.length).all fun j => j == i || depT ops ops.size j i || spoil i j || keep.contains j) = true)
    (h : ∀ (vals : Nat → Value) (w : World), Below B w0 w → B ≤ w.heap.size → (okB ops spoilI i = true → I w) → (∀ j ∈ deps, ∀ g, Fs[j]? = some g → g.p (vals j) w) → wpList P ops (EndS Fs I spoilI B i keep vals (F vals) o f w) [o] (F vals) w) :
    StepF P ops Q Fs I spoil spoilI B F w0 i := by
  intro o' f' ho' hf' vals w hb hB hIw hfs K hK
  rw [ho] at ho'
  obtain rfl := Option.some.inj ho'
  rw [hf] at hf'
  obtain rfl := Option.some.inj hf'
  refine one_op (fun e a w h => h.1) (h vals w hb hB hIw fun j hj g hg => ?_) ?_
  · have := List.all_eq_true.1 hd j hj
    rw [Bool.and_eq_true] at this
    exact hfs j g this.1 this.2 hg
  · rintro a w' ⟨_, v, rfl, hg, hp, h1, h2⟩
    refine hK v w' hg hp h1 fun j g hj hji hdt hsp hgp => h2 j ?_ g hj hgp
    have := List.all_eq_true.1 hk j (List.mem_range.2 (List.getElem?_eq_some_iff.1 hj).1)
    rw [hdt, hsp] at this
    simpa [hji] using this
end
end Go.Proofs.YtlbldmpiaebeeaaDoor
