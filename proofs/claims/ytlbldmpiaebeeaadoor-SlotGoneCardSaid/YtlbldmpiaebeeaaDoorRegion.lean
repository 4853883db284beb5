/- A region of open order, each operation shown once: facts on the operations' values that stay while the world only grows. No condition but the region's own edges. -/
import Derived.Orders
import Derived.Below
import Derived.Deep.Draws
import Derived.Calls
namespace Go.Proofs.YtlbldmpiaebeeaaDoor
open Go Go.RowKit

/-- The world has only grown. -/
abbrev Gr (w w' : World) : Prop := Below w.heap.size w w'
theorem Gr.trans {a b c : World} (h : Gr a b) (h' : Gr b c) : Gr a c := Below.trans h (h'.mono h.size)
theorem Gr.refl (w : World) : Gr w w := Below.refl _ _
theorem Gr.drew (w : World) : Gr w w.drew := ⟨rfl, rfl, rfl, Nat.le_refl _, fun _ _ => rfl⟩
theorem Gr.drewN (w : World) (n : Nat) : Gr w (w.drewN n) := ⟨rfl, rfl, rfl, Nat.le_refl _, fun _ _ => rfl⟩
theorem Gr.alloc (w : World) (o : Obj) : Gr w (w.alloc o) := (Below.refl _ _).alloc (Nat.le_refl _) o
theorem Gr.draw {a w : World} (h : Gr a w) : Gr a w.drew := ⟨h.os, h.tape, h.output, h.size, h.block⟩
theorem Gr.new {a w : World} (h : Gr a w) (o : Obj) : Gr a (w.alloc o) := Gr.trans h (Gr.alloc w o)

/-- A fact on a value that stays while the world grows. -/
structure Fact where
  p : Value → World → Prop
  stays : ∀ v w w', p v w → Gr w w' → p v w'
def Fact.is (c : Value) : Fact := ⟨fun v _ => v = c, fun _ _ _ h _ => h⟩
def Fact.any : Fact := ⟨fun _ _ => True, fun _ _ _ _ _ => trivial⟩

section
variable {P : Program} {ops : Array Oper} {Q : Exit → Act → World → Prop}

/-- The frame with these values in the region's slots. -/
def fillA (ds : List (Option Tmp)) (vals : Nat → Value) (a : Act) : Act :=
  match ds with
  | [] => a
  | d :: r => fillA r (fun i => vals (i + 1)) (a.put d (vals 0))

theorem put_put_same (a : Act) (d : Tmp) (u v : Value) : (a.put (some d) u).put (some d) v = a.put (some d) v := by
  simp [Act.put, Array.setIfInBounds_setIfInBounds]

def dstOk : List (Option Tmp) → Bool
  | [] => true
  | none :: r => dstOk r
  | some d :: r => !r.contains (some d) && dstOk r

theorem fill_put_out : ∀ (ds : List (Option Tmp)) (vals : Nat → Value) (a : Act) (d : Option Tmp) (v : Value), (∀ x, d = some x → some x ∉ ds) → (fillA ds vals a).put d v = fillA ds vals (a.put d v)
  | [], _, _, _, _, _ => rfl
  | x :: r, vals, a, d, v, h => by
    simp only [fillA]
    rw [fill_put_out r _ _ d v (fun y hy hm => h y hy (List.mem_cons_of_mem _ hm)), Act.put_comm a (x := x) (y := d)]
    rintro e rfl rfl
    exact h e rfl (List.mem_cons_self ..)

/-- Number i's value is set anew. -/
def setV (vals : Nat → Value) (i : Nat) (v : Value) : Nat → Value := fun j => if j = i then v else vals j
theorem fill_put : ∀ (ds : List (Option Tmp)) (vals : Nat → Value) (a : Act) (i : Nat) (d : Option Tmp) (v : Value), dstOk ds = true → ds[i]? = some d → (fillA ds vals a).put d v = fillA ds (setV vals i v) a
  | [], _, _, _, _, _, _, h => by simp at h
  | x :: r, vals, a, 0, d, v, hk, h => by
    simp only [List.getElem?_cons_zero, Option.some.injEq] at h
    subst h
    simp only [fillA]
    have hn : ∀ y, x = some y → some y ∉ r := by
      rintro y rfl hm
      simp only [dstOk, Bool.and_eq_true, Bool.not_eq_true'] at hk
      have := hk.1
      simp at this
      exact this hm
    rw [fill_put_out r _ _ x v hn]
    have e : (fun i => setV vals 0 v (i + 1)) = fun i => vals (i + 1) := by
      funext i
      simp [setV]
    rw [e]
    congr 1
    cases x with
    | none => rfl
    | some y => rw [put_put_same]; simp [setV]
  | x :: r, vals, a, i + 1, d, v, hk, h => by
    simp only [List.getElem?_cons_succ] at h
    have hk' : dstOk r = true := by
      cases x with
      | none => exact hk
      | some y => simp only [dstOk, Bool.and_eq_true] at hk; exact hk.2
    simp only [fillA]
    rw [fill_put r _ _ i d v hk' h]
    have e1 : setV vals (i + 1) v 0 = vals 0 := by simp [setV]
    have e2 : (fun j => setV vals (i + 1) v (j + 1)) = setV (fun j => vals (j + 1)) i v := by
      funext j
      simp [setV]
    rw [e1, e2]
/-- The frame as it is has some values. -/
theorem put_own (a : Act) (d : Tmp) : a.put (some d) (a.tmps.getD d undef) = a := by
  obtain ⟨t, df⟩ := a
  simp only [Act.put, Act.mk.injEq, and_true]
  apply Array.ext_getElem?
  intro i
  rw [Array.getElem?_setIfInBounds]
  split
  · rename_i h
    subst h
    split
    · rename_i h1
      simp [h1]
    · rename_i h1
      rw [Array.getElem?_eq_none (by omega)]
  · rfl
theorem fill_own : ∀ (ds : List (Option Tmp)) (a : Act), ∃ vals, fillA ds vals a = a
  | [], a => ⟨fun _ => undef, rfl⟩
  | none :: r, a => by
    obtain ⟨vals, h⟩ := fill_own r a
    exact ⟨fun i => match i with | 0 => undef | j + 1 => vals j, by simp only [fillA]; exact h⟩
  | some d :: r, a => by
    obtain ⟨vals, h⟩ := fill_own r a
    refine ⟨fun i => match i with | 0 => a.tmps.getD d undef | j + 1 => vals j, ?_⟩
    simp only [fillA]
    rw [put_own]
    exact h

def dstsOf (l : List Oper) : List (Option Tmp) := l.map (·.dst)

/-- One operation's step: out of the facts on those that it waits for. -/
def StepS (P : Program) (ops : Array Oper) (Q : Exit → Act → World → Prop) (Fs : List Fact) (a0 : Act) (w0 : World) (i : Nat) : Prop :=
  ∀ o f, ops[i]? = some o → Fs[i]? = some f → ∀ (vals : Nat → Value) (w : World), Gr w0 w →
    (∀ e ∈ o.after, Region.binds .any e = true → ∀ g : Fact, Fs[e.on]? = some g → g.p (vals e.on) w) →
    ∀ K : Act → World → Prop, (∀ v w', Gr w w' → f.p v w' → K ((fillA (dstsOf ops.toList) vals a0).put o.dst v) w') →
      if Region.wanted o (yielded ops (fillA (dstsOf ops.toList) vals a0).tmps) = true then o.wp P (fillA (dstsOf ops.toList) vals a0) w K Q else K ((fillA (dstsOf ops.toList) vals a0).put o.dst undef) w

theorem wpAny_stable (Fs : List Fact) (a0 : Act) (w0 : World) (hlen : Fs.length = ops.size) (hok : dstOk (dstsOf ops.toList) = true)
    (hstep : ∀ i, i < ops.size → StepS P ops Q Fs a0 w0 i)
    (hend : ∀ (vals : Nat → Value) (w : World), Gr w0 w → (∀ (i : Nat) (g : Fact), Fs[i]? = some g → g.p (vals i) w) → Q .normal (fillA (dstsOf ops.toList) vals a0) w) (_ : ∀ e ∈ ops.toList, ∀ x ∈ e.after, Region.binds .any x = true → x.on < ops.size) (hacyc : ∀ listed : Array Bool, listed.size = ops.size → Region.ready .any ops listed = [] → ∀ i, i < ops.size → listed.getD i false = true) :
    ∀ (fuel : Nat) (listed : Array Bool) (vals : Nat → Value) (w : World), listed.size = ops.size → ((List.range ops.size).filter fun j => !listed.getD j false).length ≤ fuel → Gr w0 w → (∀ (i : Nat) (g : Fact), Fs[i]? = some g → listed.getD i false = true → g.p (vals i) w) →
      wpAny P .any ops Q fuel listed (fillA (dstsOf ops.toList) vals a0) w := by
  have done : ∀ (listed : Array Bool) (vals : Nat → Value) (w : World), listed.size = ops.size → Gr w0 w → (∀ (i : Nat) (g : Fact), Fs[i]? = some g → listed.getD i false = true → g.p (vals i) w) → Region.ready .any ops listed = [] → Q .normal (fillA (dstsOf ops.toList) vals a0) w := by
    intro listed vals w hs hg hf hr
    exact hend vals w hg fun i g hi => hf i g hi (hacyc listed hs hr i (by have := (List.getElem?_eq_some_iff.1 hi).1; omega))
  intro fuel
  induction fuel with
  | zero =>
    intro listed vals w hs hc hg hf
    have hr : Region.ready .any ops listed = [] := by
      cases h : Region.ready .any ops listed with
      | nil => rfl
      | cons i r =>
        have hi : i ∈ Region.ready .any ops listed := by rw [h]; exact List.mem_cons_self ..
        have hlt : i < ops.size := by
          unfold Region.ready at hi
          exact List.mem_range.1 (List.mem_filter.1 hi).1
        have hu := (mem_ready.1 hi).1
        have : i ∈ (List.range ops.size).filter fun j => !listed.getD j false := by
          rw [List.mem_filter]
          refine ⟨List.mem_range.2 hlt, ?_⟩
          have e : listed.getD i false = listed.getD i true := by simp [Array.getD, hs, hlt]
          rw [e, hu]; rfl
        have := List.length_pos_of_mem this
        omega
    exact ⟨hr, done listed vals w hs hg hf hr⟩
  | succ fuel ih =>
    intro listed vals w hs hc hg hf
    refine ⟨done listed vals w hs hg hf, fun i hi => ?_⟩
    have hlt : i < ops.size := by
      unfold Region.ready at hi
      exact List.mem_range.1 (List.mem_filter.1 hi).1
    obtain ⟨hu, o, ho, hall⟩ := mem_ready.1 hi
    obtain ⟨f, hfi⟩ : ∃ f, Fs[i]? = some f := ⟨_, List.getElem?_eq_getElem (by omega)⟩
    have hdst : (dstsOf ops.toList)[i]? = some o.dst := by
      unfold dstsOf
      rw [List.getElem?_map, Array.getElem?_toList, ho]
      rfl
    have huf : listed.getD i false = false := by
      have e : listed.getD i false = listed.getD i true := by simp [Array.getD, hs, hlt]
      rw [e, hu]
    have hcount : ((List.range ops.size).filter fun j => !(listed.setIfInBounds i true).getD j false).length ≤ fuel := by
      have h1 : ((List.range ops.size).filter fun j => !(listed.setIfInBounds i true).getD j false).length < ((List.range ops.size).filter fun j => !listed.getD j false).length := by
        have sub : ∀ l : List Nat, i ∈ l → l.Nodup → (l.filter fun j => !(listed.setIfInBounds i true).getD j false).length < (l.filter fun j => !listed.getD j false).length := by
          intro l
          induction l with
          | nil => intro h; cases h
          | cons x r ihl =>
            intro h hn
            rw [List.nodup_cons] at hn
            by_cases hx : x = i
            · subst hx
              have e1 : (listed.setIfInBounds x true).getD x false = true := by simp [Array.getD, hs, hlt]
              have e2 : (r.filter fun j => !(listed.setIfInBounds x true).getD j false) = r.filter fun j => !listed.getD j false := by
                apply List.filter_congr
                intro j hj
                have hne : x ≠ j := fun e => hn.1 (e ▸ hj)
                simp [Array.getD_eq_getD_getElem?, Array.getElem?_setIfInBounds_ne hne]
              rw [List.filter_cons, List.filter_cons, e1, huf, e2]
              simp
            · have hi' : i ∈ r := by
                rcases List.mem_cons.1 h with rfl | h
                · exact absurd rfl hx
                · exact h
              have e3 : (listed.setIfInBounds i true).getD x false = listed.getD x false := by
                simp [Array.getD_eq_getD_getElem?, Array.getElem?_setIfInBounds_ne (Ne.symm hx)]
              rw [List.filter_cons, List.filter_cons, e3]
              have := ihl hi' hn.2
              split
              · simp only [List.length_cons]; omega
              · exact this
        exact sub _ (List.mem_range.2 hlt) List.nodup_range
      omega
    have next : ∀ v w', Gr w w' → f.p v w' → wpAny P .any ops Q fuel (listed.setIfInBounds i true) ((fillA (dstsOf ops.toList) vals a0).put o.dst v) w' := by
      intro v w' hg' hp
      rw [fill_put _ _ _ i o.dst v hok hdst]
      refine ih _ (setV vals i v) w' (by simpa using hs) hcount (Gr.trans hg hg') fun j g hj hl => ?_
      by_cases hji : j = i
      · subst hji
        rw [hfi] at hj
        obtain rfl := Option.some.inj hj
        simpa [setV] using hp
      · have hl' : listed.getD j false = true := by
          simpa [Array.getD_eq_getD_getElem?, Array.getElem?_setIfInBounds_ne (Ne.symm hji)] using hl
        have := g.stays _ _ _ (hf j g hj hl') hg'
        simpa [setV, hji] using this
    have hs' := hstep i hlt o f ho hfi vals w hg (fun e he hb g hgj => hf e.on g hgj (hall e he hb)) _ next
    unfold wpOp
    simp only [ho]
    split
    · rename_i hw
      rw [if_pos hw] at hs'
      exact .inl hs'
    · rename_i hw
      rw [if_neg hw] at hs'
      exact hs'

/-- Whatever is not listed and first in the text may come up, where all edges go back. -/
theorem acyc (hb : ∀ i o, ops[i]? = some o → ∀ e ∈ o.after, Region.binds .any e = true → e.on < i) : ∀ listed : Array Bool, listed.size = ops.size → Region.ready .any ops listed = [] → ∀ i, i < ops.size → listed.getD i false = true := by
  intro listed hs hr i
  induction i using Nat.strongRecOn with
  | _ i ih =>
    intro hlt
    cases hl : listed.getD i false with
    | true => rfl
    | false =>
      exfalso
      have : i ∈ Region.ready .any ops listed := by
        rw [mem_ready]
        have e : listed.getD i false = listed.getD i true := by simp [Array.getD, hs, hlt]
        refine ⟨by rw [← e, hl], ops[i], by simp [hlt], fun x hx hbx => ?_⟩
        have hlt' := hb i ops[i] (by simp [hlt]) x hx hbx
        exact ih x.on hlt' (by omega)
      rw [hr] at this
      cases this

def backB (ops : Array Oper) : Bool := (List.range ops.size).all fun i => match ops[i]? with
  | some o => o.after.all fun e => !Region.binds .any e || decide (e.on < i)
  | none => true
theorem back_of (h : backB ops = true) : ∀ i o, ops[i]? = some o → ∀ e ∈ o.after, Region.binds .any e = true → e.on < i := by
  intro i o ho e he hb
  have hlt : i < ops.size := (Array.getElem?_eq_some_iff.1 ho).1
  have h1 := List.all_eq_true.1 h i (List.mem_range.2 hlt)
  simp only [ho] at h1
  have h2 := Array.all_eq_true_iff_forall_mem.1 h1 e he
  simpa [hb] using h2

/-- THE LAW: a region of open order by facts that stay. -/
theorem wp_region_stable {id : Nat} {a0 : Act} {w0 : World} (Fs : List Fact) (hm : P.follows .mixedOrders = true) (hlen : Fs.length = ops.size) (hok : dstOk (dstsOf ops.toList) = true) (hback : backB ops = true)
    (hstep : ∀ i, i < ops.size → StepS P ops Q Fs a0 w0 i)
    (hend : ∀ (vals : Nat → Value) (w : World), Gr w0 w → (∀ (i : Nat) (g : Fact), Fs[i]? = some g → g.p (vals i) w) → Q .normal (fillA (dstsOf ops.toList) vals a0) w) :
    (Code.region id ops true).wp P Q a0 w0 := by
  refine wp_region_any hm ?_
  obtain ⟨vals, hv⟩ := fill_own (dstsOf ops.toList) a0
  have h := wpAny_stable (P := P) (ops := ops) (Q := Q) Fs a0 w0 hlen hok hstep hend
    (fun o ho x hx hb => by
      obtain ⟨i, hi⟩ := List.getElem?_of_mem ho
      rw [Array.getElem?_toList] at hi
      have := back_of hback i o hi x hx hb
      have hlt : i < ops.size := (Array.getElem?_eq_some_iff.1 hi).1
      omega) (acyc (back_of hback)) ops.size (Array.replicate ops.size false) vals w0.drew (by simp) (by
        exact Nat.le_trans (List.length_filter_le _ _) (by simp)) (Gr.drew w0) (fun i g _ hl => by
          exfalso
          rw [Array.getD_eq_getD_getElem?, Array.getElem?_replicate] at hl
          split at hl <;> simp at hl)
  rw [hv] at h
  exact h
end
end Go.Proofs.YtlbldmpiaebeeaaDoor
