/- The orders that a region may draw. -/
import Derived.Test.YtcfljlcdhacpdaaGreatEvList
import Derived.Orders
namespace Go.Ev

/-- an edge that binds, from j back to i -/
def Edg (ops : Array Oper) (j i : Nat) : Prop := ∃ o, ops[j]? = some o ∧ ∃ e ∈ o.after, Region.binds .any e = true ∧ e.on = i

/-- i must come ahead of j -/
inductive Path (ops : Array Oper) : Nat → Nat → Prop where
  | one {j i : Nat} (h : Edg ops j i) : Path ops j i
  | cons {j k i : Nat} (h : Edg ops j k) (t : Path ops k i) : Path ops j i

section
variable {ops : Array Oper}

theorem mem_ready_any {j : Nat} {listed : Array Bool} (hsz : listed.size = ops.size) : j ∈ Region.ready .any ops listed ↔
    j < ops.size ∧ listed.getD j false = false ∧ ∀ i, Edg ops j i → listed.getD i false = true := by
  rw [mem_ready]
  constructor
  · rintro ⟨h0, o, ho, h⟩
    have hlt := (Array.getElem?_eq_some_iff.1 ho).1
    refine ⟨hlt, ?_, ?_⟩
    · rw [← hsz] at hlt
      simp only [Array.getD, hlt, dif_pos] at h0 ⊢
      exact h0
    · rintro i ⟨o', ho', e, he, hb, rfl⟩
      rw [ho] at ho'; cases ho'
      exact h e he hb
  · rintro ⟨hlt, h0, h⟩
    refine ⟨?_, ops[j], by simp [hlt], ?_⟩
    · rw [← hsz] at hlt
      simp only [Array.getD, hlt, dif_pos] at h0 ⊢
      exact h0
    · intro e he hb
      exact h _ ⟨_, by simp [hlt], e, he, hb, rfl⟩

/-- what is still to be listed -/
def left (n : Nat) (listed : Array Bool) : Nat := ((List.range n).filter fun i => !listed.getD i false).length

theorem left_set {n i : Nat} {listed : Array Bool} (hi : i < n) (hsz : listed.size = n) (h0 : listed.getD i false = false) : left n (listed.setIfInBounds i true) + 1 = left n listed := by
  unfold left
  have key : ∀ (l : List Nat), l.Nodup → i ∈ l → ((l.filter fun j => !(listed.setIfInBounds i true).getD j false).length + 1 = (l.filter fun j => !listed.getD j false).length) := by
    have hne : ∀ (l : List Nat), i ∉ l → (l.filter fun j => !(listed.setIfInBounds i true).getD j false) = (l.filter fun j => !listed.getD j false) := by
      intro l hl
      refine List.filter_congr fun j hj => ?_
      rw [getD_set_ne false (fun e : i = j => hl (by rw [e]; exact hj))]
    have hset : (listed.setIfInBounds i true).getD i false = true := by
      have : i < listed.size := by omega
      simp [this]
    intro l
    induction l with
    | nil => intro _ h; cases h
    | cons x l ih =>
      intro hnd hm
      rw [List.nodup_cons] at hnd
      by_cases hx : x = i
      · subst hx
        rw [List.filter_cons, List.filter_cons, hset, h0, hne l hnd.1]
        simp
      · have hm' : i ∈ l := by
          rcases List.mem_cons.1 hm with h | h
          · exact absurd h.symm hx
          · exact h
        have := ih hnd.2 hm'
        rw [List.filter_cons, List.filter_cons, getD_set_ne false (Ne.symm hx)]
        split <;> simp_all
  exact key _ List.nodup_range (List.mem_range.2 hi)

/-- the list that is drawn: all of it, once, and each one behind what binds it -/
structure Lin (ops : Array Oper) (listed : Array Bool) (π : List Nat) : Prop where
  nodup : π.Nodup
  mem : ∀ j, j ∈ π ↔ j < ops.size ∧ listed.getD j false = false
  ord : ∀ π1 j π2, π = π1 ++ j :: π2 → ∀ i, Edg ops j i → i ∉ j :: π2

theorem lin_go (hedge : ∀ j i, Edg ops j i → i < j) : ∀ (fuel t : Nat) (listed : Array Bool), listed.size = ops.size → left ops.size listed ≤ fuel →
    Lin ops listed (Region.linearise.go .any ops fuel t listed []) := by
  intro fuel
  induction fuel with
  | zero =>
    intro t listed hsz hleft
    simp only [Region.linearise.go, List.reverse_nil]
    refine ⟨List.nodup_nil, fun j => ⟨fun h => absurd h (by simp), fun h => ?_⟩, fun π1 j π2 h => by simp at h⟩
    exfalso
    have h0 : (List.range ops.size).filter (fun i => !listed.getD i false) = [] := List.length_eq_zero_iff.1 (Nat.le_zero.1 hleft)
    have h1 : j ∈ (List.range ops.size).filter (fun i => !listed.getD i false) := by
      rw [List.mem_filter, List.mem_range]; exact ⟨h.1, by rw [h.2]; rfl⟩
    rw [h0] at h1; cases h1
  | succ fuel ih =>
    intro t listed hsz hleft
    have hgo : Region.linearise.go .any ops (fuel + 1) t listed [] = (match (Region.ready .any ops listed)[t % (Region.ready .any ops listed).length]? with
      | some i => i :: Region.linearise.go .any ops fuel (t / (Region.ready .any ops listed).length) (listed.setIfInBounds i true) []
      | none => []) := by
      simp only [Region.linearise.go]
      change (match (Region.ready .any ops listed)[t % (Region.ready .any ops listed).length]? with
        | some i => Region.linearise.go .any ops fuel (t / (Region.ready .any ops listed).length) (listed.setIfInBounds i true) [i]
        | none => [].reverse) = _
      cases (Region.ready .any ops listed)[t % (Region.ready .any ops listed).length]? with
      | none => rfl
      | some i => simp only []; rw [linearise_go_acc, List.reverse_singleton, List.singleton_append]
    rw [hgo]
    cases hi : (Region.ready .any ops listed)[t % (Region.ready .any ops listed).length]? with
    | none =>
      have hnil : Region.ready .any ops listed = [] := by
        cases hr : Region.ready .any ops listed with
        | nil => rfl
        | cons x xs =>
          rw [hr] at hi
          have hlt : t % (x :: xs).length < (x :: xs).length := Nat.mod_lt _ (by simp)
          simp at hi
          simp at hlt
          omega
      refine ⟨List.nodup_nil, fun j => ⟨fun h => absurd h (by simp), fun h => ?_⟩, fun π1 j π2 h => by simp at h⟩
      exfalso
      have key : ∀ j, j < ops.size → listed.getD j false = true := by
        intro j
        induction j using Nat.strongRecOn with
        | ind j ihj =>
          intro hj
          cases hq : listed.getD j false with
          | true => rfl
          | false =>
            have : j ∈ Region.ready .any ops listed := (mem_ready_any hsz).2 ⟨hj, hq, fun i he => ihj i (hedge _ _ he) (Nat.lt_trans (hedge _ _ he) hj)⟩
            rw [hnil] at this; cases this
      rw [key j h.1] at h
      cases h.2
    | some i =>
      simp only []
      obtain ⟨hlt, h0, hed⟩ := (mem_ready_any hsz).1 (List.mem_of_getElem? hi)
      have h2 := left_set hlt hsz h0
      have hL := ih (t / (Region.ready .any ops listed).length) (listed.setIfInBounds i true) (by simp [hsz]) (by omega)
      have hset : (listed.setIfInBounds i true).getD i false = true := by
        have : i < listed.size := by omega
        simp [this]
      have hmem : ∀ j, j ∈ Region.linearise.go .any ops fuel (t / (Region.ready .any ops listed).length) (listed.setIfInBounds i true) [] ↔ j < ops.size ∧ j ≠ i ∧ listed.getD j false = false := by
        intro j
        rw [hL.mem]
        by_cases hj : j = i
        · subst hj; simp [hset]
        · rw [getD_set_ne false (Ne.symm hj)]; simp [hj]
      refine ⟨List.nodup_cons.2 ⟨fun h => ((hmem i).1 h).2.1 rfl, hL.nodup⟩, ?_, ?_⟩
      · intro j
        rw [List.mem_cons, hmem]
        by_cases hj : j = i
        · subst hj; simp [hlt, h0]
        · simp [hj]
      · intro π1 j π2 hp i' hE
        cases π1 with
        | nil =>
          rw [List.nil_append] at hp
          injection hp with hj ht
          subst hj
          have h3 := hed i' hE
          intro hm
          rcases List.mem_cons.1 hm with h | h
          · subst h; rw [h0] at h3; cases h3
          · rw [← ht, hmem] at h
            rw [h.2.2] at h3; cases h3
        | cons x π1 =>
          rw [List.cons_append] at hp
          injection hp with hj ht
          exact hL.ord π1 j π2 ht i' hE

theorem lin_all (hedge : ∀ j i, Edg ops j i → i < j) (t : Nat) : Lin ops (Array.replicate ops.size false) (Region.linearise .any ops t) := by
  refine lin_go hedge _ _ _ (by simp) ?_
  unfold left
  exact Nat.le_trans (List.length_filter_le _ _) (by simp)

/-- as paths -/
theorem Lin.path (hedge : ∀ j i, Edg ops j i → i < j) {π : List Nat} (hL : Lin ops (Array.replicate ops.size false) π) : ∀ {j i : Nat}, Path ops j i → ∀ π1 π2, π = π1 ++ j :: π2 → i ∉ j :: π2 := by
  intro j i h
  induction h with
  | one he => intro π1 π2 hp; exact hL.ord _ _ _ hp _ he
  | @cons j k i he ht ih =>
    intro π1 π2 hp
    have hk := hL.ord _ _ _ hp _ he
    have hjlt : j < ops.size := ((hL.mem j).1 (by rw [hp]; simp)).1
    have hkm : k ∈ π := (hL.mem k).2 ⟨Nat.lt_trans (hedge _ _ he) hjlt, by
      have : k < ops.size := Nat.lt_trans (hedge _ _ he) hjlt
      simp [this]⟩
    rw [hp] at hkm
    rcases List.mem_append.1 hkm with h | h
    · obtain ⟨u, v, huv⟩ := List.append_of_mem h
      have := ih u (v ++ j :: π2) (by rw [hp, huv]; simp)
      intro hm
      exact this (by simp only [List.mem_cons, List.mem_append] at hm ⊢; rcases hm with h | h <;> simp [h])
    · exact absurd h hk
end
end Go.Ev
