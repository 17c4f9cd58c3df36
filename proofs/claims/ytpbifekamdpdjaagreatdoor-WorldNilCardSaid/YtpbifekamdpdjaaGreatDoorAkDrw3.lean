/- Regions that draw their order: what the compiler has asked of them. -/
import Derived.Test.YtpbifekamdpdjaaGreatDoorAkDrw2
namespace Ak
open Go

theorem allB_mem {α : Type} {p : α → Bool} : ∀ {l : List α}, allB p l = true → ∀ x ∈ l, p x = true
  | [], _, x, h => by cases h
  | a :: l, h, x, hx => by
    simp only [allB, Bool.and_eq_true] at h
    cases hx with
    | head => exact h.1
    | tail _ hx => exact allB_mem h.2 x hx
theorem isIn_iff {l : List Nat} {n : Nat} : isIn l n = true ↔ n ∈ l := by
  induction l with
  | nil => simp [isIn]
  | cons a l ih =>
    simp only [isIn, Bool.or_eq_true, Nat.beq_eq, ih, List.mem_cons]
    constructor
    · rintro (h | h)
      · exact .inl h.symm
      · exact .inr h
    · rintro (h | h)
      · exact .inl h.symm
      · exact .inr h

/-- What is known of such a region. -/
structure DF (ops : List Oper) (asl : List Ao) (befs : List (List Nat)) (ord : List Nat) : Prop where
  len : ord.length = asl.length
  sur : ∀ i, i < asl.length → ∃ p, p < asl.length ∧ ord.getD p 0 = i
  lt : ∀ p, p < asl.length → ord.getD p 0 < asl.length
  inj : ∀ p q, p < q → q < asl.length → ord.getD p 0 ≠ ord.getD q 0
  bnd : ∀ i o, ops[i]? = some o → i < asl.length → ∀ j ∈ bindL o, j < i
  eff : ∀ p q, p < q → q < asl.length → aoEff asl (ord.getD p 0) = true → ord.getD p 0 ∈ befs.getD (ord.getD q 0) []
  bef : ∀ p q, p < asl.length → q < asl.length → ord.getD p 0 ∈ befs.getD (ord.getD q 0) [] → p < q
  dst : ∀ i j a, i < asl.length → j < asl.length → i ≠ j → dstOf asl i = some a → dstOf asl j ≠ some a
  nam : ∀ i j a, i < asl.length → j < asl.length → i ≠ j → dstOf asl i = some a → a ∈ namesOf asl j → i ∈ befs.getD j [] ∨ j ∈ befs.getD i []
  own : ∀ i a, i < asl.length → dstOf asl i = some a → a ∉ namesOf asl i

theorem drwOk_ok {ops : List Oper} {asl : List Ao} {befs : List (List Nat)} {ord : List Nat} (h : drwOk ops asl befs ord = true) : DF ops asl befs ord := by
  simp only [drwOk, Bool.and_eq_true] at h
  obtain ⟨⟨⟨⟨⟨⟨⟨⟨⟨h1, h2⟩, h3⟩, h4⟩, h5⟩, h6⟩, h7⟩, h8⟩, h9⟩, h10⟩ := h
  have hlen : ord.length = asl.length := by simpa using h1
  have rng : ∀ i, i < asl.length → i ∈ List.range asl.length := fun i hi => List.mem_range.2 hi
  refine ⟨hlen, fun i hi => ?_, fun p hp => ?_, fun p q hpq hq => ?_, fun i o ho hi j hj => ?_, fun p q hpq hq he => ?_, fun p q hp hq hb => ?_, fun i j a hi hj hne hd hd2 => ?_, fun i j a hi hj hne hd hn => ?_, fun i a hi hd hn => ?_⟩
  · have := isIn_iff.1 (allB_mem h2 i (rng i hi))
    obtain ⟨p, hp, e⟩ := List.getElem_of_mem this
    exact ⟨p, by omega, by simp [List.getD_eq_getElem?_getD, hp, e]⟩
  · have hp' : p < ord.length := by omega
    have := allB_mem h3 (ord[p]) (List.getElem_mem hp')
    rw [List.getD_eq_getElem?_getD, List.getElem?_eq_getElem hp']
    exact blt_iff.1 this
  · have := allB_mem (allB_mem h4 q (rng q hq)) p (rng p (by omega))
    simp only [Bool.or_eq_true, Bool.not_eq_true'] at this
    intro e
    rcases this with h | h
    · rw [blt_iff.2 hpq] at h; cases h
    · rw [e] at h; simp at h
  · have := allB_mem h5 i (rng i hi)
    rw [ho] at this
    exact blt_iff.1 (allB_mem this j hj)
  · have := allB_mem (allB_mem h6 q (rng q hq)) p (rng p (by omega))
    simp only [Bool.or_eq_true, Bool.not_eq_true', he] at this
    rcases this with (h | h) | h
    · rw [blt_iff.2 hpq] at h; cases h
    · cases h
    · exact isIn_iff.1 h
  · have := allB_mem (allB_mem h7 q (rng q hq)) p (rng p hp)
    simp only [Bool.or_eq_true, Bool.not_eq_true'] at this
    rcases this with h | h
    · exact blt_iff.1 h
    · rw [show memB (befs.getD (ord.getD q 0) []) (ord.getD p 0) = true from isIn_iff.2 hb] at h; cases h
  · have := allB_mem (allB_mem h8 i (rng i hi)) j (rng j hj)
    rw [hd, hd2] at this
    simp [neO, hne] at this
  · have := allB_mem h9 i (rng i hi)
    rw [hd] at this
    have := allB_mem this j (rng j hj)
    simp only [Bool.or_eq_true, Bool.not_eq_true', Nat.beq_eq] at this
    rcases this with ((h | h) | h) | h
    · exact absurd h hne
    · rw [show memB (namesOf asl j) a = true from isIn_iff.2 hn] at h; cases h
    · exact .inl (isIn_iff.1 h)
    · exact .inr (isIn_iff.1 h)
  · have := allB_mem h10 i (rng i hi)
    rw [hd] at this
    simp only at this
    rw [show memB (namesOf asl i) a = true from isIn_iff.2 hn] at this
    cases this

/-- What must come ahead, and nothing else. -/
def Good (l : List Oper) (acc : List (List Nat)) : Prop :=
  acc.length = l.length ∧ ∀ i o, l[i]? = some o → (∀ j ∈ acc.getD i [], j ∈ bindL o ∨ ∃ k ∈ bindL o, j ∈ acc.getD k []) ∧ ∀ j ∈ bindL o, j ∈ acc.getD i []
theorem good_step {l : List Oper} {acc : List (List Nat)} (h : Good l acc) (o : Oper) : Good (l ++ [o]) (befStep acc o) := by
  obtain ⟨h1, h2⟩ := h
  have hget : ∀ k, k < acc.length → (befStep acc o).getD k [] = acc.getD k [] := by
    intro k hk
    simp only [befStep, List.getD_eq_getElem?_getD, List.getElem?_append_left hk]
  have hsub : ∀ k j, j ∈ acc.getD k [] → j ∈ (befStep acc o).getD k [] := by
    intro k j hj
    by_cases hk : k < acc.length
    · rw [hget k hk]; exact hj
    · rw [List.getD_eq_getElem?_getD, List.getElem?_eq_none (by omega)] at hj; cases hj
  refine ⟨by simp [befStep, h1], fun i o' ho => ?_⟩
  rw [List.getElem?_append] at ho
  split at ho
  · rename_i hi
    obtain ⟨a, b⟩ := h2 i o' ho
    rw [hget i (by omega)]
    refine ⟨fun j hj => ?_, b⟩
    rcases a j hj with h | ⟨k, hk, hjk⟩
    · exact .inl h
    · exact .inr ⟨k, hk, hsub k j hjk⟩
  · rename_i hi
    have hil : i = l.length := by
      have := (List.getElem?_eq_some_iff.1 ho).1
      simp at this
      omega
    subst hil
    simp at ho
    subst ho
    have e : (befStep acc o).getD l.length [] = (bindL o).flatMap fun j => j :: acc.getD j [] := by
      simp only [befStep, List.getD_eq_getElem?_getD]
      rw [← h1, List.getElem?_append_right (Nat.le_refl _)]
      simp
    rw [e]
    refine ⟨fun j hj => ?_, fun j hj => ?_⟩
    · obtain ⟨k, hk, hjk⟩ := List.mem_flatMap.1 hj
      cases hjk with
      | head => exact .inl hk
      | tail _ hjk => exact .inr ⟨k, hk, hsub k j hjk⟩
    · exact List.mem_flatMap.2 ⟨j, hj, List.mem_cons_self ..⟩
theorem good_fold : ∀ (l2 l1 : List Oper) (acc : List (List Nat)), Good l1 acc → Good (l1 ++ l2) (l2.foldl befStep acc)
  | [], l1, acc, h => by simpa using h
  | o :: l2, l1, acc, h => by
    have := good_fold l2 (l1 ++ [o]) _ (good_step h o)
    simpa using this
theorem befF_good (l : List Oper) : Good l (befF l) := by
  have := good_fold l [] [] ⟨rfl, fun i o h => by simp at h⟩
  simpa [befF] using this

/-- Guards, by their value. -/
def gdV (g : Option (Nat × Bool)) (tm : T V) : Option Bool :=
  match g with
  | none => some true
  | some (j, b) => match tm.get j with
    | some (.bool t) => some (t == b)
    | some (.tup []) => some false
    | _ => none
theorem gdK_ok {α : Type} {g : Option (Nat × Bool)} {tm : T V} {yes no : T V → Option α} {r : α} (h : gdK g tm yes no = some r) :
    ∃ tm', (∀ t, tm'.get t = tm.get t) ∧ ((gdV g tm = some true ∧ yes tm' = some r) ∨ (gdV g tm = some false ∧ no tm' = some r)) := by
  cases g with
  | none => exact ⟨tm, fun _ => rfl, .inl ⟨rfl, h⟩⟩
  | some jb =>
    obtain ⟨j, b⟩ := jb
    simp only [gdK] at h
    split at h
    · rename_i t ht
      have hset : ∀ x : Bool, x = t → ∀ t', (tm.set j (.bool x)).get t' = tm.get t' := by
        rintro x rfl t'
        rw [T.get_set]
        split
        · rename_i e; subst e; exact ht.symm
        · rfl
      cases t <;> cases b <;> simp only [cond_true, cond_false] at h
      · exact ⟨_, hset false rfl, .inl ⟨by simp [gdV, ht], h⟩⟩
      · exact ⟨_, hset false rfl, .inr ⟨by simp [gdV, ht], h⟩⟩
      · exact ⟨_, hset true rfl, .inr ⟨by simp [gdV, ht], h⟩⟩
      · exact ⟨_, hset true rfl, .inl ⟨by simp [gdV, ht], h⟩⟩
    · rename_i ht
      exact ⟨tm, fun _ => rfl, .inr ⟨by simp [gdV, ht], h⟩⟩
    · cases h
theorem gdV_congr {g : Option (Nat × Bool)} {tm tm' : T V} (h : ∀ d b, g = some (d, b) → tm'.get d = tm.get d) : gdV g tm' = gdV g tm := by
  cases g with
  | none => rfl
  | some jb => obtain ⟨j, b⟩ := jb; simp only [gdV, h j b rfl]
end Ak
