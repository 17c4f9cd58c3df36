/- Operations without effect: the same at a later time. -/
import Derived.Test.YtpbifekamdpdjaaGreatDoorAkCall
namespace Ak
open Go
section
variable {α : Type}

theorem optK_congr {d : Nat} {e e' : X → V} {x : Option X} {K : Nat → Option α} (h : ∀ y ∈ x.toList, e' y = e y) : optK d e' x K = optK d e x K := by
  cases x with
  | none => rfl
  | some y => simp only [optK]; rw [h y (by simp)]
theorem map_congr {e e' : X → V} : ∀ {xs : List X}, (∀ y ∈ xs, e' y = e y) → xs.map e' = xs.map e
  | [], _ => rfl
  | x :: xs, h => by simp only [List.map_cons]; rw [h x (List.mem_cons_self ..), map_congr fun y hy => h y (List.mem_cons_of_mem _ hy)]
theorem buildL_congr {e e' : X → V} : ∀ {ps : List (Nat × Nat × X)} (cs : List V), (∀ y ∈ ps.map (·.2.2), e' y = e y) → buildL e' cs ps = buildL e cs ps
  | [], cs, _ => rfl
  | (off, n, x) :: ps, cs, h => by
    simp only [buildL]
    rw [h x (by simp)]
    have : ∀ c, buildL e' c ps = buildL e c ps := fun c => buildL_congr c fun y hy => h y (by simp only [List.map_cons]; exact List.mem_cons_of_mem _ hy)
    simp only [this]

theorem opK_congr (hd : Hd α) (p : Ap) {e e' : X → V} (h : ∀ x ∈ p.xs, e' x = e x) (σ : H) (K : V → H → Option α) : opK hd p e' σ K = opK hd p e σ K := by
  cases p <;> simp only [Ap.xs, List.mem_cons, List.not_mem_nil, or_false, forall_eq_or_imp, forall_eq, List.mem_append, Option.mem_toList] at h <;> simp only [opK]
  case build zs ps => rw [buildL_congr zs h]
  case bsl zs len ps =>
    rw [buildL_congr (zcells zs len) (e := e) (e' := e') (fun y hy => h y (by simpa using hy))]
  case mkF f xs cs => rw [map_congr fun y hy => h y (.inl hy), map_congr fun y hy => h y (.inr hy)]
  case slS x lo hi =>
    rw [h.1]
    simp only [optK_congr (x := hi) (e := e) (e' := e') (fun y hy => h.2 y (.inr (by simpa using hy))), optK_congr (x := lo) (e := e) (e' := e') (fun y hy => h.2 y (.inl (by simpa using hy)))]
  case slL sz x lo hi =>
    rw [h.1]
    simp only [optK_congr (x := hi) (e := e) (e' := e') (fun y hy => h.2 y (.inr (by simpa using hy))), optK_congr (x := lo) (e := e) (e' := e') (fun y hy => h.2 y (.inl (by simpa using hy)))]
  case sl3 sz x lo hi m =>
    rw [h.1, h.2 m (.inr rfl)]
    simp only [optK_congr (x := hi) (e := e) (e' := e') (fun y hy => h.2 y (.inl (.inr (by simpa using hy)))), optK_congr (x := lo) (e := e) (e' := e') (fun y hy => h.2 y (.inl (.inl (by simpa using hy))))]
  case slA n sz x lo hi =>
    rw [h.1]
    simp only [optK_congr (x := hi) (e := e) (e' := e') (fun y hy => h.2 y (.inr (by simpa using hy))), optK_congr (x := lo) (e := e) (e' := e') (fun y hy => h.2 y (.inl (by simpa using hy)))]
  case mn x xs => rw [h.1, map_congr h.2]
  case mx x xs => rw [h.1, map_congr h.2]
  case call f as => rw [map_congr h]
  case calv x as => rw [h.1, map_congr h.2]
  all_goals first
    | rfl
    | rw [h]
    | rw [h.1, h.2]
    | rw [h.1, h.2.1, h.2.2]

/-! In continuation form: the answer is the continuation's at one value. -/
theorem natK_pure {v : V} {K : Nat → Option α} {r : α} (h : natK v K = some r) : ∃ n, K n = some r ∧ ∀ K' : Nat → Option α, natK v K' = K' n := by
  unfold natK at h
  split at h
  · rename_i k n
    obtain ⟨h1, h2⟩ := bif_then h
    exact ⟨_, h2, fun K' => by simp only [natK, h1, cond_true]⟩
  · cases h
theorem optK_pure {d : Nat} {e : X → V} {x : Option X} {K : Nat → Option α} {r : α} (h : optK d e x K = some r) : ∃ n, K n = some r ∧ ∀ K' : Nat → Option α, optK d e x K' = K' n := by
  cases x with
  | none => exact ⟨d, h, fun _ => rfl⟩
  | some y => exact natK_pure h
theorem binI_pure {op : BinOp} {k : IntKind} {a b : Int} {K : V → Option α} {r : α} (h : binI op k a b K = some r) : ∃ v, K v = some r ∧ ∀ K' : V → Option α, binI op k a b K' = K' v := by
  cases op <;> simp only [binI] at h <;> first
    | (cases h; done)
    | exact ⟨_, h, fun K' => rfl⟩
    | (obtain ⟨h1, h2⟩ := bif_else h; exact ⟨_, h2, fun K' => by simp only [binI, h1, cond_false]⟩)
theorem binS_pure {op : BinOp} {a b : List Nat} {K : V → Option α} {r : α} (h : binS op a b K = some r) : ∃ v, K v = some r ∧ ∀ K' : V → Option α, binS op a b K' = K' v := by
  cases op <;> simp only [binS] at h <;> first
    | (cases h; done)
    | exact ⟨_, h, fun K' => rfl⟩
    | (obtain ⟨h1, h2⟩ := bif_then h; exact ⟨_, h2, fun K' => by simp only [binS, h1, cond_true]⟩)
theorem binK_pure {op : BinOp} {x y : V} {K : V → Option α} {r : α} (h : binK op x y K = some r) : ∃ v, K v = some r ∧ ∀ K' : V → Option α, binK op x y K' = K' v := by
  unfold binK at h
  split at h
  · obtain ⟨h1, h2⟩ := bif_else h
    exact ⟨_, h2, fun K' => by simp only [binK, h1, cond_false]⟩
  · obtain ⟨h1, h2⟩ := bif_else h
    exact ⟨_, h2, fun K' => by simp only [binK, h1, cond_false]⟩
  · rename_i op k a l b n1 n2
    obtain ⟨h1, h2⟩ := bif_then h
    obtain ⟨v, h3, h4⟩ := binI_pure h2
    refine ⟨v, h3, fun K' => ?_⟩
    cases op <;> first
      | exact (n1 _ _ _ _ rfl rfl rfl).elim
      | exact (n2 _ _ _ _ rfl rfl rfl).elim
      | (simp only [binK, h1, cond_true]; exact h4 K')
  · rename_i op a b
    obtain ⟨v, h3, h4⟩ := binS_pure h
    refine ⟨v, h3, fun K' => ?_⟩
    cases op <;> (simp only [binK]; exact h4 K')
  · cases h
theorem findK_pure {kk : Nat} {k : V} : ∀ {es : List (V × V)} {K : Option V → Option α} {r : α}, findK kk k es K = some r → ∃ v, K v = some r ∧ ∀ K' : Option V → Option α, findK kk k es K' = K' v
  | [], K, r, h => ⟨none, h, fun _ => rfl⟩
  | (a, b) :: es, K, r, h => by
    simp only [findK] at h
    split at h
    · rename_i t ht
      cases t with
      | true => exact ⟨some b, h, fun K' => by simp only [findK, ht, cond_true]⟩
      | false =>
        obtain ⟨v, h1, h2⟩ := findK_pure (es := es) h
        exact ⟨v, h1, fun K' => by simp only [findK, ht, cond_false]; exact h2 K'⟩
    · cases h
theorem ldK_pure {σ : H} {id off : Nat} {K : V → Option α} {r : α} (h : ldK σ id off K = some r) : ∃ v, K v = some r ∧ ∀ (σ' : H) (K' : V → Option α), σ'.get id = σ.get id → ldK σ' id off K' = K' v := by
  unfold ldK at h
  split at h
  · rename_i c z lo hi ro ho
    obtain ⟨h1, h2⟩ := bif_then h
    exact ⟨_, h2, fun σ' K' hs => by simp only [ldK, hs, ho, h1, cond_true]⟩
  · cases h
theorem ldnK_pure {σ : H} {id : Nat} : ∀ {n off : Nat} {K : List V → Option α} {r : α}, ldnK σ id off n K = some r → ∃ v, K v = some r ∧ ∀ (σ' : H) (K' : List V → Option α), σ'.get id = σ.get id → ldnK σ' id off n K' = K' v
  | 0, off, K, r, h => ⟨[], h, fun _ _ _ => rfl⟩
  | n + 1, off, K, r, h => by
    simp only [ldnK] at h
    obtain ⟨v, h1, h2⟩ := ldK_pure h
    obtain ⟨vs, h3, h4⟩ := ldnK_pure h1
    exact ⟨v :: vs, h3, fun σ' K' hs => by simp only [ldnK]; rw [h2 σ' _ hs, h4 σ' _ hs]⟩
theorem srcK_pure {σ : H} {sz : Nat} {v : V} {K : List V → Nat → Option α} {r : α} (h : srcK σ sz v K = some r) : ∃ vs n, K vs n = some r ∧ ∀ (σ' : H) (K' : List V → Nat → Option α), (∀ id ∈ rdOf v, σ'.get id = σ.get id) → srcK σ' sz v K' = K' vs n := by
  unfold srcK at h
  split at h
  · rename_i id off s len mn ex
    obtain ⟨vs, h1, h2⟩ := ldnK_pure h
    exact ⟨vs, len, h1, fun σ' K' hs => by simp only [srcK]; exact h2 σ' _ (hs id (by simp [rdOf]))⟩
  · exact ⟨[], 0, h, fun _ _ _ => rfl⟩
  · cases h

/-- What an allocation lays, and its value, by its number. -/
def alc (p : Ap) (e : X → V) : Option (O × (Nat → V)) :=
  match p with
  | .alloc zs => bif allOne zs then some (.cells (tof zs) [] 0 zs.length false, fun a => .ptr a 0) else none
  | .box x => bif allOne (e x).cells then some (.cells (tof (e x).cells) [] 0 (e x).cells.length false, fun a => .ptr a 0) else none
  | .bsl zs len ps => match buildL e (zcells zs len) (ps.map fun (i, x) => (i * zs.length, zs.length, x)) with
    | some cs => bif allOne cs then some (.cells (tof cs) [] 0 (len * zs.length) false, fun a => .slc a 0 zs.length len len true) else none
    | none => none
  | .s2b x => match e x with
    | .str s => some (.cells (tof (bytesOf s)) [] 0 s.length false, fun a => .slc a 0 1 s.length s.length false)
    | _ => none
  | .mkM => some (.map [], .map)
  | .mkMh x => match e x with
    | .int _ _ => some (.map [], .map)
    | _ => none
  | .mkS zs bytes l c => match e l, e c with
    | .int _ n, .int _ m => bif decide (0 ≤ n) && decide (0 ≤ m) then
        bif leB n.toNat m.toNat && leB (m.toNat * bytes) 140737488355328 && allOne zs && Nat.blt 0 zs.length then some (.cells .lf zs 0 (m.toNat * zs.length) false, fun a => .slc a 0 zs.length n.toNat m.toNat true) else none
      else none
    | _, _ => none
  | _ => none
def isAlc : Ap → Bool
  | .alloc _ | .box _ | .bsl .. | .s2b _ | .mkM | .mkMh _ | .mkS .. => true
  | _ => false

theorem alc_opK {hd : Hd α} {p : Ap} (ha : isAlc p = true) {e : X → V} {σ : H} {K : V → H → Option α} {r : α} (h : opK hd p e σ K = some r) : ∃ o f, alc p e = some (o, f) ∧ K (f σ.next) (σ.push o) = some r := by
  cases p <;> first | (cases ha; done) | skip
  case alloc zs => simp only [opK] at h; obtain ⟨h1, h2⟩ := bif_then h; exact ⟨_, _, by simp only [alc, h1, cond_true]; rfl, h2⟩
  case box x => simp only [opK] at h; obtain ⟨h1, h2⟩ := bif_then h; exact ⟨_, _, by simp only [alc, h1, cond_true]; rfl, h2⟩
  case bsl zs len ps =>
    simp only [opK] at h
    split at h
    · rename_i cs hcs
      obtain ⟨h1, h2⟩ := bif_then h
      exact ⟨_, _, by simp only [alc, hcs, h1, cond_true]; rfl, h2⟩
    · cases h
  case s2b x =>
    simp only [opK] at h
    split at h
    · rename_i s hs
      exact ⟨_, _, by simp only [alc, hs]; rfl, h⟩
    · cases h
  case mkM => exact ⟨_, _, rfl, h⟩
  case mkMh x =>
    simp only [opK] at h
    split at h
    · rename_i k n hs
      exact ⟨_, _, by simp only [alc, hs], h⟩
    · cases h
  case mkS zs bytes l c =>
    simp only [opK] at h
    obtain ⟨k, n, e1, hn, h⟩ := natK_ok h
    obtain ⟨k2, m, e2, hm, h⟩ := natK_ok h
    obtain ⟨h1, h2⟩ := bif_then h
    exact ⟨_, _, by simp only [alc, e1, e2, hn, hm, decide_true, Bool.and_self, cond_true, h1]; rfl, h2⟩

theorem pure_ok {hd : Hd α} {p : Ap} (he : apEff p = false) (ha : isAlc p = false) {e : X → V} {σ : H} {K : V → H → Option α} {r : α} (h : opK hd p e σ K = some r) :
    ∃ v, K v σ = some r ∧ ∀ (σ' : H) (K' : V → H → Option α), (∀ id ∈ reads p e, σ'.get id = σ.get id) → opK hd p e σ' K' = K' v σ' := by
  cases p <;> first | (cases he; done) | (cases ha; done) | skip
  all_goals simp only [opK] at h ⊢
  case mv x => exact ⟨_, h, fun _ _ _ => rfl⟩
  case lenC n => exact ⟨_, h, fun _ _ _ => rfl⟩
  case mkI t x => exact ⟨_, h, fun _ _ _ => rfl⟩
  case mkF f xs cs => exact ⟨_, h, fun _ _ _ => rfl⟩
  case bin op x y =>
    obtain ⟨v, h1, h2⟩ := binK_pure h
    exact ⟨v, h1, fun σ' K' _ => h2 _⟩
  case pick c a b =>
    split at h
    · rename_i t ht
      split at h
      · rename_i p q hp hq; exact ⟨_, h, fun σ' K' _ => rfl⟩
      · cases t with
        | true => exact ⟨_, h, fun σ' K' _ => rfl⟩
        | false => exact ⟨_, h, fun σ' K' _ => rfl⟩
    · cases h
  case build zs ps =>
    split at h
    · rename_i cs hcs; exact ⟨_, h, fun σ' K' _ => rfl⟩
    · cases h
  case ld1 a =>
    split at h
    · rename_i id off he
      obtain ⟨v, h1, h2⟩ := ldK_pure h
      exact ⟨v, h1, fun σ' K' hr => h2 σ' _ (hr id (by simp [reads, he, rdOf]))⟩
    · cases h
  case ldn n a =>
    split at h
    · rename_i id off he
      obtain ⟨v, h1, h2⟩ := ldnK_pure h
      exact ⟨_, h1, fun σ' K' hr => h2 σ' _ (hr id (by simp [reads, he, rdOf]))⟩
    · cases h
  case nilc x =>
    split at h <;> first | (cases h; done) | exact ⟨_, h, fun σ' K' _ => rfl⟩
  case eqn cls neg x y =>
    split at h
    · exact ⟨_, h, fun σ' K' _ => rfl⟩
    · cases h
  case eqa ks neg x y =>
    split at h
    · split at h
      · exact ⟨_, h, fun σ' K' _ => by simp only⟩
      · cases h
    · cases h
  case not x => split at h <;> first | (cases h; done) | exact ⟨_, h, fun σ' K' _ => rfl⟩
  case neg x => split at h <;> first | (cases h; done) | exact ⟨_, h, fun σ' K' _ => rfl⟩
  case cvi k x => split at h <;> first | (cases h; done) | exact ⟨_, h, fun σ' K' _ => rfl⟩
  case cvs x => split at h <;> first | (cases h; done) | exact ⟨_, h, fun σ' K' _ => rfl⟩
  case b2s x =>
    obtain ⟨vs, n, h1, h2⟩ := srcK_pure h
    split at h1
    · rename_i s hs
      exact ⟨_, h1, fun σ' K' hr => by rw [h2 σ' _ (fun id hid => hr id (by simpa [reads] using hid))]; simp only [hs]⟩
    · cases h1
  case slS x lo hi =>
    split at h
    · obtain ⟨n1, h, q1⟩ := optK_pure h
      obtain ⟨n2, h, q2⟩ := optK_pure h
      obtain ⟨hb, h⟩ := bif_then h
      exact ⟨_, h, fun σ' K' _ => by rw [q1, q2, hb]; rfl⟩
    · cases h
  case slL sz x lo hi =>
    split at h
    · obtain ⟨n1, h, q1⟩ := optK_pure h
      obtain ⟨n2, h, q2⟩ := optK_pure h
      obtain ⟨hb, h⟩ := bif_then h
      exact ⟨_, h, fun σ' K' _ => by rw [q1, q2, hb]; rfl⟩
    · obtain ⟨n1, h, q1⟩ := optK_pure h
      obtain ⟨n2, h, q2⟩ := optK_pure h
      obtain ⟨hb, h⟩ := bif_then h
      exact ⟨_, h, fun σ' K' _ => by rw [q1, q2, hb]; rfl⟩
    · cases h
  case sl3 sz x lo hi m =>
    split at h
    · obtain ⟨n0, h, q0⟩ := natK_pure h
      obtain ⟨n1, h, q1⟩ := optK_pure h
      obtain ⟨n2, h, q2⟩ := optK_pure h
      obtain ⟨hb, h⟩ := bif_then h
      exact ⟨_, h, fun σ' K' _ => by rw [q0, q1, q2, hb]; rfl⟩
    · cases h
  case slA n sz x lo hi =>
    split at h
    · rename_i id off he
      split at h
      · rename_i c z a b ro ho
        obtain ⟨n1, h, q1⟩ := optK_pure h
        obtain ⟨n2, h, q2⟩ := optK_pure h
        obtain ⟨hb, h⟩ := bif_then h
        refine ⟨_, h, fun σ' K' hr => ?_⟩
        rw [hr id (by simp [reads, he, rdOf]), ho]
        simp only
        rw [q1, q2, hb]; rfl
      · cases h
    · cases h
  case fa off x => split at h <;> first | (cases h; done) | exact ⟨_, h, fun σ' K' _ => rfl⟩
  case fld1 off x =>
    split at h
    · split at h
      · exact ⟨_, h, fun σ' K' _ => by simp only⟩
      · cases h
    · cases h
  case fldn off n x =>
    split at h
    · obtain ⟨hb, h⟩ := bif_then h
      exact ⟨_, h, fun σ' K' _ => by rw [hb]; rfl⟩
    · cases h
  case iaA len sz x i =>
    split at h
    · obtain ⟨n1, h, q1⟩ := natK_pure h
      obtain ⟨hb, h⟩ := bif_then h
      exact ⟨_, h, fun σ' K' _ => by rw [q1, hb]; rfl⟩
    · cases h
  case iaS sz x i =>
    split at h
    · obtain ⟨n1, h, q1⟩ := natK_pure h
      obtain ⟨hb, h⟩ := bif_then h
      exact ⟨_, h, fun σ' K' _ => by rw [q1, hb]; rfl⟩
    · cases h
  case ixA1 len sz x i =>
    split at h
    · obtain ⟨n1, h, q1⟩ := natK_pure h
      obtain ⟨hb, h⟩ := bif_then h
      split at h
      · rename_i hh; exact ⟨_, h, fun σ' K' _ => by rw [q1, hb]; simp only [cond_true, hh]⟩
      · cases h
    · cases h
  case ixAn len sz n x i =>
    split at h
    · obtain ⟨n1, h, q1⟩ := natK_pure h
      obtain ⟨hb, h⟩ := bif_then h
      exact ⟨_, h, fun σ' K' _ => by rw [q1, hb]; rfl⟩
    · cases h
  case ixS x i =>
    split at h
    · obtain ⟨n1, h, q1⟩ := natK_pure h
      obtain ⟨hb, h⟩ := bif_then h
      exact ⟨_, h, fun σ' K' _ => by rw [q1, hb]; rfl⟩
    · cases h
  case lkp kk zero ok m k =>
    split at h
    · exact ⟨_, h, fun σ' K' _ => rfl⟩
    · rename_i id he
      split at h
      · rename_i es hes
        obtain ⟨v, h1, h2⟩ := findK_pure h
        cases v with
        | none => exact ⟨_, h1, fun σ' K' hr => by rw [hr id (by simp [reads, he, rdOf]), hes]; simp only; rw [h2]⟩
        | some v => exact ⟨_, h1, fun σ' K' hr => by rw [hr id (by simp [reads, he, rdOf]), hes]; simp only; rw [h2]⟩
      · cases h
    · cases h
  case ext x i =>
    split at h
    · split at h
      · exact ⟨_, h, fun σ' K' _ => by simp only⟩
      · cases h
    · cases h
  case lenS x => split at h <;> first | (cases h; done) | exact ⟨_, h, fun σ' K' _ => rfl⟩
  case lenL x => split at h <;> first | (cases h; done) | exact ⟨_, h, fun σ' K' _ => rfl⟩
  case cap x =>
    split at h
    · obtain ⟨hb, h⟩ := bif_then h
      exact ⟨_, h, fun σ' K' _ => by rw [hb]; rfl⟩
    · exact ⟨_, h, fun σ' K' _ => rfl⟩
    · cases h
  case mn x xs =>
    split at h
    · split at h
      · exact ⟨_, h, fun σ' K' _ => by simp only⟩
      · cases h
    · cases h
  case mx x xs =>
    split at h
    · split at h
      · exact ⟨_, h, fun σ' K' _ => by simp only⟩
      · cases h
    · cases h
  case s2a n x =>
    split at h
    · obtain ⟨hb, h⟩ := bif_then h
      exact ⟨_, h, fun σ' K' _ => by rw [hb]; rfl⟩
    · cases h
end
end Ak
