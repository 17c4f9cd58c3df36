/- The evaluator in its quick form: code, calls; it is the evaluator. -/
import Derived.Test.YtpbifekamdpdjaaGreatDoorAkFast3
namespace Ak
set_option linter.unusedVariables false
set_option linter.unusedSimpArgs false
open Go

abbrev KT := T V → H → R
noncomputable def cvF (dst : Option Nat) (tm : T V) (v : V) (K : T V → R) : R := Option.rec (motive := fun _ => T V → V → (T V → R) → R) (fun tm _ K => K tm) (fun d tm v K => stT (pathOf d) tm v K) dst tm v K
theorem cvF_eq (dst : Option Nat) (tm : T V) (v : V) (K : T V → R) : cvF dst tm v K = K (cv tm dst v) := by
  cases dst with
  | none => rfl
  | some d => exact stT_eq _ _ _ _
noncomputable def gd1 (b : Bool) (j : Nat) (t : Bool) (tm : T V) (yes no : T V → R) : R :=
  Bool.rec (motive := fun _ => R) (stT (pathOf j) tm (.bool false) (Bool.rec (motive := fun _ => T V → R) yes no b)) (stT (pathOf j) tm (.bool true) (Bool.rec (motive := fun _ => T V → R) no yes b)) t
noncomputable def gdF (g : Option (Nat × Bool)) (tm : T V) (yes no : T V → R) : R :=
  Option.rec (motive := fun _ => T V → (T V → R) → (T V → R) → R) (fun tm yes _ => yes tm)
    (fun p tm yes no => Prod.rec (motive := fun _ => R) (fun j b => gtK (pathOf j) tm none fun v => gdvF v (fun t => gd1 b j t tm yes no) (no tm)) p) g tm yes no
theorem gdF_eq (g : Option (Nat × Bool)) (tm : T V) (yes no : T V → R) : gdF g tm yes no = gdK g tm yes no := by
  cases g with
  | none => rfl
  | some p =>
    obtain ⟨j, b⟩ := p
    show gtK _ _ _ _ = _
    rw [gtK_eq]
    simp only [gdK]
    cases tm.get j with
    | none => rfl
    | some v =>
      simp only [gdvF_eq]
      cases v <;> try rfl
      · rename_i t
        simp only [gd1, stT_eq]
        cases t <;> cases b <;> rfl
      · rename_i cs
        cases cs <;> rfl
noncomputable def opsF (l : List Ao) (call : Cal) (tm : T V) (σ : H) (K : KT) : R :=
  List.rec (motive := fun _ => Cal → T V → H → KT → R) (fun _ tm σ K => K tm σ)
    (fun o _ ih call tm σ K => Ao.rec (motive := fun _ => R) (fun dst op g => gdF g tm (fun tm => opF op call tm σ fun v σ => cvF dst tm v fun tm => ih call tm σ K) fun tm => cvF dst tm (.tup []) fun tm => ih call tm σ K) o) l call tm σ K
theorem opsF_eq (l : List Ao) (call : Cal) (tm : T V) (σ : H) (K : KT) : opsF l call tm σ K = opsK (hdS call) l tm σ K := by
  induction l generalizing tm σ with
  | nil => rfl
  | cons o l ih =>
    show gdF o.g tm _ _ = _
    rw [gdF_eq]
    simp only [opsK]
    congr 1
    · funext tm
      rw [opF_eq]
      congr 1
      funext v σ
      rw [cvF_eq]
      exact ih _ _
    · funext tm
      rw [cvF_eq]
      exact ih _ _

noncomputable def isInF (l : List Nat) (n : Nat) : Bool := List.rec (motive := fun _ => Bool) false (fun a _ ih => orB (Nat.beq a n) ih) l
theorem isInF_eq (l : List Nat) (n : Nat) : isInF l n = isIn l n := by
  induction l with
  | nil => rfl
  | cons a l ih => show orB _ (isInF l n) = _; rw [orB_eq, ih]; rfl
noncomputable def notInF (l : List Nat) (n : Nat) : Bool := List.rec (motive := fun _ => Bool) true (fun a _ ih => andB (notB (Nat.beq a n)) ih) l
theorem notInF_eq (l : List Nat) (n : Nat) : notInF l n = notIn l n := by
  induction l with
  | nil => rfl
  | cons a l ih => show andB _ (notInF l n) = _; rw [andB_eq, notB_eq, ih]; rfl
noncomputable def allNotInF (log l : List Nat) : Bool := List.rec (motive := fun _ => Bool) true (fun a _ ih => andB (notInF log a) ih) l
theorem allNotInF_eq (log l : List Nat) : allNotInF log l = allNotIn log l := by
  induction l with
  | nil => rfl
  | cons a l ih => show andB _ (allNotInF log l) = _; rw [andB_eq, notInF_eq, ih]; rfl
noncomputable def allLtF (l : List Nat) (n : Nat) : Bool := List.rec (motive := fun _ => Bool) true (fun a _ ih => andB (Nat.ble (Nat.succ a) n) ih) l
theorem allLtF_eq (l : List Nat) (n : Nat) : allLtF l n = allLt l n := by
  induction l with
  | nil => rfl
  | cons a l ih => show andB _ (allLtF l n) = _; rw [andB_eq, ih]; rfl
noncomputable def okLdsF (pos : Nat) (log : List Nat) (l : List (List Nat × List Nat)) : Bool :=
  List.rec (motive := fun _ => Bool) true (fun p _ ih => Prod.rec (motive := fun _ => Bool) (fun ids un => andB (orB (notB (isInF un pos)) (allNotInF log ids)) ih) p) l
theorem okLdsF_eq (pos : Nat) (log : List Nat) (l : List (List Nat × List Nat)) : okLdsF pos log l = okLds pos log l := by
  induction l with
  | nil => rfl
  | cons p l ih =>
    obtain ⟨ids, un⟩ := p
    show andB (orB (notB (isInF un pos)) (allNotInF log ids)) (okLdsF pos log l) = _
    rw [andB_eq, orB_eq, notB_eq, isInF_eq, allNotInF_eq, ih]
    rfl
noncomputable def rd1 (x : X) (tm : T V) (K : List Nat → R) : R := evF x tm fun v => rdF v K
theorem rd1_eq (x : X) (tm : T V) (K : List Nat → R) : rd1 x tm K = K (rdOf (ev tm x)) := by
  unfold rd1 rdOf
  rw [evF_eq, rdF_eq]
  cases ev tm x <;> rfl
noncomputable def readsF (o : Ap) (tm : T V) (K : List Nat → R) : R :=
  Ap.rec (motive := fun _ => T V → (List Nat → R) → R) (mv := fun _ _ K => K []) (pick := fun _ _ _ _ K => K []) (alloc := fun _ _ K => K []) (box := fun _ _ K => K []) (build := fun _ _ _ K => K []) (bsl := fun _ _ _ _ K => K [])
    (ld1 := fun a tm K => rd1 a tm K) (ldn := fun _ a tm K => rd1 a tm K) (st := fun _ _ _ _ K => K []) (nilc := fun _ _ K => K []) (bin := fun _ _ _ _ K => K []) (eqn := fun _ _ _ _ _ K => K []) (eqa := fun _ _ _ _ _ K => K [])
    (not := fun _ _ K => K []) (neg := fun _ _ K => K []) (cvi := fun _ _ _ K => K []) (cvs := fun _ _ K => K []) (s2b := fun _ _ K => K []) (b2s := fun x tm K => rd1 x tm K) (mkI := fun _ _ _ K => K []) (mkF := fun _ _ _ _ K => K [])
    (mkM := fun _ K => K []) (mkMh := fun _ _ K => K []) (mkS := fun _ _ _ _ _ K => K []) (slS := fun _ _ _ _ K => K []) (slL := fun _ _ _ _ _ K => K []) (sl3 := fun _ _ _ _ _ _ K => K []) (slA := fun _ _ x _ _ tm K => rd1 x tm K)
    (fa := fun _ _ _ K => K []) (fld1 := fun _ _ _ K => K []) (fldn := fun _ _ _ _ K => K []) (iaA := fun _ _ _ _ _ K => K []) (iaS := fun _ _ _ _ K => K []) (ixA1 := fun _ _ _ _ _ K => K []) (ixAn := fun _ _ _ _ _ _ K => K [])
    (ixS := fun _ _ _ K => K []) (lkp := fun _ _ _ m _ tm K => rd1 m tm K) (mup := fun _ _ _ _ _ K => K []) (del := fun _ _ _ _ K => K []) (ext := fun _ _ _ K => K []) (lenS := fun _ _ K => K []) (lenL := fun _ _ K => K [])
    (lenC := fun _ _ K => K []) (cap := fun _ _ K => K []) (mn := fun _ _ _ K => K []) (mx := fun _ _ _ K => K []) (app := fun _ _ _ _ _ K => K []) (appS := fun _ _ _ K => K []) (appZ := fun _ _ _ _ _ K => K [])
    (cpy := fun _ _ _ _ K => K []) (cpyS := fun _ _ _ K => K []) (clrM := fun _ _ K => K []) (clrS := fun _ _ _ K => K []) (s2a := fun _ _ _ K => K []) (call := fun _ _ _ K => K []) (calv := fun _ _ _ K => K []) (bad := fun _ K => K []) o tm K
theorem readsF_eq (o : Ap) (tm : T V) (K : List Nat → R) : readsF o tm K = K (reads o (ev tm)) := by
  cases o <;> first | rfl | exact rd1_eq _ _ _

noncomputable def drwF (l : List (Ao × Bool × List Nat)) (pos : Nat) (lds : List (List Nat × List Nat)) (call : Cal) (tm : T V) (σ : H) (K : KT) : R :=
  List.rec (motive := fun _ => Nat → List (List Nat × List Nat) → Cal → T V → H → KT → R) (fun _ _ _ tm σ K => K tm σ)
    (fun x _ ih pos lds call tm σ K => Prod.rec (motive := fun _ => R) (fun o y => Prod.rec (motive := fun _ => R) (fun ef un => Ao.rec (motive := fun _ => R) (fun dst op g =>
      gdF g tm
        (fun tm => Bool.rec (motive := fun _ => R)
          (readsF op tm fun rs => H.rec (motive := fun _ => R) (fun nx _ _ => ckB (allLtF rs nx) (opF op call tm σ fun v σ => cvF dst tm v fun tm => ih (Nat.succ pos) ((rs, un) :: lds) call tm σ K)) σ)
          (H.rec (motive := fun _ => R) (fun nx obs log => opF op call tm ⟨nx, obs, []⟩ fun v σ => H.rec (motive := fun _ => R) (fun nx obs l => ckB (okLdsF pos l lds) (cvF dst tm v fun tm => ih (Nat.succ pos) lds call tm ⟨nx, obs, l ++ log⟩ K)) σ) σ)
          ef)
        (fun tm => cvF dst tm (.tup []) fun tm => ih (Nat.succ pos) lds call tm σ K)) o) y) x) l pos lds call tm σ K
theorem drwF_eq (l : List (Ao × Bool × List Nat)) (pos : Nat) (lds : List (List Nat × List Nat)) (call : Cal) (tm : T V) (σ : H) (K : KT) : drwF l pos lds call tm σ K = drwK (hdS call) l pos lds tm σ K := by
  induction l generalizing pos lds tm σ with
  | nil => rfl
  | cons x l ih =>
    obtain ⟨o, ef, un⟩ := x
    show gdF o.g tm _ _ = _
    rw [gdF_eq]
    simp only [drwK]
    congr 1
    · funext tm
      cases ef with
      | false =>
        show readsF o.op tm _ = _
        rw [readsF_eq]
        cases σ with
        | mk nx obs log =>
          show ckB _ _ = _
          rw [ckB_eq, allLtF_eq]
          simp only [cond_false]
          congr 1
          rw [opF_eq]
          congr 1
          funext v σ
          rw [cvF_eq]
          exact ih _ _ _ _
      | true =>
        cases σ with
        | mk nx obs log =>
          show opF _ _ _ _ _ = _
          rw [opF_eq]
          simp only [cond_true]
          congr 1
          funext v σ
          cases σ with
          | mk nx obs l2 =>
            show ckB _ _ = _
            rw [ckB_eq, okLdsF_eq, cvF_eq]
            congr 1
            exact ih _ _ _ _
    · funext tm
      rw [cvF_eq]
      exact ih _ _ _ _

abbrev KE := Ex → T V → H → R
noncomputable def exN (e : Ex) (tm : T V) (σ : H) (go : R) (K : KE) : R := Ex.rec (motive := fun _ => T V → H → R → KE → R) (fun _ _ go _ => go) (fun id tm σ _ K => K (.exit id) tm σ) (fun tm σ _ K => K .ret tm σ) e tm σ go K
noncomputable def loopF (body : T V → H → KE → R) (n : Nat) (tm : T V) (σ : H) (K : KE) : R :=
  Nat.rec (motive := fun _ => T V → H → KE → R) (fun _ _ _ => none) (fun _ ih tm σ K => body tm σ fun e tm σ => exN e tm σ (ih tm σ K) K) n tm σ K
theorem loopF_eq (body : T V → H → KE → R) (n : Nat) (tm : T V) (σ : H) (K : KE) : loopF body n tm σ K = loopK body n tm σ K := by
  induction n generalizing tm σ with
  | zero => rfl
  | succ n ih =>
    show body tm σ _ = _
    simp only [loopK]
    congr 1
    funext e tm σ
    cases e <;> first | rfl | exact ih _ _
noncomputable def exI (e : Ex) (id : Nat) (K : Ex → R) : R := Ex.rec (motive := fun _ => Nat → (Ex → R) → R) (fun _ K => K .normal) (fun j id K => Bool.rec (motive := fun _ => R) (K (.exit j)) (K .normal) (Nat.beq j id)) (fun _ K => K .ret) e id K
theorem exI_eq (e : Ex) (id : Nat) (K : Ex → R) : exI e id K = K (e.inBlk id) := by
  cases e <;> try rfl
  rename_i j
  show Bool.rec (motive := fun _ => R) _ _ (Nat.beq j id) = _
  simp only [Ex.inBlk]
  cases Nat.beq j id <;> rfl
noncomputable def rngE (r : Lr) (i : Nat) (tm : T V) (σ : H) (K : KE) : R :=
  Lr.rec (motive := fun _ => R) (fun st pend rtm ps asn body => Ls.rec (motive := fun _ => R → R) (fun r => r) (fun _ => none) (fun r => r) (fun r => r) st
    (putF σ i (.loop ⟨.exhausted, pend, rtm, ps, asn, body⟩) fun σ => Option.rec (motive := fun _ => R) (K .normal tm σ) (fun e => K e tm σ) pend)) r
noncomputable def rngF (call : Cal) (f : V) (ps : List Nat) (asn body : A) (tm : T V) (σ : H) (K : KE) : R :=
  fnF f (fun fid xs cap => H.rec (motive := fun _ => R) (fun nx _ _ => catF xs (V.yld nx :: cap) fun args => pushF σ (.loop ⟨.ready, none, tm, ps, asn, body⟩) fun i σ => call (.rf fid) args σ fun _ σ => getF σ i fun o => loopO o fun r => rngE r i tm σ K) σ) fun _ => none
theorem rngF_eq (hd : Hd Unit) (f : V) (ps : List Nat) (asn body : A) (tm : T V) (σ : H) (K : KE) : rngF hd.call f ps asn body tm σ K = rngK hd f ps asn body tm σ K := by
  unfold rngF rngK
  rw [fnF_eq]
  cases f <;> try rfl
  rename_i fid xs cap
  cases σ with
  | mk nx obs log =>
    show catF _ _ _ = _
    rw [catF_eq, pushF_eq]
    have e : xs ++ V.yld nx :: cap = xs ++ [V.yld nx] ++ cap := by simp
    rw [e]
    simp only
    congr 1
    funext _ σ'
    rw [getF_eq]
    cases σ'.get nx with
    | none => rfl
    | some o =>
      simp only [loopO_eq]
      cases o <;> try rfl
      rename_i r
      obtain ⟨st, pend, rtm, ps, asn, body⟩ := r
      cases st <;> cases pend <;> first | rfl | (show putF _ _ _ _ = _; rw [putF_eq])

noncomputable def codeF (a : A) (call : Cal) (lf : Nat) (tm : T V) (σ : H) (K : KE) : R :=
  A.rec (motive := fun _ => Cal → Nat → T V → H → KE → R)
    (skip := fun _ _ tm σ K => K .normal tm σ)
    (reg := fun ops call _ tm σ K => opsF ops call tm σ (K .normal))
    (drw := fun ops call _ tm σ K => drwF ops 0 [] call tm σ (K .normal))
    (seq := fun _ _ iha ihb call lf tm σ K => iha call lf tm σ fun e tm σ => exN e tm σ (ihb call lf tm σ K) K)
    (cond := fun c _ _ iha ihb call lf tm σ K => evF c tm fun v => boolF v fun t => Bool.rec (motive := fun _ => Cal → Nat → T V → H → KE → R) ihb iha t call lf tm σ K)
    (blk := fun id _ iha call lf tm σ K => iha call lf tm σ fun e tm σ => exI e id fun e => K e tm σ)
    (loop := fun _ iha call lf tm σ K => loopF (iha call lf) lf tm σ K)
    (rng := fun f ps asn body _ _ call _ tm σ K => evF f tm fun f => rngF call f ps asn body tm σ K)
    (exit := fun id _ _ tm σ K => K (.exit id) tm σ)
    (ret := fun _ _ tm σ K => K .ret tm σ)
    (sum := fun _ _ iha call lf tm σ K => iha call lf tm σ K)
    (bad := fun _ _ _ _ _ => none) a call lf tm σ K
def hdL (call : Cal) (lf : Nat) : Hd Unit := { call := call, sum := fun _ _ _ _ => none, fuel := lf }
theorem opK_hd (hd hd' : Hd Unit) (h : hd.call = hd'.call) (o : Ap) (e : X → V) (σ : H) (K : V → H → R) : opK hd o e σ K = opK hd' o e σ K := by
  cases o <;> try rfl
  · simp only [opK, h]
  · simp only [opK, calvK, h]
theorem opsK_hd (hd hd' : Hd Unit) (h : hd.call = hd'.call) (l : List Ao) (tm : T V) (σ : H) (K : KT) : opsK hd l tm σ K = opsK hd' l tm σ K := by
  induction l generalizing tm σ with
  | nil => rfl
  | cons o l ih => simp only [opsK, ih, opK_hd hd hd' h]
theorem drwK_hd (hd hd' : Hd Unit) (h : hd.call = hd'.call) (l : List (Ao × Bool × List Nat)) (pos : Nat) (lds : List (List Nat × List Nat)) (tm : T V) (σ : H) (K : KT) : drwK hd l pos lds tm σ K = drwK hd' l pos lds tm σ K := by
  induction l generalizing tm σ pos lds with
  | nil => rfl
  | cons o l ih => obtain ⟨o, ef, un⟩ := o; simp only [drwK, ih, opK_hd hd hd' h]
theorem codeF_eq (a : A) (call : Cal) (lf : Nat) (tm : T V) (σ : H) (K : KE) : codeF a call lf tm σ K = codeK (hdL call lf) a tm σ K := by
  induction a generalizing tm σ K with
  | skip => rfl
  | reg ops => exact (opsF_eq ops call tm σ (K .normal)).trans (opsK_hd (hdS call) (hdL call lf) rfl ops tm σ (K .normal))
  | drw ops => exact (drwF_eq ops 0 [] call tm σ (K .normal)).trans (drwK_hd (hdS call) (hdL call lf) rfl ops 0 [] tm σ (K .normal))
  | seq a b iha ihb =>
    refine (iha _ _ _).trans ?_
    simp only [codeK]
    congr 1
    funext e tm σ
    cases e <;> first | rfl | exact ihb _ _ _
  | cond c a b iha ihb =>
    show evF c tm _ = _
    rw [evF_eq, boolF_eq]
    simp only [codeK]
    cases ev tm c <;> try rfl
    rename_i t
    cases t with
    | true => exact iha _ _ _
    | false => exact ihb _ _ _
  | blk id a iha =>
    refine (iha _ _ _).trans ?_
    simp only [codeK]
    congr 1
    funext e tm σ
    exact exI_eq _ _ _
  | loop a iha =>
    show loopF _ _ _ _ _ = _
    rw [loopF_eq]
    simp only [codeK]
    congr 1
    funext tm σ K
    exact iha _ _ _
  | rng f ps asn body _ _ =>
    show evF f tm _ = _
    rw [evF_eq]
    exact rngF_eq (hdL call lf) _ _ _ _ _ _ _
  | exit id => rfl
  | ret => rfl
  | sum k a iha =>
    refine (iha _ _ _).trans ?_
    simp only [codeK]
    rfl
  | bad => rfl

noncomputable def resF (tm : T V) (σ : H) (l : List Rv) (K : List V → R) : R :=
  List.rec (motive := fun _ => (List V → R) → R) (fun K => K [])
    (fun r _ ih K => Rv.rec (motive := fun _ => R) (fun i => evF (.t i) tm fun v => ih fun vs => K (v :: vs))
      (fun i => evF (.t i) tm fun p => ptrF p fun id off => ldF σ id off fun v => ih fun vs => K (v :: vs))
      (fun i n => evF (.t i) tm fun p => ptrF p fun id off => ldnF σ id n off fun cs => ih fun vs => K (.agg cs :: vs)) r) l K
theorem resF_eq (tm : T V) (σ : H) (l : List Rv) (K : List V → R) : resF tm σ l K = resK tm σ l K := by
  induction l generalizing K with
  | nil => rfl
  | cons r l ih =>
    cases r with
    | t i =>
      have step : resF tm σ (.t i :: l) K = evF (.t i) tm fun v => resF tm σ l fun vs => K (v :: vs) := rfl
      rw [step, evF_eq]
      exact ih _
    | c1 i =>
      have step : resF tm σ (.c1 i :: l) K = evF (.t i) tm fun p => ptrF p fun id off => ldF σ id off fun v => resF tm σ l fun vs => K (v :: vs) := rfl
      rw [step, evF_eq, ptrF_eq]
      simp only [resK]
      cases ev tm (.t i) <;> try rfl
      simp only [ldF_eq]
      congr 1
      funext v
      exact ih _
    | cn i n =>
      have step : resF tm σ (.cn i n :: l) K = evF (.t i) tm fun p => ptrF p fun id off => ldnF σ id n off fun cs => resF tm σ l fun vs => K (.agg cs :: vs) := rfl
      rw [step, evF_eq, ptrF_eq]
      simp only [resK]
      cases ev tm (.t i) <;> try rfl
      simp only [ldnF_eq]
      congr 1
      funext v
      exact ih _
noncomputable def tupG (l : List V) : V := List.rec (motive := fun _ => V) (.tup []) (fun v l _ => List.rec (motive := fun _ => V) v (fun w l _ => .tup (v :: w :: l)) l) l
theorem tupG_eq (l : List V) : tupG l = tupF l := by
  cases l with
  | nil => rfl
  | cons v l => cases l <;> rfl
noncomputable def tupK (l : List V) (K : V → R) : R := List.rec (motive := fun _ => R) (K (.tup [])) (fun v l _ => List.rec (motive := fun _ => R) (K v) (fun w l _ => K (.tup (v :: w :: l))) l) l
theorem tupK_eq (l : List V) (K : V → R) : tupK l K = K (tupF l) := by
  cases l with
  | nil => rfl
  | cons v l => cases l <;> rfl
noncomputable def bodyF (f : Af) (call : Cal) (lf : Nat) (args : List V) (σ : H) (K : V → H → R) : R :=
  Af.rec (motive := fun _ => R) (fun code nt res => ckB (Nat.ble (lenF args) nt) (tofP args 0 .lf fun tm => codeF code call lf tm σ fun e tm σ =>
    Ex.rec (motive := fun _ => (List V → R) → R) (fun K => resF tm σ res K) (fun _ _ => none) (fun K => resF tm σ res K) e fun vs => tupK vs fun v => K v σ)) f
theorem bodyF_eq (f : Af) (call : Cal) (lf : Nat) (args : List V) (σ : H) (K : V → H → R) : bodyF f call lf args σ K = bodyK (hdL call lf) f args σ K := by
  obtain ⟨code, nt, res⟩ := f
  show ckB _ _ = _
  rw [ckB_eq, tofP_tof, codeF_eq, lenF_eq]
  unfold bodyK
  show (bif leB args.length nt then _ else none) = _
  congr 1
  congr 1
  funext e tm σ
  cases e <;> first | rfl | (show resF _ _ _ _ = _; rw [resF_eq]; simp only [tupK_eq])
noncomputable def setPsF (ps : List Nat) (vs : List V) (tm : T V) (K : T V → R) : R :=
  List.rec (motive := fun _ => List V → T V → (T V → R) → R) (fun vs tm K => List.rec (motive := fun _ => R) (K tm) (fun _ _ _ => none) vs)
    (fun p _ ih vs tm K => List.rec (motive := fun _ => R) none (fun v vs _ => stT (pathOf p) tm v fun tm => ih vs tm K) vs) ps vs tm K
theorem setPsF_eq (ps : List Nat) (vs : List V) (tm : T V) (K : T V → R) : setPsF ps vs tm K = (match setPs ps vs tm with | none => none | some tm => K tm) := by
  induction ps generalizing vs tm with
  | nil => cases vs <;> rfl
  | cons p ps ih =>
    cases vs with
    | nil => rfl
    | cons v vs =>
      show stT _ _ _ _ = _
      rw [stT_eq]
      exact ih _ _
noncomputable def roundE (l : Nat) (σ : H) (e : Ex) (K : V → H → R) : R :=
  getF σ l fun o => loopO o fun r => Lr.rec (motive := fun _ => R) (fun _ _ tm ps asn body => Ex.rec (motive := fun _ => R)
    (putF σ l (.loop ⟨.ready, none, tm, ps, asn, body⟩) fun σ => K (.bool true) σ)
    (fun id => putF σ l (.loop ⟨.done, some (.exit id), tm, ps, asn, body⟩) fun σ => K (.bool false) σ)
    (putF σ l (.loop ⟨.done, some .ret, tm, ps, asn, body⟩) fun σ => K (.bool false) σ) e) r
noncomputable def roundB (call : Cal) (lf : Nat) (l : Nat) (tm : T V) (σ : H) (body : A) (K : V → H → R) : R :=
  getF σ l fun o => loopO o fun r2 => Lr.rec (motive := fun _ => R) (fun st pend tm2 ps asn body2 => Ls.rec (motive := fun _ => R → R) (fun r => r) (fun _ => none) (fun _ => none) (fun _ => none) st
    (putF σ l (.loop ⟨.busy, pend, tm2, ps, asn, body2⟩) fun σ => codeF body call lf tm σ fun e _ σ => roundE l σ e K)) r2
noncomputable def roundF (call : Cal) (lf : Nat) (l : Nat) (args : List V) (σ : H) (K : V → H → R) : R :=
  getF σ l fun o => loopO o fun r => Lr.rec (motive := fun _ => R) (fun _ _ rtm ps asn body => setPsF ps args rtm fun tm => codeF asn call lf tm σ fun e tm σ =>
    Ex.rec (motive := fun _ => R → R) (fun r => r) (fun _ _ => none) (fun _ => none) e (roundB call lf l tm σ body K)) r
theorem roundE_eq (l : Nat) (σ : H) (e : Ex) (K : V → H → R) : roundE l σ e K = (match σ.get l with
    | some (.loop r) => match e with
      | .normal => K (.bool true) (σ.put l (.loop { r with st := .ready, pend := none }))
      | e => K (.bool false) (σ.put l (.loop { r with st := .done, pend := some e }))
    | _ => none) := by
  unfold roundE
  rw [getF_eq]
  cases σ.get l with
  | none => rfl
  | some o =>
    simp only [loopO_eq]
    cases o <;> try rfl
    rename_i r
    obtain ⟨st, pend, rtm, ps, asn, body⟩ := r
    cases e <;> (show putF _ _ _ _ = _; rw [putF_eq])
theorem roundB_eq (call : Cal) (lf : Nat) (l : Nat) (tm : T V) (σ : H) (body : A) (K : V → H → R) : roundB call lf l tm σ body K = (match σ.get l with
    | some (.loop r2) => match r2.st with
      | .ready => codeK (hdL call lf) body tm (σ.put l (.loop { r2 with st := .busy })) fun e _ σ => (match σ.get l with
        | some (.loop r) => match e with
          | .normal => K (.bool true) (σ.put l (.loop { r with st := .ready, pend := none }))
          | e => K (.bool false) (σ.put l (.loop { r with st := .done, pend := some e }))
        | _ => none)
      | _ => none
    | _ => none) := by
  unfold roundB
  rw [getF_eq]
  cases σ.get l with
  | none => rfl
  | some o =>
    simp only [loopO_eq]
    cases o <;> try rfl
    rename_i r
    obtain ⟨st, pend, rtm, ps, asn, body2⟩ := r
    cases st <;> try rfl
    show putF _ _ _ _ = _
    rw [putF_eq, codeF_eq]
    simp only [roundE_eq]
theorem roundF_eq (call : Cal) (lf : Nat) (l : Nat) (args : List V) (σ : H) (K : V → H → R) : roundF call lf l args σ K = roundK (hdL call lf) l args σ K := by
  unfold roundF roundK
  rw [getF_eq]
  cases σ.get l with
  | none => rfl
  | some o =>
    simp only [loopO_eq]
    cases o <;> try rfl
    rename_i r
    obtain ⟨st, pend, rtm, ps, asn, body⟩ := r
    show setPsF _ _ _ _ = _
    rw [setPsF_eq]
    simp only
    cases setPs ps args rtm with
    | none => rfl
    | some tm =>
      simp only
      rw [codeF_eq]
      congr 1
      funext e tm σ
      cases e <;> first | rfl | exact roundB_eq _ _ _ _ _ _ _

abbrev Sm := List V → H → (V → H → R) → R
noncomputable def callF (F : Nat → Option Af) (S : Nat → Option Sm) (lf : Nat) (n : Nat) (tg : Tg) (args : List V) (σ : H) (K : V → H → R) : R :=
  Nat.rec (motive := fun _ => Tg → List V → H → (V → H → R) → R) (fun _ _ _ _ => none)
    (fun _ ih tg args σ K => Tg.rec (motive := fun _ => R)
      (fun f => Option.rec (motive := fun _ => R) (someF (F f) fun a => bodyF a ih lf args σ K) (fun G => G args σ K) (S f))
      (fun l => roundF ih lf l args σ K)
      (fun f => someF (F f) fun a => bodyF a ih lf args σ K) tg) n tg args σ K
theorem callF_eq (F : Nat → Option Af) (S : Nat → Option Sm) (lf : Nat) (n : Nat) (tg : Tg) (args : List V) (σ : H) (K : V → H → R) : callF F S lf n tg args σ K = callN F S (fun _ _ _ _ => none) lf n tg args σ K := by
  induction n generalizing tg args σ K with
  | zero => rfl
  | succ n ih =>
    have e : callF F S lf n = callN F S (fun _ _ _ _ => none) lf n := by funext tg args σ K; exact ih _ _ _ _
    cases tg with
    | fn f =>
      simp only [callN]
      show Option.rec (motive := fun _ => R) (someF (F f) fun a => bodyF a (callF F S lf n) lf args σ K) (fun G => G args σ K) (S f) = _
      cases S f with
      | some G => rfl
      | none =>
        simp only [someF_eq]
        cases F f with
        | none => rfl
        | some a => simp only [bodyF_eq, e]; rfl
    | yld l =>
      simp only [callN]
      show roundF (callF F S lf n) lf l args σ K = _
      rw [roundF_eq, e]
      rfl
    | rf f =>
      simp only [callN]
      show someF (F f) (fun a => bodyF a (callF F S lf n) lf args σ K) = _
      rw [someF_eq]
      cases F f with
      | none => rfl
      | some a => simp only [bodyF_eq, e]; rfl
#print axioms callF_eq
end Ak
