/- The evaluator in its quick form: operations, code, calls. -/
import Derived.Test.YtpbifekamdpdjaaGreatDoorAkFast2
namespace Ak
set_option linter.unusedVariables false
set_option linter.unusedSimpArgs false
open Go

abbrev Fo := Cal → T V → H → (V → H → R) → R
def hdS (call : Cal) : Hd Unit := { call := call, sum := fun _ _ _ _ => none, fuel := 0 }
noncomputable def o_slow (o : Ap) : Fo := fun call tm σ K => opK (hdS call) o (ev tm) σ K
noncomputable def optF (d : Nat) (tm : T V) (x : Option X) (K : Nat → R) : R := Option.rec (motive := fun _ => R) (K d) (fun x => evF x tm fun v => natF v K) x
theorem optF_eq (d : Nat) (tm : T V) (x : Option X) (K : Nat → R) : optF d tm x K = optK d (ev tm) x K := by
  cases x with
  | none => rfl
  | some x => show evF x tm _ = _; rw [evF_eq, natF_eq]; rfl
noncomputable def newF (cs : List V) (n : Nat) (K : Nat → H → R) (σ : H) : R := tofP cs 0 .lf fun t => fN n fun n => pushF σ (.cells t [] 0 n false) K
theorem newF_eq (cs : List V) (n : Nat) (K : Nat → H → R) (σ : H) : newF cs n K σ = K σ.next (σ.push (.cells (tof cs) [] 0 n false)) := by
  unfold newF; rw [tofP_tof, fN_eq, pushF_eq]
noncomputable def calvF (call : Cal) (x : V) (args : List V) (σ : H) (K : V → H → R) : R :=
  fnF x (fun f xs cap => catF args cap fun l => catF xs l fun l => call (.fn f) l σ K) fun l => call (.yld l) args σ K
theorem calvF_eq (call : Cal) (x : V) (args : List V) (σ : H) (K : V → H → R) : calvF call x args σ K = calvK (hdS call) x args σ K := by
  unfold calvF calvK
  rw [fnF_eq]
  cases x <;> try rfl
  simp only [catF_eq, List.append_assoc]
  rfl

noncomputable def o_mv (x : X) : Fo := fun _ tm σ K => evF x tm fun v => K v σ
noncomputable def o_pick (c a b : X) : Fo := fun _ tm σ K => evF c tm fun c => boolF c fun t => Bool.rec (motive := fun _ => R) (evF b tm fun v => K v σ) (evF a tm fun v => K v σ) t
noncomputable def o_alloc (zs : List V) : Fo := fun _ _ σ K => ckB (allOneF zs) (newF zs (lenF zs) (fun i σ => K (.ptr i 0) σ) σ)
noncomputable def o_box (x : X) : Fo := fun _ tm σ K => evF x tm fun v => cellsF v v fun cs => ckB (allOneF cs) (newF cs (lenF cs) (fun i σ => K (.ptr i 0) σ) σ)
noncomputable def o_build (zs : List V) (ps : List (Nat × Nat × X)) : Fo := fun _ tm σ K => buildP tm ps zs fun cs => K (.agg cs) σ
noncomputable def psF (n : Nat) (ps : List (Nat × X)) : List (Nat × Nat × X) := List.rec (motive := fun _ => List (Nat × Nat × X)) [] (fun p _ ih => (Nat.mul p.1 n, n, p.2) :: ih) ps
theorem psF_eq (n : Nat) (ps : List (Nat × X)) : psF n ps = ps.map fun (i, x) => (i * n, n, x) := by
  induction ps with
  | nil => rfl
  | cons p ps ih => show _ :: psF n ps = _; rw [ih]; rfl
noncomputable def o_bsl (zs : List V) (len : Nat) (ps : List (Nat × X)) : Fo := fun _ tm σ K =>
  fN (lenF zs) fun n => zcellsF zs len fun z => buildP tm (psF n ps) z fun cs => ckB (allOneF cs) (newF cs (Nat.mul len n) (fun i σ => K (.slc i 0 n len len true) σ) σ)
noncomputable def o_ld1 (a : X) : Fo := fun _ tm σ K => evF a tm fun v => ptrF v fun id off => ldF σ id off fun v => K v σ
noncomputable def o_ldn (n : Nat) (a : X) : Fo := fun _ tm σ K => evF a tm fun v => ptrF v fun id off => ldnF σ id n off fun cs => K (.agg cs) σ
noncomputable def o_st (n : Nat) (a v : X) : Fo := fun _ tm σ K => evF a tm fun p => ptrF p fun id off => evF v tm fun v => cellsF v v fun cs => ckB (Nat.beq (lenF cs) n) (stnF σ id off cs fun σ => K .undef σ)
noncomputable def o_nilc (x : X) : Fo := fun _ tm σ K => evF x tm fun v => nilcF v (K v σ)
noncomputable def o_bin (op : BinOp) (x y : X) : Fo := fun _ tm σ K => evF x tm fun x => evF y tm fun y => binF op x y fun v => K v σ
noncomputable def o_eqn (cls : Nat) (neg : Bool) (x y : X) : Fo := fun _ tm σ K => evF x tm fun x => evF y tm fun y => eq1F cls x y fun b => fB (neB b neg) fun b => K (.bool b) σ
noncomputable def o_eqa (ks : List Nat) (neg : Bool) (x y : X) : Fo := fun _ tm σ K => evF x tm fun x => evF y tm fun y => aggF x fun a => aggF y fun b => eqlsF ks a b fun t => fB (neB t neg) fun b => K (.bool b) σ
noncomputable def o_not (x : X) : Fo := fun _ tm σ K => evF x tm fun v => boolF v fun b => Bool.rec (motive := fun _ => R) (K (.bool true) σ) (K (.bool false) σ) b
noncomputable def o_neg (x : X) : Fo := fun _ tm σ K => evF x tm fun v => intF v fun k n => slowI k (wrapF k (0 - n)) fun v => K v σ
noncomputable def cviF (k : IntKind) (n : Int) (K : V → R) : R := Int.rec (motive := fun _ => (V → R) → R) (fun m K => wrapN k m (intK k K)) (fun m K => slowI k (wrapF k (.negSucc m)) K) n K
theorem cviF_eq (k : IntKind) (n : Int) (K : V → R) : cviF k n K = K (.int k (wrapF k n)) := by
  cases n with
  | ofNat m => exact wrapN_eq k m (intK k K)
  | negSucc m => exact slowI_eq _ _ _
noncomputable def o_cvi (k : IntKind) (x : X) : Fo := fun _ tm σ K => evF x tm fun v => intF v fun _ n => cviF k n fun v => K v σ
noncomputable def o_cvs (x : X) : Fo := fun _ tm σ K => evF x tm fun v => strF v fun s => K (.str s) σ
noncomputable def bytesP (s : List Nat) (K : List V → R) : R := List.rec (motive := fun _ => (List V → R) → R) (fun K => K []) (fun b _ ih K => ih fun r => K (.int .u8 (.ofNat b) :: r)) s K
theorem bytesP_eq (s : List Nat) (K : List V → R) : bytesP s K = K (bytesOf s) := by
  induction s generalizing K with
  | nil => rfl
  | cons b s ih => exact ih _
noncomputable def o_s2b (x : X) : Fo := fun _ tm σ K => evF x tm fun v => strF v fun s => bytesP s fun cs => fN (lenF s) fun n => newF cs n (fun i σ => K (.slc i 0 1 n n false) σ) σ
noncomputable def o_mkI (t : TypeId) (x : X) : Fo := fun _ tm σ K => evF x tm fun v => K (.ifc t v) σ
noncomputable def o_mkF (f : FuncId) (xs cap : List X) : Fo := fun _ tm σ K => evsF xs tm fun xs => evsF cap tm fun cap => K (.fn f xs cap) σ
noncomputable def o_mkM : Fo := fun _ _ σ K => pushF σ (.map []) fun i σ => K (.map i) σ
noncomputable def o_mkMh (x : X) : Fo := fun _ tm σ K => evF x tm fun v => intF v fun _ _ => pushF σ (.map []) fun i σ => K (.map i) σ
noncomputable def o_mkS (zs : List V) (bytes : Nat) (l c : X) : Fo := fun _ tm σ K => evF l tm fun l => natF l fun n => evF c tm fun c => natF c fun m =>
  ckB (Nat.ble n m) (ckB (Nat.ble (Nat.mul m bytes) 140737488355328) (ckB (allOneF zs) (fN (lenF zs) fun z => ckB (Nat.ble 1 z) (fN (Nat.mul m z) fun hi => pushF σ (.cells .lf zs 0 hi false) fun i σ => K (.slc i 0 z n m true) σ))))
noncomputable def o_slS (x : X) (lo hi : Option X) : Fo := fun _ tm σ K => evF x tm fun v => strF v fun s => fN (lenF s) fun n => optF n tm hi fun h => optF 0 tm lo fun l =>
  ckB (Nat.ble l h) (ckB (Nat.ble h n) (takeF s h fun s => fL (dropF s l) fun s => K (.str s) σ))
noncomputable def o_slL (sz : Nat) (x : X) (lo hi : Option X) : Fo := fun _ tm σ K => evF x tm fun v => slcF v
  (optF 0 tm hi fun h => optF 0 tm lo fun l => ckB (Nat.beq l 0) (ckB (Nat.beq h 0) (K .nils σ)))
  fun id off s len mn ex => optF len tm hi fun h => optF 0 tm lo fun l => ckB (Nat.ble l h) (ckB (Nat.ble h mn) (ckB (Nat.beq s sz) (fN (Nat.add off (Nat.mul l sz)) fun o => fN (Nat.sub h l) fun n => fN (Nat.sub mn l) fun m => K (.slc id o sz n m ex) σ)))
noncomputable def o_fa (off : Nat) (x : X) : Fo := fun _ tm σ K => evF x tm fun v => ptrF v fun id o => fN (Nat.add o off) fun o => K (.ptr id o) σ
noncomputable def o_fld1 (off : Nat) (x : X) : Fo := fun _ tm σ K => evF x tm fun v => aggF v fun cs => nthF cs off fun v => K v σ
noncomputable def o_fldn (off n : Nat) (x : X) : Fo := fun _ tm σ K => evF x tm fun v => aggF v fun cs => ckB (Nat.ble (Nat.add off n) (lenF cs)) (takeF (dropF cs off) n fun cs => K (.agg cs) σ)
noncomputable def o_iaA (len sz : Nat) (x i : X) : Fo := fun _ tm σ K => evF x tm fun v => ptrF v fun id off => evF i tm fun i => natF i fun n => ckB (Nat.ble (Nat.succ n) len) (fN (Nat.add off (Nat.mul n sz)) fun o => K (.ptr id o) σ)
noncomputable def o_iaS (sz : Nat) (x i : X) : Fo := fun _ tm σ K => evF x tm fun v => slcF v none fun id off _ len _ _ => evF i tm fun i => natF i fun n => ckB (Nat.ble (Nat.succ n) len) (fN (Nat.add off (Nat.mul n sz)) fun o => K (.ptr id o) σ)
noncomputable def nthS (s : List Nat) (i : Nat) (K : Nat → R) : R := nthF s i K
noncomputable def o_ixS (x i : X) : Fo := fun _ tm σ K => evF x tm fun v => strF v fun s => evF i tm fun i => natF i fun n => nthF s n fun b => K (.int .u8 (.ofNat b)) σ
noncomputable def o_lkp (kk : Nat) (zero : V) (ok : Bool) (m k : X) : Fo := fun _ tm σ K => evF m tm fun m => evF k tm fun k => mapF m
  (Bool.rec (motive := fun _ => R) (K zero σ) (K (.tup [zero, .bool false]) σ) ok)
  fun id => getF σ id fun o => mapO o fun es => findF kk k es (Bool.rec (motive := fun _ => R) (K zero σ) (K (.tup [zero, .bool false]) σ) ok) fun v => Bool.rec (motive := fun _ => R) (K v σ) (K (.tup [v, .bool true]) σ) ok
noncomputable def o_mup (kk : Nat) (m k v : X) : Fo := fun _ tm σ K => evF m tm fun m => evF k tm fun k => evF v tm fun v => mapF m none fun id => getF σ id fun o => mapO o fun es => setKF kk k v es fun es => putF σ id (.map es) fun σ => K .undef σ
noncomputable def o_del (kk : Nat) (m k : X) : Fo := fun _ tm σ K => evF m tm fun m => evF k tm fun k => mapF m none fun id => getF σ id fun o => mapO o fun es => delKF kk k es fun es => putF σ id (.map es) fun σ => K .undef σ
noncomputable def o_ext (x : X) (i : Nat) : Fo := fun _ tm σ K => evF x tm fun v => tupV v fun cs => nthF cs i fun v => K v σ
noncomputable def o_lenS (x : X) : Fo := fun _ tm σ K => evF x tm fun v => strF v fun s => fN (lenF s) fun n => K (.int .i64 (.ofNat n)) σ
noncomputable def o_lenL (x : X) : Fo := fun _ tm σ K => evF x tm fun v => slcF v (K (.int .i64 (.ofNat 0)) σ) fun _ _ _ n _ _ => K (.int .i64 (.ofNat n)) σ
noncomputable def o_lenC (n : Nat) : Fo := fun _ _ σ K => K (.int .i64 (.ofNat n)) σ
noncomputable def o_cap (x : X) : Fo := fun _ tm σ K => evF x tm fun v => slcF v (K (.int .i64 (.ofNat 0)) σ) fun _ _ _ _ mn ex => ckB ex (K (.int .i64 (.ofNat mn)) σ)
noncomputable def o_app (sz bytes : Nat) (s x : X) : Fo := fun _ tm σ K => evF x tm fun x => evF s tm fun s => srcF σ sz x fun new n => appF σ sz bytes s new n K
noncomputable def o_appS (s x : X) : Fo := fun _ tm σ K => evF x tm fun x => evF s tm fun s => strF x fun b => bytesP b fun cs => fN (lenF b) fun n => appF σ 1 1 s cs n K
noncomputable def o_call (f : FuncId) (args : List X) : Fo := fun call tm σ K => evsF args tm fun args => call (.fn f) args σ K
noncomputable def o_calv (x : X) (args : List X) : Fo := fun call tm σ K => evF x tm fun x => evsF args tm fun args => calvF call x args σ K
noncomputable def o_bad : Fo := fun _ _ _ _ => none
noncomputable def s_b2s (x : X) : Fo := o_slow (.b2s x)
noncomputable def s_sl3 (sz : Nat) (x : X) (lo hi : Option X) (mx : X) : Fo := o_slow (.sl3 sz x lo hi mx)
noncomputable def s_slA (n sz : Nat) (x : X) (lo hi : Option X) : Fo := o_slow (.slA n sz x lo hi)
noncomputable def s_ixA1 (len sz : Nat) (x i : X) : Fo := o_slow (.ixA1 len sz x i)
noncomputable def s_ixAn (len sz n : Nat) (x i : X) : Fo := o_slow (.ixAn len sz n x i)
noncomputable def s_mn (x : X) (xs : List X) : Fo := o_slow (.mn x xs)
noncomputable def s_mx (x : X) (xs : List X) : Fo := o_slow (.mx x xs)
noncomputable def s_appZ (zs : List V) (bytes : Nat) (s x : X) : Fo := o_slow (.appZ zs bytes s x)
noncomputable def s_cpy (sz : Nat) (d s : X) : Fo := o_slow (.cpy sz d s)
noncomputable def s_cpyS (d s : X) : Fo := o_slow (.cpyS d s)
noncomputable def s_clrM (x : X) : Fo := o_slow (.clrM x)
noncomputable def s_clrS (zs : List V) (x : X) : Fo := o_slow (.clrS zs x)
noncomputable def s_s2a (n : Nat) (x : X) : Fo := o_slow (.s2a n x)

noncomputable def opF (o : Ap) (call : Cal) (tm : T V) (σ : H) (K : V → H → R) : R :=
  Ap.rec (motive := fun _ => Fo) (mv := o_mv) (pick := o_pick) (alloc := o_alloc) (box := o_box) (build := o_build) (bsl := o_bsl) (ld1 := o_ld1) (ldn := o_ldn) (st := o_st) (nilc := o_nilc) (bin := o_bin)
    (eqn := o_eqn) (eqa := o_eqa) (not := o_not) (neg := o_neg) (cvi := o_cvi) (cvs := o_cvs) (s2b := o_s2b) (b2s := s_b2s) (mkI := o_mkI) (mkF := o_mkF) (mkM := o_mkM) (mkMh := o_mkMh) (mkS := o_mkS) (slS := o_slS) (slL := o_slL)
    (sl3 := s_sl3) (slA := s_slA) (fa := o_fa) (fld1 := o_fld1) (fldn := o_fldn) (iaA := o_iaA) (iaS := o_iaS) (ixA1 := s_ixA1) (ixAn := s_ixAn) (ixS := o_ixS) (lkp := o_lkp) (mup := o_mup) (del := o_del) (ext := o_ext)
    (lenS := o_lenS) (lenL := o_lenL) (lenC := o_lenC) (cap := o_cap) (mn := s_mn) (mx := s_mx) (app := o_app) (appS := o_appS) (appZ := s_appZ) (cpy := s_cpy) (cpyS := s_cpyS) (clrM := s_clrM) (clrS := s_clrS) (s2a := s_s2a)
    (call := o_call) (calv := o_calv) (bad := o_bad) o call tm σ K

theorem opF_eq (o : Ap) (call : Cal) (tm : T V) (σ : H) (K : V → H → R) : opF o call tm σ K = opK (hdS call) o (ev tm) σ K := by
  cases o
  case mv x => exact evF_eq _ _ _
  case pick c a b =>
    show evF c tm _ = _
    rw [evF_eq, boolF_eq]
    simp only [opK]
    cases ev tm c <;> try rfl
    rename_i t
    simp only
    rw [evF_eq, evF_eq]
    cases ev tm a <;> cases ev tm b <;> cases t <;> rfl
  case alloc zs => show ckB _ _ = _; rw [ckB_eq, newF_eq, allOneF_eq, lenF_eq]; rfl
  case box x => show evF x tm _ = _; rw [evF_eq, cellsF_cells, ckB_eq, newF_eq, allOneF_eq, lenF_eq]; rfl
  case build zs ps =>
    refine (buildP_eq tm ps zs _).trans ?_
    simp only [opK]
    cases buildL (ev tm) zs ps <;> rfl
  case bsl zs len ps =>
    have step : opF (.bsl zs len ps) call tm σ K = fN (lenF zs) fun n => zcellsF zs len fun z => buildP tm (psF n ps) z fun cs => ckB (allOneF cs) (newF cs (Nat.mul len n) (fun i σ => K (.slc i 0 n len len true) σ) σ) := rfl
    rw [step, fN_eq, zcellsF_eq, buildP_eq, psF_eq, lenF_eq]
    simp only [opK, ckB_eq, allOneF_eq, newF_eq]
    cases buildL (ev tm) (zcells zs len) (ps.map fun (i, x) => (i * zs.length, zs.length, x)) <;> rfl
  case ld1 a =>
    show evF a tm _ = _
    rw [evF_eq, ptrF_eq]
    simp only [opK, ldF_eq]
    cases ev tm a <;> rfl
  case ldn n a =>
    show evF a tm _ = _
    rw [evF_eq, ptrF_eq]
    simp only [opK, ldnF_eq]
    cases ev tm a <;> rfl
  case st n a v =>
    show evF a tm _ = _
    rw [evF_eq, ptrF_eq]
    simp only [opK, evF_eq, cellsF_cells, ckB_eq, lenF_eq, stnF_eq]
    cases ev tm a <;> rfl
  case nilc x =>
    show evF x tm _ = _
    rw [evF_eq, nilcF_eq]
    simp only [opK]
    cases ev tm x <;> rfl
  case bin op x y =>
    show evF x tm _ = _
    rw [evF_eq, evF_eq, binF_eq]
    rfl
  case eqn cls neg x y =>
    show evF x tm _ = _
    rw [evF_eq, evF_eq, eq1F_eq]
    simp only [opK, fB_eq, neB_eq]
    cases eq1 cls (ev tm x) (ev tm y) <;> rfl
  case eqa ks neg x y =>
    show evF x tm _ = _
    rw [evF_eq, evF_eq, aggF_eq]
    simp only [opK]
    cases ev tm x <;> try rfl
    simp only
    rw [aggF_eq]
    cases ev tm y <;> try rfl
    simp only [eqlsF_eq, fB_eq, neB_eq]
    cases eqls ks _ _ <;> rfl
  case not x =>
    show evF x tm _ = _
    rw [evF_eq, boolF_eq]
    simp only [opK]
    cases ev tm x <;> try rfl
    rename_i b
    cases b <;> rfl
  case neg x =>
    show evF x tm _ = _
    rw [evF_eq, intF_eq]
    simp only [opK, slowI, fI_eq]
    cases ev tm x <;> rfl
  case cvi k x =>
    show evF x tm _ = _
    rw [evF_eq, intF_eq]
    simp only [opK, cviF_eq]
    cases ev tm x <;> rfl
  case cvs x =>
    show evF x tm _ = _
    rw [evF_eq, strF_eq]
    simp only [opK]
    cases ev tm x <;> rfl
  case s2b x =>
    show evF x tm _ = _
    rw [evF_eq, strF_eq]
    simp only [opK, bytesP_eq, fN_eq, newF_eq, lenF_eq]
    cases ev tm x <;> rfl
  case mkI t x => exact evF_eq _ _ _
  case mkF f xs cap => show evsF xs tm _ = _; rw [evsF_eq, evsF_eq]; rfl
  case mkM => exact pushF_eq σ (.map []) fun i σ => K (.map i) σ
  case mkMh x =>
    show evF x tm _ = _
    rw [evF_eq, intF_eq]
    simp only [opK, pushF_eq]
    cases ev tm x <;> rfl
  case mkS zs bytes l c =>
    show evF l tm _ = _
    rw [evF_eq, natF_eq]
    simp only [opK, natF_eq, evF_eq, ckB_eq, allOneF_eq, fN_eq, lenF_eq, pushF_eq]
    congr 1
    funext n
    congr 1
    funext m
    have e1 : Nat.ble n m = leB n m := rfl
    have e2 : Nat.ble (Nat.mul m bytes) 140737488355328 = leB (m * bytes) 140737488355328 := rfl
    have e3 : Nat.ble 1 zs.length = Nat.blt 0 zs.length := rfl
    rw [e1, e2, e3]
    cases leB n m <;> cases leB (m * bytes) 140737488355328 <;> cases allOne zs <;> cases Nat.blt 0 zs.length <;> rfl
  case slS x lo hi =>
    show evF x tm _ = _
    rw [evF_eq, strF_eq]
    simp only [opK, fN_eq, optF_eq, ckB_eq, takeF_eq, fL_eq, dropF_eq, lenF_eq]
    cases ev tm x <;> try rfl
    rename_i s
    simp only
    congr 1
    funext h
    congr 1
    funext l
    have e1 : Nat.ble l h = leB l h := rfl
    have e2 : Nat.ble h s.length = leB h s.length := rfl
    rw [e1, e2]
    cases leB l h <;> cases leB h s.length <;> rfl
  case slL sz x lo hi =>
    show evF x tm _ = _
    rw [evF_eq, slcF_eq]
    simp only [opK, fN_eq, optF_eq, ckB_eq]
    cases ev tm x <;> try rfl
    · simp only
      congr 1
      funext h
      congr 1
      funext l
      cases Nat.beq l 0 <;> cases Nat.beq h 0 <;> rfl
    · rename_i id off s len mn ex
      simp only
      congr 1
      funext h
      congr 1
      funext l
      have e1 : Nat.ble l h = leB l h := rfl
      have e2 : Nat.ble h mn = leB h mn := rfl
      rw [e1, e2]
      cases leB l h <;> cases leB h mn <;> cases Nat.beq s sz <;> rfl
  case fa off x =>
    show evF x tm _ = _
    rw [evF_eq, ptrF_eq]
    simp only [opK, fN_eq]
    rfl
  case fld1 off x =>
    show evF x tm _ = _
    rw [evF_eq, aggF_eq]
    simp only [opK, nthF_eq]
    cases ev tm x <;> try rfl
    simp only
    split <;> rename_i h <;> rw [h]
  case fldn off n x =>
    show evF x tm _ = _
    rw [evF_eq, aggF_eq]
    simp only [opK, ckB_eq, takeF_eq, dropF_eq, lenF_eq]
    rfl
  case iaA len sz x i =>
    show evF x tm _ = _
    rw [evF_eq, ptrF_eq]
    simp only [opK, evF_eq, natF_eq, ckB_eq, fN_eq]
    rfl
  case iaS sz x i =>
    show evF x tm _ = _
    rw [evF_eq, slcF_eq]
    simp only [opK, evF_eq, natF_eq, ckB_eq, fN_eq]
    cases ev tm x <;> rfl
  case ixS x i =>
    show evF x tm _ = _
    rw [evF_eq, strF_eq]
    simp only [opK, evF_eq, natF_eq, nthF_eq]
    cases ev tm x <;> try rfl
    rename_i s
    simp only
    congr 1
    funext n
    cases h : Nat.blt n s.length with
    | true =>
      have : n < s.length := Nat.le_of_ble_eq_true h
      simp [List.getD_eq_getElem?_getD, this]
    | false =>
      have : ¬ n < s.length := fun h2 => by
        have : Nat.blt n s.length = true := Nat.ble_eq_true_of_le h2
        rw [this] at h; cases h
      have : s[n]? = none := List.getElem?_eq_none (by omega)
      rw [this]
      rfl
  case lkp kk zero ok m k =>
    show evF m tm _ = _
    rw [evF_eq, evF_eq, mapF_eq]
    simp only [opK]
    cases ev tm m <;> try rfl
    · cases ok <;> rfl
    · simp only
      rw [getF_eq]
      cases σ.get _ with
      | none => rfl
      | some o =>
        simp only [mapO_eq]
        cases o <;> try rfl
        simp only
        rw [← findF_eq]
        cases ok <;> rfl
  case mup kk m k v =>
    show evF m tm _ = _
    rw [evF_eq, evF_eq, evF_eq, mapF_eq]
    simp only [opK]
    cases ev tm m <;> try rfl
    simp only
    rw [getF_eq]
    cases σ.get _ with
    | none => rfl
    | some o =>
      simp only [mapO_eq]
      cases o <;> try rfl
      simp only [setKF_eq, putF_eq]
  case del kk m k =>
    show evF m tm _ = _
    rw [evF_eq, evF_eq, mapF_eq]
    simp only [opK]
    cases ev tm m <;> try rfl
    simp only
    rw [getF_eq]
    cases σ.get _ with
    | none => rfl
    | some o =>
      simp only [mapO_eq]
      cases o <;> try rfl
      simp only [delKF_eq, putF_eq]
  case ext x i =>
    show evF x tm _ = _
    rw [evF_eq, tupV_eq]
    simp only [opK, nthF_eq]
    cases ev tm x <;> try rfl
    simp only
    split <;> rename_i h <;> rw [h]
  case lenS x =>
    show evF x tm _ = _
    rw [evF_eq, strF_eq]
    simp only [opK, fN_eq, lenF_eq]
    cases ev tm x <;> rfl
  case lenL x =>
    show evF x tm _ = _
    rw [evF_eq, slcF_eq]
    simp only [opK]
    cases ev tm x <;> rfl
  case lenC n => rfl
  case cap x =>
    show evF x tm _ = _
    rw [evF_eq, slcF_eq]
    simp only [opK, ckB_eq]
    cases ev tm x <;> rfl
  case app sz bytes s x =>
    show evF x tm _ = _
    rw [evF_eq, evF_eq, srcF_eq]
    simp only [opK, appF_eq]
  case appS s x =>
    show evF x tm _ = _
    rw [evF_eq, evF_eq, strF_eq]
    simp only [opK, bytesP_eq, fN_eq, appF_eq, lenF_eq]
    cases ev tm x <;> rfl
  case call f args => exact evsF_eq _ _ _
  case calv x args =>
    show evF x tm _ = _
    rw [evF_eq, evsF_eq, calvF_eq]
    rfl
  all_goals rfl
end Ak
