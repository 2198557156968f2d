/- Symbolic execution, twenty-third text: what a function does, stated; entry and return. -/
import Derived.Test.YtaeoibnbbpgajaaDoorSxV
namespace Go.Proofs.YtaeoibnbbpgajaaDoor.Sx

/-- What a call is to find and what it leaves. Names below nx are the call's own from the start; nx2 bounds the names of what it leaves. -/
structure Spec where
  A : Type
  R : A → Prop
  J : A → Mem
  args : A → List SV
  h : A → Heap
  nx : Nat
  Bb : Type
  C : A → Bb → Prop
  out : A → Bb → Out
  h2 : A → Bb → Heap
  nx2 : Nat
  J2 : A → Bb → Mem := fun a _ => J a
  ext : Bool := false
  md : Nat := 0
  sd : List (Nat × Nat) := []
  so : Bool := false
/-- The memory that stays, behind the call. -/
def Spec.J3 (s : Spec) (a : s.A) (b : s.Bb) : Mem := match s.ext with
  | true => s.J2 a b
  | false => s.J a

def Out.ends (η : Names) : Out → Ending
  | .ret x => .returned (den η x)
  | .pan x => .panicked [{ v := den η x, recovered := false }]

def SpecOk (P : Program) (f : FuncId) (s : Spec) : Prop := Callable P f ∧ ∀ a, s.R a → ∀ (B : Base) (η : Names) (w : World), B.w0 = w → B.m0 = s.J a → B.k0 = s.nx → B.η0 = η → Hold B η (s.J a) (s.h a) s.nx w →
  Calls P f (dent η (s.args a)).toArray w fun e w' => ∃ b η', s.C a b ∧ Hold B η' (s.J3 a b) (s.h2 a b) s.nx2 w' ∧ e = (s.out a b).ends η'

def slotsOf : Nat → List SV → List Slot
  | _, [] => []
  | i, x :: r => ⟨i, [], x⟩ :: slotsOf (i + 1) r
/-- What a function gives back. -/
def resV (T : Tbl) (h : Heap) (t : List Slot) : List ResultVar → (List SV → Prop) → Prop
  | [], K => K []
  | .tmp k :: r, K => match look t k with
    | some ([], x) => resV T h t r fun l => K (x :: l)
    | _ => False
  | .cell c ty :: r, K => match look t c, T.at ty with
    | some ([], .p n o), some ti => match lookH h n with
      | some (.st _ cs) => getAt cs (aggD ti.d) o ti.size fun x => resV T h t r fun l => K (x :: l)
      | _ => False
    | _, _ => False
def outV : List SV → SV
  | [x] => x
  | l => .t l
/-- What is told of the memory that stays, at the end. -/
def jOk (s : Spec) (a : s.A) (b : s.Bb) (m : Mem) : Prop := match s.ext with
  | true => (∀ x o, s.J a x = some o → s.J2 a b x = some o) ∧ (∀ x o, s.J2 a b x = some o → m x = some o)
  | false => ∀ x o, s.J a x = some o → m x = some o
/-- The end: what is left is as stated. -/
def done1 (s : Spec) (a : s.A) (o : Out) (st : St) (m : Mem) : Prop := ∃ b, s.C a b ∧ (match Nat.ble s.nx s.nx2, s.out a b, o with
  | true, .ret x, .ret y => mt x y (idR s.nx) fun σ => mtH s.nx2 [] (s.h2 a b) st.h σ fun _ => jOk s a b m
  | true, .pan x, .pan y => mt x y (idR s.nx) fun σ => mtH s.nx2 [] (s.h2 a b) st.h σ fun _ => jOk s a b m
  | _, _, _ => False)
def done (s : Spec) (a : s.A) (o : Out) (st : St) (m : Mem) : Prop := match s.so, o with
  | true, .ret y => sealXs 9 st m [y] fun l st m => match l with
    | [y] => done1 s a (.ret y) st m
    | _ => False
  | _, o => done1 s a o st m
def fin (T : Tbl) (rs : List ResultVar) (s : Spec) (a : s.A) : Ex → St → Mem → Prop
  | .normal, st, m => resV T st.h st.t rs fun xs => done s a (.ret (outV xs)) st m
  | .ret, st, m => resV T st.h st.t rs fun xs => done s a (.ret (outV xs)) st m
  | .panic x, st, m => done s a (.pan x) st m
  | .exit _, _, _ => False

section
variable {P : Program} {T : Tbl} {B : Base} {η : Names} {m : Mem} {st : St} {a : Act} {w : World}

theorem slotsOf_sound {η : Names} : ∀ {l : List SV} {i k : Nat} {tag : Tag} {x : SV}, look (slotsOf i l) k = some (tag, x) → tag = [] ∧ i ≤ k ∧ (dent η l)[k - i]? = some (den η x)
  | [], _, _, _, _, h => by cases h
  | y :: r, i, k, tag, x, h => by
    simp only [slotsOf, look] at h
    split at h
    · rename_i hb
      obtain rfl := beq_eq hb
      cases h
      exact ⟨rfl, Nat.le_refl _, by simp [dent]⟩
    · obtain ⟨h1, h2, h3⟩ := slotsOf_sound h
      refine ⟨h1, by omega, ?_⟩
      have : k - i = (k - (i + 1)) + 1 := by omega
      rw [this, dent, List.getElem?_cons_succ]
      exact h3

theorem dent_length (η : Names) : ∀ l : List SV, (dent η l).length = l.length
  | [] => rfl
  | _ :: r => by simp only [dent, List.length_cons, dent_length η r]

theorem resV_sound (hT : TOk P T) {l : List Oper} (hG : Good B l η m st a w) {K : List SV → Prop} : ∀ {rs : List ResultVar}, resV T st.h st.t rs K → ∃ xs, K xs ∧ (rs.mapM fun (r : ResultVar) => match r with
      | .tmp t => (pure (a.tmps.getD t undef) : Sem Value)
      | .cell c t => do loadVar t (← asAddr (a.tmps.getD c undef))).run P w = .ok (dent η xs) w
  | [], h => ⟨[], h, rfl⟩
  | .tmp k :: r, h => by
    simp only [resV] at h
    split at h
    · rename_i x hl
      obtain ⟨xs, hk, hr⟩ := resV_sound hT hG h
      refine ⟨x :: xs, hk, ?_⟩
      have hx := hG.T.sl k [] x hl
      have : a.tmps.getD k undef = den η x := by rw [Array.getD_eq_getD_getElem?, hx]; rfl
      simp only [List.mapM_cons, Sem.run_bind, Sem.run_pure, Result.andThen_ok, this, hr, dent]
    · exact h.elim
  | .cell c ty :: r, h => by
    simp only [resV] at h
    split at h
    · rename_i n o ti hl hti
      split at h
      · rename_i e cs hlk
        obtain ⟨v, h, hv⟩ := getAt_sound h
        obtain ⟨xs, hk, hr⟩ := resV_sound hT hG h
        refine ⟨v :: xs, hk, ?_⟩
        have hx := hG.T.sl c [] _ hl
        obtain ⟨b, hA, _, hb⟩ := (hG.H.ck n _ hlk).2
        have hp : a.tmps.getD c undef = .pointer (some ⟨b, o, none⟩) := by
          rw [Array.getD_eq_getD_getElem?, hx]
          simp only [tagB, if_true, den, hA, Option.map_some, add_base, Option.getD_some]
        have hload : (loadVar ty ⟨b, o, none⟩).run P w = .ok (den η v) w := by
          have hv := hv η
          cases hd : aggD ti.d with
          | true =>
            rw [hd] at hv
            obtain ⟨hlen, hv⟩ := hv
            rw [hv]
            refine run_load_agg hT hti hd _ _ (by rw [List.length_take, List.length_drop]; omega) fun j u hu => ?_
            have : (⟨b, o, none⟩ : Addr).add j = ⟨b, o + j, none⟩ := by rw [← add_base, add_add, add_base]
            rw [this, cell_of_row w b (o + j) _ e (0, 0) hb]
            rw [List.getElem?_take] at hu
            split at hu
            · rw [List.getElem?_drop] at hu; simpa using hu
            · cases hu
          | false =>
            rw [hd] at hv
            exact run_load_one hT hti hd _ _ (by rw [cell_of_row w b o _ e (0, 0) hb]; simpa using hv)
        have has : (asAddr (a.tmps.getD c undef)).run P w = .ok ⟨b, o, none⟩ w := by rw [hp]; rfl
        simp only [List.mapM_cons, Sem.run_bind, Sem.run_pure, Result.andThen_ok, has, hload, hr, dent]
      · exact h.elim
    · exact h.elim

theorem results_sound (hT : TOk P T) {fn : Func} {l : List Oper} (hG : Good B l η m st a w) {K : List SV → Prop} (h : resV T st.h st.t fn.results.toList K) : ∃ xs, K xs ∧ (results fn a.tmps).run P w = .ok (den η (outV xs)) w := by
  obtain ⟨xs, hk, hr⟩ := resV_sound hT hG h
  refine ⟨xs, hk, ?_⟩
  unfold results
  rw [Array.mapM_eq_mapM_toList]
  simp only [map_eq_pure_bind, Sem.run_bind]
  erw [hr]
  simp only [Result.andThen_ok, Sem.run_pure]
  rcases xs with _ | ⟨x, _ | ⟨y, r⟩⟩
  · rfl
  · rfl
  · rfl

def slotsK : Nat → List SV → (List Slot → Prop) → Prop
  | _, [], K => K []
  | i, x :: r, K => forceN (i + 1) fun j => slotsK j r fun t => K (⟨i, [], x⟩ :: t)
theorem slotsK_eq : ∀ (l : List SV) (i : Nat) (K : List Slot → Prop), slotsK i l K = K (slotsOf i l)
  | [], i, K => rfl
  | x :: r, i, K => by simp only [slotsK, forceN_eq, slotsOf]; rw [slotsK_eq r (i + 1)]
def heapK : Heap → (Heap → Prop) → Prop
  | [], K => K []
  | (n, c) :: r, K => heapK r fun r => K ((n, c) :: r)
theorem heapK_eq : ∀ (h : Heap) (K : Heap → Prop), heapK h K = K h
  | [], K => rfl
  | (n, c) :: r, K => by simp only [heapK]; rw [heapK_eq r]
/-- What a call begins with. -/
def entry (n : Nat) (xs : List SV) (h : Heap) (nx : Nat) (K : St → Prop) : Prop := forceN n fun n => forceN nx fun nx => slotsK 0 xs fun t => heapK h fun h => K ⟨n, t, [], h, nx⟩
theorem entry_eq (n : Nat) (xs : List SV) (h : Heap) (nx : Nat) (K : St → Prop) : entry n xs h nx K = K ⟨n, slotsOf 0 xs, [], h, nx⟩ := by
  simp only [entry, forceN_eq]
  rw [slotsK_eq]
  rw [heapK_eq]

theorem spec_of_exec (hT : TOk P T) {CP : CallP} (hCP : CPOk P CP) {DP : List Oper → St → Mem → (Ex → St → Mem → Prop) → Prop} (hDP : ∀ B, DPOk P B DP) {lv : List Nat} {d : Nat} {f : FuncId} {fn : Func} {c : Code} (s : Spec)
    (hf : P.funcs[f]? = some fn) (hb : fn.body = some c) (hn : (fn.name == "runtime.NumGoroutine") = false) (hlen : ∀ a, (s.args a).length ≤ fn.ntmps)
    (h : ∀ a, s.R a → entry fn.ntmps (s.args a) (s.h a) s.nx fun st => exec T CP (LPs T CP DP lv s.nx d) DP lv c (fin T fn.results.toList s a) st (s.J a)) : SpecOk P f s := by
  simp only [entry_eq] at h
  refine ⟨⟨fn, hf, hn, by rw [hb]; rfl⟩, fun x hR B η w hw hm hk hη hH => ?_⟩
  have hG : Good B [] η (s.J x) ⟨fn.ntmps, slotsOf 0 (s.args x), [], s.h x, s.nx⟩ { tmps := (dent η (s.args x)).toArray ++ Array.replicate (fn.ntmps - (dent η (s.args x)).toArray.size) undef, defers := [] } w := by
    refine ⟨hH, ⟨?_, rfl, fun k tag y hl => ?_, fun j g tg hl => by cases hl⟩⟩
    · have := hlen x
      simp only [Array.size_append, Array.size_replicate, List.size_toArray, dent_length]
      omega
    · obtain ⟨rfl, _, hg⟩ := slotsOf_sound hl
      simp only [Nat.sub_zero] at hg
      have hlt : k < (dent η (s.args x)).length := (List.getElem?_eq_some_iff.1 hg).1
      rw [Array.getElem?_append_left (by simpa using hlt)]
      simpa [tagB] using hg
  have fine1 : ∀ {o : Out} {η' : Names} {st : St} {m : Mem} {a : Act} {w' : World}, done1 s x o st m → Good B [] η' m st a w' → ∃ b η2, s.C x b ∧ Hold B η2 (s.J3 x b) (s.h2 x b) s.nx2 w' ∧ (o.ends η' = (s.out x b).ends η2) := by
    intro o η' st m a w' hd hG'
    obtain ⟨b, hC, hd⟩ := hd
    have less : ∀ {η2 : Names}, jOk s x b m → Hold B η2 m (s.h2 x b) s.nx2 w' → Hold B η2 (s.J3 x b) (s.h2 x b) s.nx2 w' := by
      intro η2 hj hH2
      have h1 : ∀ y o, s.J3 x b y = some o → m y = some o := by
        intro y o hy
        unfold jOk at hj
        unfold Spec.J3 at hy
        split at hj
        · rename_i he
          rw [he] at hy
          exact hj.2 y o hy
        · rename_i he
          rw [he] at hy
          exact hj y o hy
      have h2 : ∀ y o, s.J x y = some o → s.J3 x b y = some o := by
        intro y o hy
        unfold jOk at hj
        unfold Spec.J3
        split at hj
        · rename_i he
          rw [he]
          exact hj.1 y o hy
        · rename_i he
          rw [he]
          exact hy
      refine ⟨fun y o hy => hH2.imm y o (h1 y o hy), hH2.ck, fun n c y hl ho => ⟨?_, (hH2.own n c y hl ho).2⟩, hH2.apart, hH2.old, hH2.size, hH2.os, hH2.tape, hH2.output, fun y o hy => h2 y o (by rw [← hm]; exact hy), fun y o hy => hH2.mnew y o (h1 y o hy), hH2.par⟩
      cases hy : s.J3 x b y with
      | none => rfl
      | some o =>
        have := (hH2.own n c y hl ho).1
        rw [h1 y o hy] at this
        cases this
    have key : ∀ {y z : SV}, Nat.ble s.nx s.nx2 = true → (mt y z (idR s.nx) fun σ => mtH s.nx2 [] (s.h2 x b) st.h σ fun _ => jOk s x b m) → ∃ η2, Hold B η2 (s.J3 x b) (s.h2 x b) s.nx2 w' ∧ den η' z = den η2 y := by
      intro y z hle hd
      obtain ⟨σ1, hd, he1, hd1⟩ := mt_sound hd
      obtain ⟨σ2, hmm, he2, hd2⟩ := mtH_sound hd
      exact ⟨ηOf σ2 η', less hmm (hG'.H.ren (hd2 σ2 (.refl _)) ⟨by rw [hk]; exact ble_le hle, fun n hn => he2 _ _ (he1 _ _ (find_idR (by omega)))⟩), (hd1 σ2 he2 η').1.symm⟩
    split at hd
    · rename_i y z hle hout
      obtain ⟨η2, hH2, hz⟩ := key hle hd
      exact ⟨b, η2, hC, hH2, by rw [hout]; simp only [Out.ends, hz]⟩
    · rename_i y z hle hout
      obtain ⟨η2, hH2, hz⟩ := key hle hd
      exact ⟨b, η2, hC, hH2, by rw [hout]; simp only [Out.ends, hz]⟩
    · exact hd.elim
  have fine : ∀ {o : Out} {η' : Names} {st : St} {m : Mem} {a : Act} {w' : World}, done s x o st m → Good B [] η' m st a w' → ∃ b η2, s.C x b ∧ Hold B η2 (s.J3 x b) (s.h2 x b) s.nx2 w' ∧ (o.ends η' = (s.out x b).ends η2) := by
    intro o η' st m a w' hd hG'
    unfold done at hd
    split at hd
    · rename_i y _
      obtain ⟨l', st', m', hd, hg, _, h2⟩ := sealXs_sound hd hG'
      rcases l' with _ | ⟨y', _ | ⟨z, l2⟩⟩
      · exact hd.elim
      · simp only [dent, List.cons.injEq, and_true] at h2
        obtain ⟨b, η2, h3, h4, h5⟩ := fine1 hd hg
        exact ⟨b, η2, h3, h4, by rw [← h5]; simp only [Out.ends, h2]⟩
      · exact hd.elim
    · exact fine1 hd hG'
  refine calls_of_wp hf hb (exec_sound hT hCP (LPs_ok hT hCP (hDP B) (by rw [hk]; exact Nat.le_refl _) d) (hDP B) (h x hR) hG fun e η' st m a w' hK hG' => ?_)
  have ret : (resV T st.h st.t fn.results.toList fun xs => done s x (.ret (outV xs)) st m) → a.defers = [] ∧ ∃ v, (results fn a.tmps).run P w' = .ok v w' ∧ ∃ b η2, s.C x b ∧ Hold B η2 (s.J3 x b) (s.h2 x b) s.nx2 w' ∧ Ending.returned v = (s.out x b).ends η2 := by
    intro hK
    obtain ⟨xs, hd, hr⟩ := results_sound hT hG' hK
    exact ⟨hG'.T.df, _, hr, fine hd hG'⟩
  cases e with
  | normal => exact ret hK
  | ret => exact ret hK
  | panic y => exact ⟨hG'.T.df, fine hK hG'⟩
  | exit i => exact hK.elim
end
end Go.Proofs.YtaeoibnbbpgajaaDoor.Sx
