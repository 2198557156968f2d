/- Symbolic execution: regions in no order, of which what looks at memory stands free among what makes or writes it: one order for all. -/
import Derived.Test.YtaeoibnbbpgajaaDoorSxZb
import Derived.OrdersHeld
namespace Go.Proofs.YtaeoibnbbpgajaaDoor.Sx

def quietO (o : Oper) : Bool := match o.op with
  | .pick .. => true
  | op => isQuiet op
def nthO : List Oper → Nat → Option Oper
  | [], _ => none
  | o :: _, 0 => some o
  | _ :: r, n + 1 => nthO r n
def keepB (rest : List (Nat × Bool)) (j : Nat) : Bool := rest.any fun p => p.1 == j && p.2
/-- Whether this order stands for all. Of an operation that only looks, the mark says that it looks at no more than what stays; of another one, that it leaves what stays. -/
def schedB (ops : Array Oper) : List (Nat × Bool) → Bool → Array Bool → Bool
  | [], _, listed => (Region.ready .any ops listed).isEmpty
  | (i, b) :: rest, ok, listed => match ops[i]? with
    | none => false
    | some o => match quietO o with
      | true => (Region.ready .any ops listed).contains i && Region.free .any ops listed i && (!b || ok) &&
        ((List.range ops.size).all fun j => j == i || listed.getD j true || Region.waitsFor .any ops j i || (match ops[j]? with
          | some oj => quietO oj || (b && keepB rest j)
          | none => true)) && schedB ops rest ok (listed.setIfInBounds i true)
      | false => (Region.ready .any ops listed == [i]) && schedB ops rest (ok && b) (listed.setIfInBounds i true)
def nodupB : List (Nat × Bool) → Bool
  | [] => true
  | (i, _) :: r => r.all (fun p => !(p.1 == i)) && nodupB r
def orderB (ops : Array Oper) (sc : List (Nat × Bool)) : Bool := Region.noSelect ops && (sc.length == ops.size) && nodupB sc && schedB ops sc true (Array.replicate ops.size false)

/-- What stays is there. -/
def keepK : Heap → Heap → Prop → Prop
  | [], _, K => K
  | (n, c) :: r, h, K => (lookH h n = some c) ∧ keepK r h K
def keepIf (b : Bool) (hs h : Heap) (K : Prop) : Prop := match b with
  | true => keepK hs h K
  | false => K
def selH (h : Heap) : List Nat → (Heap → Prop) → Prop
  | [], K => K []
  | n :: r, K => match lookH h n with
    | some c => selH h r fun l => K ((n, c) :: l)
    | none => False

def lookV (T : Tbl) (b : Bool) (hs : Heap) (m0 : Mem) (st : St) (m : Mem) (tag : Tag) (op : Op) (K : SV → Prop) : Prop := match b with
  | true => (match st with | ⟨sz, t, gs, _, nx⟩ => quietV T ⟨sz, t, gs, hs, nx⟩ m0 tag op K)
  | false => quietV T st m tag op K

def runS (T : Tbl) (CP : CallP) (ops : List Oper) (hs : Heap) (m0 : Mem) (KP : SV → St → Mem → Prop) (K : St → Mem → Prop) : List (Nat × Bool) → St → Mem → Prop
  | [], st, m => K st m
  | (i, b) :: rest, st, m => match nthO ops i with
    | none => False
    | some o => match o.guard with
      | none => match o.op with
        | .pick c x y => pickV ops st [] c x y fun v => putS ops st o.dst [] v fun st => runS T CP ops hs m0 KP K rest st m
        | op => match isQuiet op with
          | true => lookV T b hs m0 st m [] op fun v => putS ops st o.dst [] v fun st => runS T CP ops hs m0 KP K rest st m
          | false => loudV T CP st m op (fun v st m => putS ops st o.dst [] v fun st => keepIf b hs st.h (runS T CP ops hs m0 KP K rest st m)) KP
      | some (j, w) => match dstOf ops j with
        | none => False
        | some d => match look st.t d with
          | some (tg, .b g) =>
            addG st j g tg fun st => match o.op with
            | .pick c x y => pickV ops st ((j, w) :: tg) c x y fun v => putS ops st o.dst ((j, w) :: tg) v fun st => runS T CP ops hs m0 KP K rest st m
            | op => match isQuiet op with
              | true => lookV T b hs m0 st m ((j, w) :: tg) op fun v => putS ops st o.dst ((j, w) :: tg) v fun st => runS T CP ops hs m0 KP K rest st m
              | false => splitG ops o.dst (fun st m => loudV T CP st m op (fun v st m => putS ops st o.dst [] v fun st => keepIf b hs st.h (runS T CP ops hs m0 KP K rest st m)) KP) (fun st m => runS T CP ops hs m0 KP K rest st m) 9 ((j, w) :: tg) st m
          | _ => False

/-- A region in no order, by one order. -/
def DPs (T : Tbl) (CP : CallP) (lv : List Nat) : List Oper → St → Mem → (Ex → St → Mem → Prop) → Prop := fun ops st m K =>
  ∃ (ks : List Nat) (sc : List (Nat × Bool)), orderB ops.toArray sc = true ∧ (match okSt st with
    | true => selH st.h ks fun hs => runS T CP ops hs m (fun x st m => withT st [] [] fun st => K (.panic x) st m) (endR lv K) sc st m
    | false => False)
def DPx (T : Tbl) (CP : CallP) (lv : List Nat) : List Oper → St → Mem → (Ex → St → Mem → Prop) → Prop := fun ops st m K => DPq T CP lv ops st m K ∨ DPs T CP lv ops st m K

theorem nthO_get : ∀ {l : List Oper} {i : Nat} {o : Oper}, nthO l i = some o → l[i]? = some o
  | [], _, _, h => by cases h
  | _ :: _, 0, _, h => by simpa [nthO] using h
  | _ :: r, n + 1, o, h => by simpa [nthO] using nthO_get (l := r) h

section
variable {P : Program} {ops : Array Oper} {Q : Exit → Act → World → Prop} {Rel : Nat → World → World → Prop}

/-- Whatever order is picked from here on; each operation carried out turns the world as 'Rel' says. -/
def wpAnyR (P : Program) (ops : Array Oper) (Q : Exit → Act → World → Prop) (Rel : Nat → World → World → Prop) : Nat → Array Bool → Act → World → Prop
  | 0, listed, a, w => Region.ready .any ops listed = [] ∧ Q .normal a w
  | fuel + 1, listed, a, w =>
    (Region.ready .any ops listed = [] → Q .normal a w) ∧
    ∀ i ∈ Region.ready .any ops listed, wpOp P ops Q i (fun a' w' => Rel i w w' ∧ wpAnyR P ops Q Rel fuel (listed.setIfInBounds i true) a' w') a w

theorem wpAny_of_rel : ∀ (fuel : Nat) (listed : Array Bool) (a : Act) (w : World), wpAnyR P ops Q Rel fuel listed a w → wpAny P .any ops Q fuel listed a w
  | 0, _, _, _, h => h
  | fuel + 1, _, _, _, h => ⟨h.1, fun i hi => wpOp_mono (fun a' w' h' => wpAny_of_rel fuel _ a' w' h'.2) (h.2 i hi)⟩

theorem wpAnyR_first {i : Nat} {oi : Oper} {v : Value} {S : World → Prop} (hi : ops[i]? = some oi) (hsel : ∀ (j : Nat) (o : Oper) cs b, ops[j]? = some o → o.op ≠ .select cs b)
    (hQ : ∀ c a w, Q (.panic c) (a.put oi.dst v) w → Q (.panic c) a w) (hrel : ∀ w, Rel i w w) :
    ∀ (fuel : Nat) (listed : Array Bool) (a : Act) (w : World),
      (∀ j oj, ops[j]? = some oj → j ≠ i → listed.getD j true = false → (∀ e ∈ oj.after, Region.binds .any e = true → e.on ≠ i) → oi.apart ops oj = true ∧ ∀ w w', S w → Rel j w w' → S w') →
      i ∈ Region.ready .any ops listed → YieldsIf P ops S oi v a → S w →
      wpAnyR P ops Q Rel fuel (listed.setIfInBounds i true) (a.put oi.dst v) w → wpAnyR P ops Q Rel (fuel + 1) listed a w := by
  intro fuel
  induction fuel with
  | zero =>
    intro listed a w _ hr hy hS H
    refine ⟨fun h => (by rw [h] at hr; cases hr), fun j hj => ?_⟩
    by_cases hji : j = i
    · subst hji; exact hy.wpOp hi hS ⟨hrel w, H⟩
    · have := ready_mono hj hji
      rw [H.1] at this
      cases this
  | succ fuel ih =>
    intro listed a w hfree hr hy hS H
    refine ⟨fun h => (by rw [h] at hr; cases hr), fun j hj => ?_⟩
    by_cases hji : j = i
    · subst hji; exact hy.wpOp hi hS ⟨hrel w, H⟩
    · have h1 := H.2 j (ready_mono hj hji)
      obtain ⟨hjun, oj, hoj, hall⟩ := mem_ready.1 hj
      have hnot : ∀ e ∈ oj.after, Region.binds .any e = true → e.on ≠ i := fun e he hb heq => by
        have h1 := hall e he hb
        have h0 := (mem_ready.1 hr).1
        rw [heq] at h1
        rcases Nat.lt_or_ge i listed.size with h' | h'
        · simp [h'] at h0 h1; rw [h0] at h1; cases h1
        · simp [Array.getElem?_eq_none h'] at h1
      obtain ⟨hap, hS'⟩ := hfree j oj hoj hji hjun hnot
      have h2 := wpOp_putIf hoj hap (fun cs b => hsel i oi cs b hi) (fun cs b => hsel j oj cs b hoj) hQ hy h1
      have hfree' : ∀ k ok, ops[k]? = some ok → k ≠ i → (listed.setIfInBounds j true).getD k true = false →
          (∀ e ∈ ok.after, Region.binds .any e = true → e.on ≠ i) → oi.apart ops ok = true ∧ ∀ w w', S w → Rel k w w' → S w' := fun k ok hk hki hun hno => by
        refine hfree k ok hk hki ?_ hno
        by_cases hjk : j = k
        · subst hjk; exact hjun
        · rw [getD_set_ne true hjk] at hun; exact hun
      refine wpOp_mono (fun a' w' h3 => ⟨h3.2.1, ih (listed.setIfInBounds j true) a' w' hfree' (ready_mono hr (Ne.symm hji)) h3.1 (hS' _ _ hS h3.2.1) ?_⟩) h2
      rw [Array.setIfInBounds_comm _ _ hji]
      exact h3.2.2
end

section
variable {P : Program} {T : Tbl} (hT : TOk P T) {B : Base}

theorem selH_sound {h : Heap} {K : Heap → Prop} : ∀ {ks : List Nat}, selH h ks K → ∃ hs, K hs ∧ ∀ n c, lookH hs n = some c → lookH h n = some c
  | [], hk => ⟨[], hk, fun _ _ h => by cases h⟩
  | n :: r, hk => by
    simp only [selH] at hk
    split at hk
    · rename_i c hc
      obtain ⟨hs, hk, hl⟩ := selH_sound hk
      refine ⟨_, hk, fun k d hd => ?_⟩
      simp only [lookH] at hd
      split at hd
      · rename_i hb
        obtain rfl := beq_eq hb
        cases hd
        exact hc
      · exact hl k d hd
    · exact hk.elim
theorem keepK_sound {h : Heap} {K : Prop} : ∀ {hs : Heap}, keepK hs h K → K ∧ ∀ n c, lookH hs n = some c → lookH h n = some c
  | [], hk => ⟨hk, fun _ _ h => by cases h⟩
  | (n, c) :: r, hk => by
    obtain ⟨h1, h2⟩ := hk
    obtain ⟨h3, h4⟩ := keepK_sound h2
    refine ⟨h3, fun k d hd => ?_⟩
    simp only [lookH] at hd
    split at hd
    · rename_i hb
      obtain rfl := beq_eq hb
      cases hd
      exact h1
    · exact h4 k d hd

/-- What stays, told with the names of the beginning, and with later ones. -/
theorem HQ.names {η η' : Names} {m : Mem} {hs : Heap} {nx : Nat} {w : World} (h : HQ η m hs w) (hok : ∀ n c, lookH hs n = some c → n < nx ∧ okC nx c = true) (hag : Agree nx η η') : HQ η' m hs w :=
  ⟨h.imm, fun n c hl => ⟨trivial, (h.ck n c hl).2.kept (hag n (hok n c hl).1) (fun e cs hcs => by
    have := (hok n c hl).2
    subst hcs
    exact dens_ok hag cs this) (fun _ _ => rfl)⟩⟩

def relS (ops : Array Oper) (sc : List (Nat × Bool)) (S : World → Prop) (j : Nat) (w w' : World) : Prop := match ops[j]? with
  | some o => match quietO o with
    | true => w' = w
    | false => match keepB sc j with
      | true => S w → S w'
      | false => True
  | none => True

/-- What a look rests on: what stays, or the world as it is. -/
def upon (b : Bool) (S : World → Prop) (w w' : World) : Prop := match b with
  | true => S w'
  | false => w' = w

include hT in
theorem lookV_sound {b : Bool} {hs : Heap} (hok : ∀ n c, lookH hs n = some c → n < B.k0 ∧ okC B.k0 c = true) {l : List Oper} {η : Names} {st : St} {m : Mem} {a : Act} {w : World} {tag : Tag} {o : Oper} {K : SV → Prop}
    (hq : isQuiet o.op = true) (h : lookV T b hs B.m0 st m tag o.op K) (hG : Good B l η m st a w) :
    ∃ x, K x ∧ ∀ w', upon b (HQ B.η0 B.m0 hs) w w' → tagB st.gs tag = true → (execOp a.eval o).run P w' = .ok (.value (den η x)) w' := by
  unfold lookV at h
  split at h
  · obtain ⟨sz, t, gs, hp, nx⟩ := st
    have ht : HoldT l η ⟨sz, t, gs, hs, nx⟩ a := ⟨hG.T.sz, hG.T.df, hG.T.sl, hG.T.gs⟩
    obtain ⟨x, hk, hx⟩ := quietV_sound hT ht hq h
    exact ⟨x, hk, fun w' hS => hx w' (HQ.names hS hok fun n hn => hG.H.par.2 n hn)⟩
  · obtain ⟨x, hk, hx⟩ := quietV_sound hT hG.T hq h
    exact ⟨x, hk, fun w' hS => by
      have hS : w' = w := hS
      subst hS
      exact hx _ hG.H.hq⟩

theorem keepB_mem {l : List (Nat × Bool)} {j : Nat} (h : keepB l j = true) : (j, true) ∈ l := by
  unfold keepB at h
  obtain ⟨p, hp, hb⟩ := List.any_eq_true.1 h
  simp only [Bool.and_eq_true, beq_iff_eq] at hb
  obtain ⟨p1, p2⟩ := p
  obtain ⟨rfl, rfl⟩ := hb
  exact hp
theorem keepB_of {l : List (Nat × Bool)} {j : Nat} (h : (j, true) ∈ l) : keepB l j = true := by
  unfold keepB
  exact List.any_eq_true.2 ⟨_, h, by simp⟩
theorem nodupB_eq : ∀ {l : List (Nat × Bool)} {i : Nat} {b c : Bool}, nodupB l = true → (i, b) ∈ l → (i, c) ∈ l → b = c
  | [], _, _, _, _, h, _ => by cases h
  | (k, d) :: r, i, b, c, hn, h1, h2 => by
    simp only [nodupB, Bool.and_eq_true, List.all_eq_true] at hn
    rcases List.mem_cons.1 h1 with h1 | h1 <;> rcases List.mem_cons.1 h2 with h2 | h2
    · cases h1; cases h2; rfl
    · cases h1
      have := hn.1 _ h2
      simp at this
    · cases h2
      have := hn.1 _ h1
      simp at this
    · exact nodupB_eq hn.2 h1 h2

include hT in
theorem runS_sound {CP : CallP} (hCP : CPOk P CP) {ops : Array Oper} {KP : SV → St → Mem → Prop} {K : St → Mem → Prop} {Q : Exit → Act → World → Prop} {hs : Heap} {sc : List (Nat × Bool)}
    (hok : ∀ n c, lookH hs n = some c → n < B.k0 ∧ okC B.k0 c = true)
    (hK : ∀ η st m a w, K st m → Good B ops.toList η m st a w → Q .normal a w)
    (hKP : ∀ x η st m a w, KP x st m → Good B ops.toList η m st a w → Q (.panic [{ v := den η x, recovered := false }]) a w)
    (hsel : ∀ (j : Nat) (o : Oper) cs b, ops[j]? = some o → o.op ≠ .select cs b) (hQ : ∀ c (a : Act) (d : Option Tmp) (v : Value) w, Q (.panic c) (a.put d v) w → Q (.panic c) a w) (hnd : nodupB sc = true) :
    ∀ {l : List (Nat × Bool)} {ok : Bool} {listed : Array Bool} {η : Names} {st : St} {m : Mem} {a : Act} {w : World} {fuel : Nat}, schedB ops l ok listed = true → (∀ p ∈ l, p ∈ sc) → l.length ≤ fuel →
      runS T CP ops.toList hs B.m0 KP K l st m → Good B ops.toList η m st a w → (ok = true → HQ B.η0 B.m0 hs w) → wpAnyR P ops Q (relS ops sc (HQ B.η0 B.m0 hs)) fuel listed a w
  | [], ok, listed, η, st, m, a, w, fuel, hB, _, _, h, hG, _ => by
    simp only [schedB, List.isEmpty_iff] at hB
    cases fuel with
    | zero => exact ⟨hB, hK _ _ _ _ _ h hG⟩
    | succ f => exact ⟨fun _ => hK _ _ _ _ _ h hG, by rw [hB]; simp⟩
  | (i, b) :: rest, ok, listed, η, st, m, a, w, 0, _, _, hf, _, _, _ => by simp at hf
  | (i, b) :: rest, ok, listed, η, st, m, a, w, f + 1, hB, hsub, hf, h, hG, hS => by
    have hf' : rest.length ≤ f := by simpa using hf
    have hsub' : ∀ p ∈ rest, p ∈ sc := fun p hp => hsub p (.tail _ hp)
    have hib : (i, b) ∈ sc := hsub _ (.head _)
    simp only [runS] at h
    split at h
    case h_1 => exact h.elim
    rename_i o hno
    have ho : ops[i]? = some o := by have := nthO_get hno; simpa using this
    simp only [schedB, ho] at hB
    -- an operation that only looks is taken first
    have quiet : ∀ {v : Value}, quietO o = true → YieldsIf P ops (upon b (HQ B.η0 B.m0 hs) w) o v a → (schedB ops rest ok (listed.setIfInBounds i true) = true → wpAnyR P ops Q (relS ops sc (HQ B.η0 B.m0 hs)) f (listed.setIfInBounds i true) (a.put o.dst v) w) →
        wpAnyR P ops Q (relS ops sc (HQ B.η0 B.m0 hs)) (f + 1) listed a w := by
      intro v hq hy hnext
      rw [hq] at hB
      simp only [Bool.and_eq_true] at hB
      obtain ⟨⟨⟨⟨hr, hfr⟩, hbo⟩, hall⟩, hB'⟩ := hB
      refine wpAnyR_first (S := upon b (HQ B.η0 B.m0 hs) w) ho hsel (fun c a w => hQ c a _ _ w) (fun w => by simp only [relS, ho, hq]) f listed a w (fun j oj hj hne hun hno' => ⟨Region.free_spec ho hfr j oj hj hne hun hno', fun w1 w2 hS1 hrel => ?_⟩) (by simpa using hr) hy ?_ (hnext hB')
      · have hjs : j < ops.size := (Array.getElem?_eq_some_iff.1 hj).1
        have hw : Region.waitsFor .any ops j i = false := by
          cases hw : Region.waitsFor .any ops j i with
          | false => rfl
          | true =>
            obtain ⟨oj', hj', e, he, hb, hon⟩ := Region.waitsFor_spec hw
            rw [hj] at hj'
            cases hj'
            exact absurd hon (hno' e he hb)
        have h1 := List.all_eq_true.1 hall j (List.mem_range.2 hjs)
        simp only [hw, hj, hun, Bool.or_false, Bool.or_eq_true, beq_iff_eq, hne, false_or, Bool.and_eq_true] at h1
        rcases h1 with h1 | ⟨hb, hkb⟩
        · simp only [relS, hj, h1] at hrel
          subst hrel
          exact hS1
        · subst hb
          simp only [relS, hj] at hrel
          split at hrel
          · subst hrel; exact hS1
          · rw [keepB_of (hsub' _ (keepB_mem hkb))] at hrel
            exact hrel hS1
      · cases b with
        | false => rfl
        | true => exact hS (by simpa using hbo)
    -- another operation comes alone
    have loud : quietO o = false → (schedB ops rest (ok && b) (listed.setIfInBounds i true) = true → wpOp P ops Q i (fun a' w' => relS ops sc (HQ B.η0 B.m0 hs) i w w' ∧ wpAnyR P ops Q (relS ops sc (HQ B.η0 B.m0 hs)) f (listed.setIfInBounds i true) a' w') a w) →
        wpAnyR P ops Q (relS ops sc (HQ B.η0 B.m0 hs)) (f + 1) listed a w := by
      intro hq hnext
      rw [hq] at hB
      simp only [Bool.and_eq_true, beq_iff_eq] at hB
      refine ⟨fun h0 => (by rw [hB.1] at h0; cases h0), fun j hj => ?_⟩
      rw [hB.1] at hj
      simp only [List.mem_singleton] at hj
      subst hj
      exact hnext hB.2
    have relI : ∀ w', quietO o = false → (b = true → HQ B.η0 B.m0 hs w → HQ B.η0 B.m0 hs w') → relS ops sc (HQ B.η0 B.m0 hs) i w w' := by
      intro w' hq hw
      simp only [relS, ho, hq]
      split
      · rename_i hkb
        exact hw (nodupB_eq hnd hib (keepB_mem hkb))
      · trivial
    have behind : ∀ {η' : Names} {st' : St} {m' : Mem} {a' : Act} {w' : World}, quietO o = false → schedB ops rest (ok && b) (listed.setIfInBounds i true) = true → keepIf b hs st'.h (runS T CP ops.toList hs B.m0 KP K rest st' m') → Good B ops.toList η' m' st' a' w' →
        relS ops sc (HQ B.η0 B.m0 hs) i w w' ∧ wpAnyR P ops Q (relS ops sc (HQ B.η0 B.m0 hs)) f (listed.setIfInBounds i true) a' w' := by
      intro η' st' m' a' w' hq hB' hk hG'
      cases b with
      | false => exact ⟨relI w' hq (fun h => by cases h), runS_sound hCP hok hK hKP hsel hQ hnd hB' hsub' hf' hk hG' (fun h => by simp at h)⟩
      | true =>
        obtain ⟨hk, hl⟩ := keepK_sound hk
        have hS' : HQ B.η0 B.m0 hs w' := by
          refine HQ.names (η := η') ⟨fun x o hx => hG'.H.imm x o (hG'.H.mle x o hx), fun n c hn => ⟨trivial, (hG'.H.ck n c (hl n c hn)).2⟩⟩ hok fun n hn => (hG'.H.par.2 n hn).symm
        exact ⟨relI w' hq (fun _ _ => hS'), runS_sound hCP hok hK hKP hsel hQ hnd hB' hsub' hf' hk hG' (fun _ => hS')⟩
    have hqo : ∀ {op : Op}, o.op = op → (∀ c x y, op ≠ .pick c x y) → quietO o = isQuiet op := by
      intro op hop hnp
      unfold quietO
      rw [hop]
      split
      · exact absurd rfl (hnp _ _ _)
      · rfl
    have hqp : ∀ {c x y}, o.op = .pick c x y → quietO o = true := by
      intro c x y hop
      unfold quietO
      rw [hop]
    split at h
    · rename_i hg
      have hw : Region.wanted o (yielded ops a.tmps) = true := by simp only [Region.wanted, hg]
      split at h
      · rename_i c x y hop
        obtain ⟨v, h, hv⟩ := pickV_sound (P := P) hG.T h hop
        obtain ⟨st', h, hG', _⟩ := putS_sound hG h (v := den η v) (by simp [tagB])
        exact quiet (hqp hop) (.inl ⟨hw, fun w' _ => hv w' rfl⟩) fun hB' => runS_sound hCP hok hK hKP hsel hQ hnd hB' hsub' hf' h hG' hS
      · rename_i op hnp
        split at h
        · rename_i hq
          obtain ⟨v, h, hv⟩ := lookV_sound hT hok hq h hG
          obtain ⟨st', h, hG', _⟩ := putS_sound hG h (v := den η v) (by simp [tagB])
          exact quiet ((hqo rfl hnp).trans hq) (.inl ⟨hw, fun w' hS' => hv w' hS' rfl⟩) fun hB' => runS_sound hCP hok hK hKP hsel hQ hnd hB' hsub' hf' h hG' hS
        · rename_i hq
          have hq' : quietO o = false := (hqo rfl hnp).trans hq
          refine loud hq' fun hB' => ?_
          unfold wpOp
          simp only [ho, hw, if_true]
          refine .inl (loudV_sound hT hG hCP h (fun x η' st' m' w' hk hg => ?_) (fun x η' st' m' w' hk hg => hKP _ _ _ _ _ _ hk hg))
          obtain ⟨st'', h, hG', _⟩ := putS_sound hg hk (v := den η' x) (by simp [tagB])
          exact behind hq' hB' h hG'
    · rename_i j w0 hg
      split at h
      case h_1 => exact h.elim
      rename_i d hd
      split at h
      case h_2 => exact h.elim
      rename_i tg g hl
      obtain ⟨st1, h, hG1, ht1, hg1, htag1⟩ := addG_sound hG hd hl h
      have hwant := wanted_eq hG1.T hg hd (by rw [ht1]; exact hl)
      have htag : tagB st1.gs ((j, w0) :: tg) = (tagB st1.gs tg && (g == w0)) := by
        simp only [tagB, hg1]
        exact Bool.and_comm _ _
      rw [← htag] at hwant
      have fin : ∀ {x : SV}, quietO o = true → (∀ w', upon b (HQ B.η0 B.m0 hs) w w' → tagB st1.gs ((j, w0) :: tg) = true → (execOp a.eval o).run P w' = .ok (.value (den η x)) w') →
          (putS ops.toList st1 o.dst ((j, w0) :: tg) x fun st => runS T CP ops.toList hs B.m0 KP K rest st m) → wpAnyR P ops Q (relS ops sc (HQ B.η0 B.m0 hs)) (f + 1) listed a w := by
        intro x hq hx h
        obtain ⟨st', h, hG', _⟩ := putS_sound hG1 h rfl
        cases ht : tagB st1.gs ((j, w0) :: tg) with
        | true =>
          rw [ht, if_pos rfl] at hG'
          exact quiet hq (.inl ⟨by rw [hwant, ht], fun w' hS' => hx w' hS' ht⟩) fun hB' => runS_sound hCP hok hK hKP hsel hQ hnd hB' hsub' hf' h hG' hS
        | false =>
          rw [ht, if_neg (by decide)] at hG'
          exact quiet hq (.inr ⟨by rw [hwant, ht], rfl⟩) fun hB' => runS_sound hCP hok hK hKP hsel hQ hnd hB' hsub' hf' h hG' hS
      split at h
      · rename_i c x y hop
        obtain ⟨v, h, hv⟩ := pickV_sound (P := P) hG1.T h hop
        exact fin (hqp hop) (fun w' _ => hv w') h
      · rename_i op hnp
        split at h
        · rename_i hq
          obtain ⟨v, h, hv⟩ := lookV_sound hT hok hq h hG1
          exact fin ((hqo rfl hnp).trans hq) hv h
        · rename_i hq
          have hq' : quietO o = false := (hqo rfl hnp).trans hq
          obtain ⟨hgo, hskip⟩ := splitG_sound h hG1
          refine loud hq' fun hB' => ?_
          unfold wpOp
          simp only [ho, hwant]
          cases ht : tagB st1.gs ((j, w0) :: tg) with
          | true =>
            simp only [if_true]
            obtain ⟨st2, h, hG2⟩ := hgo ht
            refine .inl (loudV_sound hT hG2 hCP h (fun x η' st' m' w' hk hg => ?_) (fun x η' st' m' w' hk hg => hKP _ _ _ _ _ _ hk hg))
            obtain ⟨st'', h, hG', _⟩ := putS_sound hg hk (v := den η' x) (by simp [tagB])
            exact behind hq' hB' h hG'
          | false =>
            simp only [Bool.false_eq_true, if_false]
            obtain ⟨st2, h, hG2⟩ := hskip ht
            exact ⟨relI w hq' (fun _ h => h), runS_sound hCP hok hK hKP hsel hQ hnd hB' hsub' hf' h hG2 (fun hb => hS (by simp only [Bool.and_eq_true] at hb; exact hb.1))⟩

theorem DPs_ok (hT : TOk P T) (hm : P.follows .mixedOrders = true) {CP : CallP} (hCP : CPOk P CP) {lv : List Nat} (B : Base) : DPOk P B (DPs T CP lv) := by
  intro id ops st m K h η a w Q hG hK
  obtain ⟨ks, sc, hB, h⟩ := h
  rw [Array.toArray_toList] at hB
  simp only [orderB, Bool.and_eq_true, beq_iff_eq] at hB
  obtain ⟨⟨⟨hns, hlen⟩, hnd⟩, hsch⟩ := hB
  split at h
  case h_2 => exact h.elim
  rename_i hokst
  simp only [okSt, Bool.and_eq_true] at hokst
  obtain ⟨hs, h, hsel⟩ := selH_sound h
  -- the same, with this moment as the beginning
  have rebase : ∀ {l : List Oper} {η' : Names} {m' : Mem} {st' : St} {a' : Act} {w' : World}, Good ⟨B.w0, B.mods, m, st.nx, η⟩ l η' m' st' a' w' → Good B l η' m' st' a' w' := by
    intro l η' m' st' a' w' hG'
    have hH := hG'.H
    refine ⟨⟨hH.imm, hH.ck, hH.own, hH.apart, hH.old, hH.size, hH.os, hH.tape, hH.output, fun x o hx => hH.mle x o (hG.H.mle x o hx), fun x o hx => ?_, ⟨Nat.le_trans hG.H.par.1 hH.par.1, fun n hn => (hH.par.2 n (Nat.lt_of_lt_of_le hn hG.H.par.1)).trans (hG.H.par.2 n hn)⟩⟩, hG'.T⟩
    rcases hH.mnew x o hx with h1 | h1
    · exact hG.H.mnew x o h1
    · exact .inr h1
  have hG0 : Good ⟨B.w0, B.mods, m, st.nx, η⟩ ops.toList η m st a { w with drawn := w.drawn + 1 } := by
    have hG' := (hG.any ops.toList).drawn (w.drawn + 1)
    have hH := hG'.H
    exact ⟨⟨hH.imm, hH.ck, hH.own, hH.apart, hH.old, hH.size, hH.os, hH.tape, hH.output, fun _ _ h => h, fun _ _ h => .inl h, ⟨Nat.le_refl _, fun _ _ => rfl⟩⟩, hG'.T⟩
  have hok : ∀ n c, lookH hs n = some c → n < st.nx ∧ okC st.nx c = true := fun n c hl => okH_look hokst.2 (hsel n c hl)
  -- a panic is left with no slot known
  let Q' : Exit → Act → World → Prop := fun e a w => match e with
    | .panic c => ∃ (x : SV) (η' : Names) (st' : St) (m' : Mem), c = [{ v := den η' x, recovered := false }] ∧ K (.panic x) ⟨st'.sz, [], [], st'.h, st'.nx⟩ m' ∧ Good B [] η' m' ⟨st'.sz, [], [], st'.h, st'.nx⟩ a w
    | e => Q e a w
  have hQQ : ∀ e a w, Q' e a w → Q e a w := by
    intro e a w hq
    cases e with
    | panic c =>
      obtain ⟨x, η', st', m', rfl, hk, hg⟩ := hq
      exact hK _ _ _ _ _ _ hk hg
    | _ => exact hq
  have main := runS_sound (B := ⟨B.w0, B.mods, m, st.nx, η⟩) hT hCP (ops := ops) (Q := Q') (sc := sc) hok (fun η' st' m' a' w' h hg => ?_) (fun x η' st' m' a' w' h hg => ?_) (Region.noSelect_spec hns) (fun c a d v w hq => ?_) hnd
    (l := sc) hsch (fun _ h => h) (Nat.le_of_eq hlen) h hG0 (fun _ => ⟨hG0.H.imm, fun n c hl => ⟨trivial, (hG0.H.ck n c (hsel n c hl)).2⟩⟩)
  · exact Code.wp_mono hQQ (wp_region_any hm (wpAny_of_rel _ _ _ _ main))
  · obtain ⟨t, h, ht⟩ := clean_sound h
    have hg := rebase hg
    obtain ⟨sz, t0, gs, hp, nx⟩ := st'
    refine hK _ η' _ _ _ _ h ⟨hg.H, ⟨hg.T.sz, hg.T.df, fun k tag x hl => ?_, fun j g tg hl => by cases hl⟩⟩
    obtain ⟨rfl, _, hl'⟩ := ht k tag x hl
    exact hg.T.sl k [] x hl'
  · have hg := rebase hg
    refine ⟨x, η', st', m', rfl, ?_, hg.bare⟩
    obtain ⟨sz, t0, gs, hp, nx⟩ := st'
    exact h
  · obtain ⟨x, η', st', m', hc, hk, hg⟩ := hq
    refine ⟨x, η', st', m', hc, hk, hg.H, ⟨?_, ?_, fun k tag x hl => (by cases hl), fun j g tg hl => (by cases hl)⟩⟩
    · have := hg.T.sz
      cases d <;> simpa [Act.put] using this
    · have := hg.T.df
      cases d <;> simpa [Act.put] using this
theorem DPx_ok (hT : TOk P T) (hm : P.follows .mixedOrders = true) {CP : CallP} (hCP : CPOk P CP) {lv : List Nat} (B : Base) : DPOk P B (DPx T CP lv) := by
  intro id ops st m K h η a w Q hG hK
  rcases h with h | h
  · exact DPq_ok hT hm hCP B id ops st m K h η a w Q hG hK
  · exact DPs_ok hT hm hCP B id ops st m K h η a w Q hG hK
end
end Go.Proofs.YtaeoibnbbpgajaaDoor.Sx
