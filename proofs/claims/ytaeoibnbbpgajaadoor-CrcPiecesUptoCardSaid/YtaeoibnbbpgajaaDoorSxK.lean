/- Symbolic execution, eleventh text: every quiet operation is evaluated rightly. -/
import Derived.Test.YtaeoibnbbpgajaaDoorSxJa
import Derived.Laws.IdiomStrings
import Derived.Laws.BytesArg
namespace Go.Proofs.YtaeoibnbbpgajaaDoor.Sx

section
variable {P : Program} {T : Tbl} (hT : TOk P T) {B : Base} {η : Names} {m : Mem} {w : World} {ops : List Oper} {st : St} {a : Act}
  (ht : HoldT ops η st a)

theorem nth_sound {K : SV → Prop} : ∀ {l : List SV} {n : Nat}, nth l n K → ∃ v, K v ∧ ∀ η, (dent η l)[n]? = some (den η v)
  | [], _, h => h.elim
  | x :: _, 0, h => ⟨x, h, fun η => by simp [dent]⟩
  | x :: r, n + 1, h => by
    obtain ⟨v, hk, hv⟩ := nth_sound (l := r) h
    exact ⟨v, hk, fun η => by simpa [dent] using hv η⟩

theorem conv_empty {a b e : TypeId} (ha : P.underlying a = some (.slice e)) (he : P.underlying e = some (.int .u8)) (hb : P.underlying b = some .string) (A : Option Addr) (c : Nat) :
    (convert a b (.slice A 0 c)).run P w = .ok (.string ByteArray.empty) w := by
  cases A with
  | none => exact run_convert_bytes_nil w a e ha he 0 c b hb
  | some ad => exact run_convert_bytes_back w a b e ad c [] ha he hb (fun j hj => by cases hj)
theorem bytes_eta (s : ByteArray) : (⟨s.data.toList.toArray⟩ : ByteArray) = s := by cases s; simp
theorem bytes_nil {s : ByteArray} (h : s.size = 0) : s = ByteArray.empty := by
  cases s with
  | mk d =>
    have : d = #[] := Array.eq_empty_of_size_eq_zero h
    subst this
    rfl
theorem bytesL_get {s : ByteArray} {j : Nat} (hj : j < s.data.toList.length) : (bytesL s)[j]? = some (.int .u8 ((s.data.toList[j]).toNat : Int)) := by
  unfold bytesL
  rw [List.getElem?_map, List.getElem?_eq_getElem hj]
  rfl
theorem bytesL_len (s : ByteArray) : (bytesL s).length = s.size := by simp [bytesL]

include hT in
theorem textV_sound {h : Heap} {C : Prop → Prop} {Tg : Prop} (hC : ∀ c, C c → Tg → c) {a b : TypeId} {x : SV} {K : SV → Prop} (hl : textV T h m C a b x K) :
    ∃ v, K v ∧ ∀ w : World, HQ η m h w → (Tg → (convert a b (den η x)).run P w = .ok (den η v) w) := by
  have conv : convV T a b x K → ∃ v, K v ∧ ∀ w : World, HQ η m h w → (Tg → (convert a b (den η x)).run P w = .ok (den η v) w) := fun h => by
    obtain ⟨v, hk, hv⟩ := convV_sound hT h
    exact ⟨v, hk, fun w _ _ => hv w⟩
  unfold textV at hl
  split at hl
  case h_2 => exact hl.elim
  rename_i ta tb hta htb
  have hua := (hT a ta hta).1
  have hub := (hT b tb htb).1
  split at hl
  · rename_i e A n c hda hdb
    rw [hda] at hua
    rw [hdb] at hub
    split at hl
    case h_2 => exact hl.elim
    rename_i te hte
    have hue := (hT e te hte).1
    split at hl
    case h_2 => exact hl.elim
    rename_i hde
    rw [hde] at hue
    obtain ⟨s, hc, hk⟩ := hl
    refine ⟨_, hk, fun w hH ht => ?_⟩
    obtain ⟨hn, hr⟩ := hC _ hc ht
    simp only [den]
    rcases Nat.eq_zero_or_pos n with h0 | hp
    · subst h0
      rw [bytes_nil hn]
      exact conv_empty hua hue hub A c
    · obtain ⟨ad, rfl, hlen, hcell⟩ := hr hp
      have hlen' : s.data.toList.length = n := by rw [← hn]; simp
      have := run_convert_bytes_back w a b e ad c s.data.toList hua hue hub (fun j hj => mcell_cell hH (by have := hcell j _ (bytesL_get hj); rwa [Nat.zero_add] at this))
      rw [hlen', bytes_eta] at this
      exact this
  · rename_i e r n hda hdb
    rw [hda] at hua
    rw [hdb] at hub
    split at hl
    case h_2 => exact hl.elim
    rename_i te hte
    have hue := (hT e te hte).1
    split at hl
    case h_2 => exact hl.elim
    rename_i hde
    rw [hde] at hue
    split at hl
    case h_2 => exact hl.elim
    rename_i e' z k xs hlk
    split at hl
    case h_2 => exact hl.elim
    rename_i hz
    obtain rfl := beq_eq hz
    obtain ⟨s, hc, hk⟩ := hl
    refine ⟨_, hk, fun w hH ht => ?_⟩
    obtain ⟨hn, hr⟩ := hC _ hc ht
    obtain ⟨⟨hxl, _⟩, hrow⟩ := (hH.ck r _ hlk).2
    have hsz : s.size = n := by rw [← bytesL_len, ← hr, List.length_take, hxl]; omega
    simp only [den]
    rcases hrow with ⟨_, hk0, _⟩ | ⟨bl, cur, hA, _, hb, _, _, _, htake⟩
    · obtain rfl : n = 0 := by omega
      rw [bytes_nil hsz]
      exact conv_empty hua hue hub _ _
    · rw [hA]
      have hlen' : s.data.toList.length = n := by rw [← hsz]; simp
      have := run_convert_bytes_back w a b e ⟨bl, 0, none⟩ (η r).cap s.data.toList hua hue hub (fun j hj => by
        rw [add_base, cell_of_row w bl j cur e' (0, 0) hb]
        have h1 := bytesL_get hj
        rw [← hr, List.getElem?_take, if_pos (by omega), ← htake, List.getElem?_take, if_pos (by omega)] at h1
        simpa using h1)
      rw [hlen', bytes_eta] at this
      exact this
  · exact conv hl

include hT ht in
theorem quietV_sound {o : Oper} {tag : Tag} {K : SV → Prop} (hq : isQuiet o.op = true) (h : quietV T st m tag o.op K) :
    ∃ x, K x ∧ ∀ w : World, HQ η m st.h w → (tagB st.gs tag = true → (execOp a.eval o).run P w = .ok (.value (den η x)) w) := by
  have hC : ∀ c, gc st.gs tag c → tagB st.gs tag = true → c := fun c => gc_out
  obtain ⟨dst, op, ty, pos, after, guard⟩ := o
  cases op <;> first | cases hq | skip
  case move x | assign x =>
    obtain ⟨v, hk, hv⟩ := argAt_sound ht h
    exact ⟨v, hk, fun w hH htag => by simp only [execOp, hv htag]; rfl⟩
  case build t ps =>
    obtain ⟨vs, hl, hvs⟩ := pairs_sound ht h
    split at hl
    · rename_i ti hti
      have hu := (hT t ti hti).1
      split at hl
      · rename_i fs zs hd hzs
        rw [hd] at hu
        split at hl
        · rename_i hfo
          obtain ⟨cs', hk, hf⟩ := fill_sound η (place := fun i => (fs.toList.map fun f => (f.offset, ((T.at f.type).map (·.size)).getD 0))[i]?)
            (fun i f ti hf hti => by rw [List.getElem?_map, fieldOf_get hf]; simp [hti]) hl
          refine ⟨_, hk, fun w hH htag => ?_⟩
          have hz := run_zero hT η (w := w) hti
          rw [hzs] at hz
          have hpl := run_places hT (w := w) hfo
          have hvs := hvs htag
          have hps : (ps.map fun (p : Nat × Operand) => (p.1, a.eval p.2)).toList = vs.map fun p => (p.1, den η p.2) := by rw [Array.toList_map]; exact hvs
          have hpl' : (fs.mapM fun f => (do pure (f.offset, ← sizeOf f.type) : Sem (Nat × Nat))).run P w = .ok (fs.toList.map fun f => (f.offset, ((T.at f.type).map (·.size)).getD 0)).toArray w := by
            rw [Array.mapM_eq_mapM_toList]
            simp only [Sem.run_map, hpl]
            rfl
          simp only [execOp, Instr.build, Sem.run_bind, hz, Result.andThen_ok, run_underlying hu, den, Value.cells, hpl']
          simp only [hps, List.getElem?_toArray]
          rw [hf]
          rfl
        · exact hl.elim
      · rename_i n e zs hd hzs
        rw [hd] at hu
        split at hl
        · rename_i te hte
          obtain ⟨cs', hk, hf, _⟩ := fillA_sound η hl
          refine ⟨_, hk, fun w hH htag => ?_⟩
          have hz := run_zero hT η (w := w) hti
          rw [hzs] at hz
          have hs := run_size hT (w := w) hte
          have hvs := hvs htag
          have hps : (ps.map fun (p : Nat × Operand) => (p.1, a.eval p.2)).toList = vs.map fun p => (p.1, den η p.2) := by rw [Array.toList_map]; exact hvs
          simp only [execOp, Instr.build, Sem.run_bind, hz, Result.andThen_ok, run_underlying hu, den, Value.cells, hs]
          simp only [hps]
          rw [hf]
          rfl
        · exact hl.elim
      · exact hl.elim
    · exact hl.elim
  case load t x =>
    obtain ⟨v, hl, hv⟩ := argAt_sound ht h
    obtain ⟨u, hk, hu⟩ := loadV_sound (η := η) hT hC hl
    exact ⟨u, hk, fun w hH htag => by simp only [execOp, hv htag, Sem.run_bind, hu w hH htag, Result.andThen_ok]; rfl⟩
  case nilCheck x =>
    obtain ⟨v, hl, hv⟩ := argAt_sound ht h
    split at hl
    · obtain ⟨hk, hb⟩ := live_sound (η := η) (m := m) hC hl
      refine ⟨_, hk, fun w hH htag => ?_⟩
      obtain ⟨b, hA⟩ := hb w hH htag
      simp only [execOp, hv htag, den, hA, Option.map_some]
      rfl
    · rename_i A o
      refine ⟨_, hl.2, fun w hH htag => ?_⟩
      obtain ⟨ad, rfl⟩ := Option.isSome_iff_exists.1 (hC _ hl.1 htag)
      simp only [execOp, hv htag, den, Option.map_some]
      rfl
    · exact hl.elim
  case binOp op tx x y ty' =>
    obtain ⟨v, hl, hv⟩ := argAt_sound ht h
    obtain ⟨u, hl, hu⟩ := argAt_sound ht hl
    obtain ⟨r, hk, hr⟩ := binV_sound (η := η) (m := m) (ox := x) (oy := y) hT hC hl
    refine ⟨r, hk, fun w hH htag => ?_⟩
    obtain ⟨hg, hr⟩ := hr w hH htag
    simp only [execOp, hv htag, hu htag, Sem.run_bind, hg, hr, Result.andThen_ok]
    rfl
  case unOp op tx x =>
    obtain ⟨v, hl, hv⟩ := argAt_sound ht h
    obtain ⟨r, hk, hr⟩ := unOpV_sound η (P := P) hl
    exact ⟨r, hk, fun w hH htag => by simp only [execOp, hv htag, Sem.run_bind, hr w, Result.andThen_ok]; rfl⟩
  case convert s d x =>
    obtain ⟨v, hl, hv⟩ := argAt_sound ht h
    obtain ⟨r, hk, hr⟩ := textV_sound (η := η) hT hC hl
    exact ⟨r, hk, fun w hH htag => by simp only [execOp, hv htag, Sem.run_bind, hr w hH htag, Result.andThen_ok]; rfl⟩
  case makeInterface t x =>
    obtain ⟨v, hl, hv⟩ := argAt_sound ht h
    split at hl
    · rename_i ti hti
      have hu := (hT t ti hti).1
      split at hl
      · exact hl.elim
      · rename_i hni
        refine ⟨_, hl, fun w hH htag => ?_⟩
        simp only [execOp, hv htag, Sem.run_bind, Instr.makeInterface, run_underlying hu, Result.andThen_ok]
        rfl
    · exact hl.elim
  case makeFunc fn first caught =>
    cases fn <;> first | exact h.elim | skip
    rename_i f
    obtain ⟨vs, hl, hv⟩ := argsAt_sound ht h
    obtain ⟨us, hk, hu⟩ := argsAt_sound ht hl
    refine ⟨_, hk, fun w hH htag => ?_⟩
    have h1 : (first.map a.eval) = (dent η vs).toArray := by rw [← Array.toList_inj, Array.toList_map]; exact hv htag
    have h2 : (caught.map a.eval) = (dent η us).toArray := by rw [← Array.toList_inj, Array.toList_map]; exact hu htag
    simp only [execOp, h1, h2, Instr.makeFunc]
    rfl
  case slice t x lo hi mx =>
    cases mx with
    | some _ => exact h.elim
    | none =>
      obtain ⟨v, hl, hv⟩ := argAt_sound ht h
      obtain ⟨l, hl, hlo⟩ := optArg_sound ht hl
      obtain ⟨u, hl, hhi⟩ := optArg_sound ht hl
      obtain ⟨r, hk, hr⟩ := sliceV_sound (η := η) (m := m) hT hC hl
      exact ⟨r, hk, fun w hH htag => by simp only [execOp, hv htag, hlo htag, hhi htag, Option.map_none, Sem.run_bind, hr w hH htag, Result.andThen_ok]; rfl⟩
  case fieldAddr t x f =>
    obtain ⟨v, hl, hv⟩ := argAt_sound ht h
    obtain ⟨r, hk, hr⟩ := fieldAddrV_sound (η := η) (m := m) hT hC hl
    exact ⟨r, hk, fun w hH htag => by simp only [execOp, hv htag, Sem.run_bind, hr w hH htag, Result.andThen_ok]; rfl⟩
  case field t x f =>
    obtain ⟨v, hl, hv⟩ := argAt_sound ht h
    obtain ⟨r, hk, hr⟩ := fieldV_sound (η := η) hT hl
    exact ⟨r, hk, fun w hH htag => by simp only [execOp, hv htag, Sem.run_bind, hr w, Result.andThen_ok]; rfl⟩
  case indexAddr t x ix =>
    obtain ⟨v, hl, hv⟩ := argAt_sound ht h
    obtain ⟨u, hl, hu⟩ := argAt_sound ht hl
    obtain ⟨r, hk, hr⟩ := indexAddrV_sound (η := η) (m := m) hT hC hl
    exact ⟨r, hk, fun w hH htag => by simp only [execOp, hv htag, hu htag, Sem.run_bind, hr w hH htag, Result.andThen_ok]; rfl⟩
  case index t x ix =>
    obtain ⟨v, hl, hv⟩ := argAt_sound ht h
    obtain ⟨u, hl, hu⟩ := argAt_sound ht hl
    obtain ⟨r, hk, hr⟩ := indexV_sound (η := η) hT hC hl
    exact ⟨r, hk, fun w hH htag => by simp only [execOp, hv htag, hu htag, Sem.run_bind, hr w htag, Result.andThen_ok]; rfl⟩
  case extract x n =>
    obtain ⟨v, hl, hv⟩ := argAt_sound ht h
    split at hl
    · obtain ⟨r, hk, hr⟩ := nth_sound hl
      refine ⟨r, hk, fun w hH htag => ?_⟩
      have := hr η
      simp only [execOp, hv htag, den, Instr.extract, List.getElem?_toArray, this]
      rfl
    · exact hl.elim
  case call c =>
    obtain ⟨callee, args, argTypes⟩ := c
    cases callee <;> first | cases hq | skip
    rename_i b
    obtain ⟨vs, hl, hv⟩ := argsAt_sound ht h
    obtain ⟨r, hk, hr⟩ := builtinV_sound (η := η) (ty := ty) (cs := args.map fun | .const _ => true | _ => false) hT hl
    refine ⟨r, hk, fun w hH htag => ?_⟩
    have h1 : (args.map a.eval) = (dent η vs).toArray := by rw [← Array.toList_inj, Array.toList_map]; exact hv htag
    simp only [execOp, resolve, h1, Sem.run_bind, Sem.run_pure, Result.andThen_ok, invoke]
    exact hr w
end
end Go.Proofs.YtaeoibnbbpgajaaDoor.Sx
