/- From what is told of a statement's function to the statement's contract: it answers true, and every argument reads as it read. -/
import Derived.Test.YtaeoibnbbpgajaaDoorSxZb
import Derived.Carry
import Derived.ChangeSame
import Derived.Deep.DeepHandedRow
namespace Go.Proofs.YtaeoibnbbpgajaaDoor.Sx
open Go.RowKit Go.ChangeShapes Go.WideShapes Go.ChangeAt

theorem below_of_hold {W W' : World} {J m : Mem} {k0 : Nat} {η1 η : Names} {h : Heap} {nx : Nat} (hH : Hold ⟨W, [], J, k0, η1⟩ η m h nx W') : Below W.heap.size W W' :=
  ⟨hH.os, hH.tape, hH.output, hH.size, fun k hk => hH.old k hk (by simp)⟩

/-- A call of a function of which something is told, in a world that holds what is asked. -/
theorem law_calls {P : Program} {f : FuncId} {s : Spec} (hok : SpecOk P f s) (a : s.A) (hR : s.R a) {W : World} (hJ : ∀ b o, s.J a b = some o → W.heap[b]? = some o) (hh : s.h a = []) 
    {args : Array Value} (hargs : dent η0 (s.args a) = args.toList) (hout : ∀ b, s.out a b = .ret (.b true)) :
    Calls P f args W fun e W' => e = .returned (.bool true) ∧ Below W.heap.size W W' := by
  have h := hok.2 a hR ⟨W, [], s.J a, s.nx, η0⟩ η0 W rfl rfl rfl rfl (by
    rw [hh]
    exact ⟨hJ, (fun _ _ h => by cases h), (fun _ _ _ h => by cases h), (fun _ _ _ _ _ h => by cases h), fun _ _ _ => rfl, Nat.le_refl _, rfl, rfl, rfl, fun _ _ h => h, fun _ _ h => .inl h, Nat.le_refl _, fun _ _ => rfl⟩)
  rw [hargs, Array.toArray_toList] at h
  refine h.mono fun e W' ⟨b, η', _, hH, he⟩ => ⟨?_, below_of_hold hH⟩
  rw [he, hout]
  rfl

section
variable {H : Type} {enc : TypeId × Value → H} {P : Program}

theorem trodAll_length {w : World} {base : Nat} {sp : Nat → Bool} {hd : Bool} : ∀ {ts : List TypeId} {vs : List Value} {ds : List (DataW H)} {ps : List MemPlace}, DataW.TrodAll enc P w base sp hd ts vs ds ps → ds.length = ts.length
  | [], [], [], _, _ => rfl
  | _ :: _, _ :: _, _ :: _, _, ⟨_, _, _, h, _⟩ => by simp [trodAll_length h]

theorem trodAll_stays (hl : laidOutB P = true) {W W' : World} (hb : Below W.heap.size W W') {sp : Nat → Bool} : ∀ {ts : List TypeId} {vs : List Value} {ds : List (DataW H)} {ps : List MemPlace},
    (∀ t ∈ ts, P.readableRec t = true ∧ t < P.types.size) → DataW.TrodAll enc P W 0 (fun _ => true) true ts vs ds ps → (∀ x ∈ ps, x.block < W.heap.size ∧ sp x.block = true) → DataW.TrodAll enc P W' 0 sp true ts vs ds ps
  | [], [], [], _, _, h, _ => h
  | t :: ts, v :: vs, d :: ds, ps, ht, ⟨p, q, h1, h2, e⟩, hlt => by
    subst e
    exact ⟨p, q, WideElems.Trod_stays hl (ht t (.head _)).1 (ht t (.head _)).2 h1 (fun x hx => hb.same (hlt x (List.mem_append_left _ hx)).1) (fun x hx => (hlt x (List.mem_append_left _ hx)).2),
      trodAll_stays hl hb (fun u hu => ht u (.tail _ hu)) h2 (fun x hx => hlt x (List.mem_append_right _ hx)), rfl⟩

theorem below_kept {W W' : World} (hb : Below W.heap.size W W') (may : MemPlace → Prop) : W.keptBut W' may := by
  refine ⟨hb.os, hb.output, fun i hi => ?_⟩
  rw [hb.block i hi]
  split
  · rename_i h1 h2
    rw [h1] at h2
    cases h2
    exact ⟨rfl, rfl, rfl, fun _ _ => rfl⟩
  · rename_i h1 h2
    rw [h1] at h2
    cases h2
    exact .inr ⟨rfl, rfl⟩
  · rfl

/-- What a statement asks behind a call that answers true and leaves what there was. -/
theorem law_post {fn : Func} {sp : ChangeSpec} {W W' : World} {args : Array Value} {ds gs : List (DataW H)} {before : List MemPlace} (hb : Below W.heap.size W W') (hl : laidOutB P = true)
    (hr : ∀ t ∈ fn.params.toList, P.readableRec t = true ∧ t < P.types.size) {tb : TypeId} (hres : fn.resultTypes = #[tb]) (htb : P.underlying tb = some .bool) (hvars : sp.vars = [])
    (hfn : ∀ ds : List (DataW H), ds.length = fn.params.size → sp.fn H ds = { results := [.lit (.bool true)], args := ds })
    (hW : DataW.Whole enc P fn.params.toList sp.vars false W args.toList ds gs before) : sp.post enc P fn false true false false W args (.bool true) W' := by
  have hW' := hW
  obtain ⟨p, q, hA, hV, rfl, hz, hn⟩ := hW
  rw [hvars] at hV
  obtain ⟨rfl, rfl⟩ := trodVars_none hV
  have hlen : (ds ++ []).length = fn.params.size := by rw [List.append_nil, trodAll_length hA, Array.length_toList]
  refine ⟨ds, [], p ++ [], [], p, [], hW', ?_, ?_, ?_, below_kept hb _, fun h => by cases h⟩
  · rw [hfn _ hlen, hres]
    exact trodAll_mk1 (shut_bool htb true)
  · rw [hfn _ hlen, List.append_nil]
    exact trodAll_stays hl hb hr hA fun x hx => by
      have := hW'.lt x (List.mem_append_left _ hx)
      exact ⟨this, by simpa using this⟩
  · rw [hfn _ hlen, hvars]
    rfl
end
end Go.Proofs.YtaeoibnbbpgajaaDoor.Sx
