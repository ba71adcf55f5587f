/- The law ManyAlike holds: for every input, on whatever order the goroutines run in, castkeep.ManyAlike returns true and its arguments read as before; no condition (no race, every goroutine it started has left). -/
import Derived.Test.YtjplnkkcmkpkbaaMA29
import Derived.OpenShut
import Derived.Deep.Slices
import Derived.Deep.Fields
import Derived.ChangeSame
import Derived.Test.YtjplnkkcmkpkbaaRows
import Derived.Test.YtjplnkkcmkpkbaaMA53
import Derived.WalkKit
import Derived.ProofKit
import Derived.ChangeOld
import Derived.Below
import Derived.Lib.SmallJoins
import Derived.SizedLaws
import Derived.Conc.LeavingOf
set_option linter.unusedSimpArgs false
set_option linter.unusedVariables false
/- What the frame of a law tells of a slice of structs of ints, bools and strings that came in. -/
namespace Go.Proofs.Ytjplnkkcmkpkbaa
open Go.RowKit Go.ChangeShapes Go.WideShapes Go.Deep

/-- a field of one cell -/
inductive FK
  | int | bool | str
def FK.desc : FK → TypeDesc
  | .int => .int .i64
  | .bool => .bool
  | .str => .string
def FK.fits : FK → Value → Prop
  | .int, v => ∃ n : Int, v = .int .i64 n
  | .bool, v => ∃ b : Bool, v = .bool b
  | .str, v => ∃ s : ByteArray, v = .string s ∧ s.size ≤ maxLen
section
variable {H : Type} {enc : TypeId × Value → H} {P : Program} {w : World} {base : Nat} {spare : Nat → Bool} {held : Bool}
theorem open_structs {t e : TypeId} {fs : Array Field} (ks : List FK) {fuel : Nat} {cs : List Value} {x : DataW H × List MemPlace} (ht : P.underlying t = some (.slice e)) (he : P.underlying e = some (.struct fs))
    (hone : oneCellFields P fs = true) (hC : P.cellsOf e = fs.size) (hks : ∀ (j : Nat) (k : FK), ks[j]? = some k → ∃ f : Field, fs[j]? = some f ∧ P.underlying f.type = some k.desc) (h : DataW.trod enc P w base spare held fuel t cs = some x) :
    cs = [.slice none 0 0] ∨
    ∃ (a : Addr) (len cap : Nat), cs = [.slice (some a) len cap] ∧ len ≤ cap ∧ cap ≤ maxLen ∧
      ∀ i, i < len → ∀ (j : Nat) (k : FK), ks[j]? = some k → ∃ v, w.cell? (a.add (i * fs.size + j)) = some v ∧ k.fits v := by
  rcases open_slice ht h with ⟨h0, _⟩ | ⟨a, len, cap, m, n, D, Pl, hcs, hb, hl, hm, hmm, hx, hi⟩
  · exact .inl h0
  · refine .inr ⟨a, len, cap, hcs, hl, hm, fun i him j k hk => ?_⟩
    obtain ⟨f, hj, hu⟩ := hks j k hk
    have hmi : i < m := by rw [hmm]; split <;> omega
    obtain ⟨cs', hc, ht'⟩ := hi i hmi
    rw [hC] at hc
    obtain ⟨ys, n', hn', hy, hlen, hyl, hf⟩ := DataW.trod_struct he ht'
    obtain ⟨_, hcl, hat⟩ := World.cells?_some hc
    obtain ⟨ho, hk'⟩ := hone_of hone j f hj
    have hjl : j < fs.size := (Array.getElem?_eq_some_iff.1 hj).1
    have hcell := hat j hjl
    have hv : cs'[j]? = some (cs'[j]'(by omega)) := List.getElem?_eq_getElem (by omega)
    have h1 := hf j f hj
    rw [ho, hk'] at h1
    have hone' : (cs'.drop j).take 1 = [cs'[j]'(by omega)] := by
      rw [List.drop_eq_getElem_cons (by omega)]
      rfl
    rw [hone'] at h1
    have hys : ys[j]? = some (ys[j]'(by omega)) := List.getElem?_eq_getElem (by omega)
    rw [hys] at h1
    refine ⟨cs'[j]'(by omega), by rw [← Go.Deep.add_add, hcell, hv], ?_⟩
    cases k with
    | int =>
      obtain ⟨z, hz, _, _⟩ := DataW.trod_int hu h1
      exact ⟨z, by simpa using hz⟩
    | bool =>
      obtain ⟨z, hz, _⟩ := DataW.trod_bool hu h1
      exact ⟨z, by simpa using hz⟩
    | str =>
      obtain ⟨z, hz, _, hs⟩ := DataW.trod_string hu h1
      exact ⟨z, by simpa using hz, hs⟩
end
/-- what the frame tells: a slice of structs that came in -/
def IsStr (ks : List FK) (w : World) (a : Option Addr) (len cap : Nat) : Prop :=
  len ≤ cap ∧ len ≤ maxLen ∧ ((a = none ∧ len = 0 ∧ cap = 0) ∨ ∃ x : Addr, a = some x ∧ ∀ i, i < len → ∀ (j : Nat) (k : FK), ks[j]? = some k → ∃ v, w.cell? (x.add (i * ks.length + j)) = some v ∧ k.fits v)
/-- rows of structs, from their cells -/
theorem sa_structs {α : Type} (f : α → List Value) (c : Nat) (hf : ∀ x, (f x).length = c) (hc : 0 < c) (d : α) {w : World} {a : Addr} {len : Nat} (h : ∀ i, i < len → ∃ x : α, ∀ j, j < c → w.cell? (a.add (i * c + j)) = (f x)[j]?) :
    ∃ zs : List α, zs.length = len ∧ (0 < len → ∃ b off, a = ⟨b, off, none⟩) ∧ Sa w (some a) (zs.flatMap f) := by
  have ex : ∀ i, ∃ x : α, i < len → ∀ j, j < c → w.cell? (a.add (i * c + j)) = (f x)[j]? := fun i => by
    by_cases hi : i < len
    · obtain ⟨x, hx⟩ := h i hi
      exact ⟨x, fun _ => hx⟩
    · exact ⟨d, fun h => absurd h hi⟩
  obtain ⟨F, hF⟩ : ∃ F : Nat → α, ∀ i, i < len → ∀ j, j < c → w.cell? (a.add (i * c + j)) = (f (F i))[j]? := ⟨fun i => Classical.choose (ex i), fun i hi => Classical.choose_spec (ex i) hi⟩
  have hlen : ∀ n, ((List.range n).map F).flatMap f = (List.range n).flatMap fun i => f (F i) := fun n => by rw [List.flatMap_map]
  have hsp : 0 < len → ∃ b off, a = ⟨b, off, none⟩ := fun h0 => by
    have h1 := hF 0 h0 0 hc
    have h2 : (f (F 0))[0]? ≠ none := by rw [List.getElem?_eq_getElem (by rw [hf]; exact hc)]; simp
    obtain ⟨b, off, spot⟩ := a
    have hs : spot = none := by
      cases spot with
      | none => rfl
      | some s =>
        exfalso
        rw [Nat.zero_mul, Nat.add_zero] at h1
        unfold World.cell? at h1
        simp only [Addr.add, if_true] at h1
        split at h1
        · simp at h1; have := hf (F 0); rw [h1] at this; simp at this; omega
        · exact h2 h1.symm
    exact ⟨b, off, by rw [hs]⟩
  refine ⟨(List.range len).map F, by simp, hsp, fun h0 => ?_⟩
  have hl : (((List.range len).map F).flatMap f).length = len * c := by
    have : ∀ l : List α, (l.flatMap f).length = l.length * c := fun l => by
      induction l with
      | nil => simp
      | cons x r ih => rw [List.flatMap_cons, List.length_append, hf, ih, List.length_cons, Nat.add_mul]; omega
    rw [this]; simp
  rw [hl] at h0
  have hl0 : 0 < len := Nat.pos_of_mul_pos_right h0
  obtain ⟨b, off, rfl⟩ := hsp hl0
  have hget : ∀ (l : List α) (i j : Nat), i < l.length → j < c → (l.flatMap f)[i * c + j]? = (f (l.getD i d))[j]? := by
    intro l
    induction l with
    | nil => intro i j h; simp at h
    | cons x r ih =>
      intro i j h hj
      cases i with
      | zero => rw [List.flatMap_cons, Nat.zero_mul, Nat.zero_add, List.getElem?_append_left (by rw [hf]; exact hj)]; rfl
      | succ i =>
        rw [List.flatMap_cons, List.getElem?_append_right (by rw [hf, Nat.add_mul]; omega), hf, show (i + 1) * c + j - c = i * c + j by rw [Nat.add_mul]; omega, ih i j (by simpa using h) hj]
        simp
  refine ⟨b, off, rfl, ?_, fun k hk => ?_⟩
  · have h1 := hF 0 hl0 0 hc
    rw [List.getElem?_eq_getElem (by rw [hf]; exact hc)] at h1
    rw [Nat.zero_mul, Nat.add_zero] at h1
    unfold World.cell? at h1
    simp only [Addr.add, if_true] at h1
    split at h1
    · next hq => exact (Array.getElem?_eq_some_iff.1 hq).1
    · cases h1
  · rw [hl] at hk
    have hdm := Nat.div_add_mod k c
    have hki : k / c < len := Nat.div_lt_of_lt_mul (by rw [Nat.mul_comm]; exact hk)
    have hkj := Nat.mod_lt k hc
    have e : k = k / c * c + k % c := by rw [Nat.mul_comm]; omega
    have h1 := hF (k / c) hki (k % c) hkj
    rw [← e] at h1
    rw [show ((⟨b, off, none⟩ : Addr).add k) = ⟨b, off + k, none⟩ from by simp [Addr.add]] at h1
    rw [h1]
    conv => rhs; rw [e]
    rw [hget _ _ _ (by simpa using hki) hkj]
    congr 2
    simp [hki]
end Go.Proofs.Ytjplnkkcmkpkbaa
/- castkeep.ManyAlike: the law's frame, and the law. -/
namespace Go.Proofs.Ytjplnkkcmkpkbaa
open Go.RowKit Go.ChangeShapes Go.WideShapes Go.Deep

theorem rowsC_flat {α : Type} (f : α → List Value) : ∀ l : List α, l.flatMap f = rowsC f l
  | [] => rfl
  | x :: l => by rw [List.flatMap_cons, rowsC, rowsC_flat f l]
theorem IsStr.deeds {w : World} {a : Option Addr} {len cap : Nat} (h : IsStr [.int, .int, .str, .str] w a len cap) : ∃ D : List Deed, Deeds w a len D := by
  obtain ⟨h1, h2, h3⟩ := h
  rcases h3 with ⟨rfl, rfl, rfl⟩ | ⟨x, rfl, hc⟩
  · exact ⟨[], rfl, Sa.nil _ _, fun d hd => by cases hd⟩
  · obtain ⟨l, e, _, hs⟩ := sa_structs (α := {d : Deed // d.nm.size ≤ maxLen}) (fun d => deedC d.1) 4 (fun _ => rfl) (by decide) ⟨⟨0, 0, ⟨#[]⟩, ⟨#[]⟩⟩, by decide⟩ (w := w) (a := x) (len := len) (fun i hi => by
      obtain ⟨v0, c0, n0, rfl⟩ := hc i hi 0 .int rfl
      obtain ⟨v1, c1, n1, rfl⟩ := hc i hi 1 .int rfl
      obtain ⟨v2, c2, n2, rfl, hz⟩ := hc i hi 2 .str rfl
      obtain ⟨v3, c3, n3, rfl, -⟩ := hc i hi 3 .str rfl
      refine ⟨⟨⟨n0, n1, n2, n3⟩, hz⟩, fun j hj => ?_⟩
      have : j = 0 ∨ j = 1 ∨ j = 2 ∨ j = 3 := by omega
      rcases this with rfl | rfl | rfl | rfl
      · exact c0
      · exact c1
      · exact c2
      · exact c3)
    refine ⟨l.map (·.1), by rw [List.length_map]; exact e, ?_, fun d hd => ?_⟩
    · rw [← rowsC_flat, List.flatMap_map]; exact hs
    · obtain ⟨y, _, rfl⟩ := List.mem_map.1 hd
      exact y.2
theorem weightsAll_mem {H : Type} {P : Program} {e : TypeId} : ∀ {ds : List (DataW H)} {d : DataW H}, d ∈ ds → ∀ n ∈ d.weights P e, n ∈ DataW.weightsAll P e ds
  | [], _, h, _, _ => by cases h
  | x :: r, d, h, n, hn => by
    rw [DataW.weightsAll, List.mem_append]
    rcases List.mem_cons.1 h with rfl | h
    · exact .inl hn
    · exact .inr (weightsAll_mem h n hn)
/-- a cell that is read lies in a row of cells -/
theorem cell_row {w : World} {a : Addr} {v : Value} (h : w.cell? a = some v) : a.block < w.heap.size ∧ a.spot = none ∧ ∃ cs e fz, w.heap[a.block]? = some (.cells cs e fz) := by
  simp only [World.cell?] at h
  cases e : w.heap[a.block]? with
  | none => rw [e] at h; cases h
  | some o =>
    rw [e] at h
    cases o with
    | cells cs el fz =>
      refine ⟨(Array.getElem?_eq_some_iff.1 e).1, ?_, cs, el, fz, rfl⟩
      cases hs : a.spot with
      | none => rfl
      | some x => simp [hs] at h
    | _ => cases h
theorem add0 (a : Addr) : a.add 0 = a := by simp [Addr.add]
/-- what the frame tells of one job -/
structure JobRd (w : World) (v : Value) (D : List Deed) : Prop where
  ex : ∃ a n cap, v = .slice a n cap ∧ Deeds w a n D ∧ n * 48 ≤ 140737488351232 ∧ ∀ ad, a = some ad → (n = 0 ∧ cap = 0) ∨ (ad.block < w.heap.size ∧ ad.spot = none ∧ ∃ cs e fz, w.heap[ad.block]? = some (.cells cs e fz))
section
variable {H : Type} {enc : TypeId × Value → H} {w : World} {base : Nat} {held : Bool}
theorem bytes48 : Try.prog.bytesOf 28 = 48 := by kernel_rfl
theorem bytes24 : Try.prog.bytesOf 29 = 24 := by kernel_rfl
set_option maxRecDepth 100000 in
theorem open_job {fuel : Nat} {v : Value} {x : DataW H × List MemPlace} (h : DataW.trod enc Try.prog w base (fun _ => true) held fuel 29 [v] = some x) (hw : ∀ n ∈ x.1.weights Try.prog 29, n ≤ 140737488351232) : ∃ D, JobRd w v D := by
  have hopen := open_structs [.int, .int, .str, .str] Try.underlying29 Try.underlying28 (by kernel_rfl) (by kernel_rfl) (fun j k hk => match j, k, hk with | 0, _, rfl => ⟨_, rfl, Try.underlying3⟩ | 1, _, rfl => ⟨_, rfl, Try.underlying3⟩ | 2, _, rfl => ⟨_, rfl, Try.underlying9⟩ | 3, _, rfl => ⟨_, rfl, Try.underlying9⟩ | _ + 4, _, hk => by simp at hk) h
  rcases open_slice Try.underlying29 h with ⟨h0, _⟩ | ⟨a, len, cap, m, n, E, Pl, hcs, hb, hl, hm, hmm, hx, hi⟩
  · simp only [List.cons.injEq, and_true] at h0
    subst h0
    exact ⟨[], none, 0, 0, rfl, ⟨rfl, Sa.nil _ _, fun d hd => by cases hd⟩, by omega, fun ad e => by cases e⟩
  · simp only [if_true] at hmm
    subst hmm
    simp only [List.cons.injEq, and_true] at hcs
    subst hcs
    rcases hopen with h0 | ⟨a', len', cap', hcs, hl', hm', hcell⟩
    · simp at h0
    · simp only [List.cons.injEq, and_true, Value.slice.injEq, Option.some.injEq] at hcs
      obtain ⟨rfl, rfl, rfl⟩ := hcs
      obtain ⟨D, hD⟩ := IsStr.deeds (w := w) (a := some a) (len := len) (cap := m) ⟨hl, Nat.le_trans hl hm, .inr ⟨a, rfl, hcell⟩⟩
      have hz : m * 48 ≤ 140737488351232 := by
        have := hw (m * 48) (by
          rw [hx]
          simp only [DataW.weights, Try.underlying29, List.length_map, List.length_range, bytes48]
          rw [show len + (m - len) = m by omega]
          exact List.mem_cons_self)
        exact this
      refine ⟨D, some a, len, m, rfl, hD, by omega, fun ad e => ?_⟩
      cases e
      by_cases h0 : m = 0
      · exact .inl ⟨by omega, h0⟩
      · right
        obtain ⟨cs', hc, _⟩ := hi 0 (by omega)
        rw [show Try.prog.cellsOf 28 = 4 by kernel_rfl] at hc
        obtain ⟨_, hcl, hat⟩ := World.cells?_some hc
        have h1 := hat 0 (by decide)
        rw [List.getElem?_eq_getElem (by rw [hcl]; decide), Nat.zero_mul, add0, add0] at h1
        exact cell_row h1
/-- what the frame tells of the jobs -/
def JobsRd (w : World) (aJ : Option Addr) (N cap : Nat) : Prop := N ≤ cap ∧ N ≤ 5864062014634 ∧ ∃ D : Nat → List Deed, JobsIn w (fun _ => False) aJ N D ∧ ∀ k, k < N → (D k).length ≤ 5864062014634
theorem open_jobs {fuel : Nat} {aJ : Option Addr} {N cap : Nat} {x : DataW H × List MemPlace} (h : DataW.trod enc Try.prog w base (fun _ => true) held fuel 22 [.slice aJ N cap] = some x) (hw : ∀ n ∈ x.1.weights Try.prog 22, n ≤ 140737488351232) : JobsRd w aJ N cap := by
  rcases open_slice1 Try.underlying22 (by kernel_rfl) h with ⟨h0, _⟩ | ⟨a, len, cap', m, n, V, E, Pl, hcs, hb, hl, hm, hmm, hx, hi⟩
  · simp only [List.cons.injEq, and_true, Value.slice.injEq] at h0
    obtain ⟨rfl, rfl, rfl⟩ := h0
    exact ⟨Nat.le_refl _, by omega, fun _ => [], ⟨fun b h => h.elim, fun k hk => by omega⟩, fun k hk => by omega⟩
  · simp only [List.cons.injEq, and_true, Value.slice.injEq] at hcs
    obtain ⟨rfl, rfl, rfl⟩ := hcs
    simp only [if_true] at hmm
    subst hmm
    have hz : m * 24 ≤ 140737488351232 := hw (m * 24) (by
      rw [hx]
      simp only [DataW.weights, Try.underlying22, List.length_map, List.length_range, bytes24]
      rw [show N + (m - N) = m by omega]
      exact List.mem_cons_self)
    have each : ∀ r, ∃ D, r < N → JobRd w (V r) D := fun r => by
      by_cases hr : r < N
      · obtain ⟨D, hD⟩ := open_job (hi r (by omega)).2 fun n hn => hw n (by
          rw [hx]
          simp only [DataW.weights, Try.underlying22]
          exact List.mem_cons_of_mem _ (List.mem_append_left _ (weightsAll_mem (List.mem_map.2 ⟨r, List.mem_range.2 hr, rfl⟩) n hn)))
        exact ⟨D, fun _ => hD⟩
      · exact ⟨[], fun h => absurd h hr⟩
    have hD : ∀ r, r < N → JobRd w (V r) (each r).choose := fun r hr => (each r).choose_spec hr
    refine ⟨hl, by omega, fun r => (each r).choose, ⟨fun b h => h.elim, fun r hr => ?_⟩, fun r hr => ?_⟩
    · obtain ⟨a', n', c', e1, e2, e3, e4⟩ := (hD r hr).ex
      have hc := (hi r (by omega)).1
      have hc0 := (hi 0 (by omega)).1
      rw [add0] at hc0
      obtain ⟨k1, k2, _⟩ := cell_row hc0
      obtain ⟨ab, ao, sp⟩ := a
      cases sp with
      | some z => cases k2
      | none =>
        rw [show ((⟨ab, ao, none⟩ : Addr).add r) = ⟨ab, ao + r, none⟩ from by simp [Addr.add]] at hc
        refine ⟨ab, ao, a', n', c', rfl, k1, fun h => h, by rw [← e1, ← hc], e2, by omega, fun ad e => ?_⟩
        rcases e4 ad e with h0 | ⟨h1, h2, h3⟩
        · exact .inl h0
        · exact .inr ⟨h1, fun h => h, h2, h3⟩
    · obtain ⟨a', n', c', e1, e2, e3, e4⟩ := (hD r hr).ex
      have := e2.len
      show (each r).choose.length ≤ _
      omega
end
end Go.Proofs.Ytjplnkkcmkpkbaa
namespace Go.Proofs.Ytjplnkkcmkpkbaa.manyAlike
open Go.ChangeShapes Go.WideShapes Go.ChangeAt Go.RowKit Go.Conc Go.Joins
theorem own : ownKnob Try.prog.godebug = none := by kernel_rfl
theorem laidOut : laidOutB Try.prog = true := by kernel_rfl
set_option maxRecDepth 100000 in
theorem lifted (os : Os) (started : os.Started) (H : Type) (enc : TypeId × Value → H) :
    ReturnsInLeavingWide {} Try.checked os 3 .any (Rows.manyAlikeSpec.pre6 enc Try.prog Try.f3 Rows.manyAlikeRow.domain false) (Rows.manyAlikeSpec.post enc Try.prog Try.f3 false true false false) := by
  refine returnsInLeavingWide_of_change_sized (C := Try.checked) own started Try.func3
    (ChangeSpec.witness6 (enc := enc) (C := Try.checked) false ⟨#[], #[.int .i64 0, .int .i64 0, .slice none 0 0, .int .i64 0], []⟩ 8 (by kernel_rfl) (by kernel_rfl) (by kernel_rfl) (by kernel_rfl)) ?_
  intro W base args ds gs before hval0 hW hcnd hsz0 _
  have hsz : (DataW.weightsEach Try.prog (Try.f3.params.toList ++ Rows.manyAlikeSpec.plain.varTypes Try.prog) (ds ++ gs)).all (· ≤ reachBytes) = true := hsz0
  clear hsz0
  have hval : ∀ (j : Nat) t v, Try.f3.params[j]? = some t → args[j]? = some v → Value.okWide Try.prog W .any base t v := hval0
  have hW' := hW
  obtain ⟨p, q, hA0, hV, rfl, hfz, hnd⟩ := hW
  have hA : DataW.TrodAll enc Try.prog W 0 (fun _ => true) true Try.f3.params.toList args.toList ds p := hA0
  rw [Try.params3] at hA hval hsz
  obtain ⟨v0, vs0, d0, ds0, p0, q0, hargs, rfl, rfl, h0, r0⟩ := trodAll_cons hA
  obtain ⟨v1, vs1, d1, ds1, p1, q1, rfl, rfl, rfl, h1, r1⟩ := trodAll_cons r0
  obtain ⟨v2, vs2, d2, ds2, p2, q2, rfl, rfl, rfl, h2, r2⟩ := trodAll_cons r1
  obtain ⟨v3, vs3, d3, ds3, p3, q3, rfl, rfl, rfl, h3, r3⟩ := trodAll_cons r2
  obtain ⟨rfl, rfl, rfl⟩ := trodAll_nil r3
  obtain rfl : args = #[v0, v1, v2, v3] := by cases args; simp_all
  obtain ⟨rfl, rfl⟩ := trodVars_none hV
  obtain ⟨a0, rfl, rfl, rfl, w0⟩ := open_int Try.underlying3 (hval 0 3 v0 rfl rfl) h0
  obtain ⟨a1, rfl, rfl, rfl, w1⟩ := open_int Try.underlying3 (hval 1 3 v1 rfl rfl) h1
  obtain ⟨aJ, N, capJ, rfl⟩ := okWide_slice Try.underlying22 (hval 2 22 v2 rfl rfl)
  obtain ⟨a3, rfl, rfl, rfl, w3⟩ := open_int Try.underlying3 (hval 3 3 v3 rfl rfl) h3
  have k2 := h2
  have lt2 : ∀ x ∈ p2, x.block < W.heap.size := by obtain ⟨m, hm⟩ := k2; exact DataW.trod_lt m _ _ _ hm
  have hj : JobsRd W aJ N capJ := by
    obtain ⟨fuel, hf⟩ := h2
    refine open_jobs (x := (d2, p2)) hf fun n hn => ?_
    have := List.all_eq_true.1 hsz n (DataW.weights_mem_each (j := 2) rfl rfl n hn)
    have h3 : reachBytes = 140737488351232 := by decide
    have := of_decide_eq_true this
    omega
  clear hA0 hval0
  obtain ⟨hc, hN, D, hJ, hD⟩ := hj
  obtain ⟨M, last, o, w', t', e1, e2, e3, e4⟩ := manyRun (a := a0) (b := a1) (k := a3) hJ hD hN hc
  refine ⟨M, last, o, w', t', e1, e2, e3, e4.mono fun v ⟨he, bel⟩ => ?_⟩
  subst he
  exact ⟨_, _, _, [], _, [], hW', trodAll_mk1 (shut_bool Try.underlying4 _), trodAll_cons_mk (shut_int Try.underlying3 w0) (trodAll_cons_mk (shut_int Try.underlying3 w1) (trodAll_cons_mk (Below.trod laidOut (by kernel_rfl) (of_decide_eq_true (by kernel_rfl)) k2 bel lt2) (trodAll_cons_mk (shut_int Try.underlying3 w3) trodAll_mk0))), rfl, bel.frame _, fun h => by cases h⟩

theorem over : Rows.manyAlikeRow.holds Try.pinned (OpenSpec.ofChange Rows.manyAlikeSpec) :=
  OpenClaim.holds_of_wide_leaving 3 Try.f3 rfl rfl rfl rfl rfl rfl rfl ⟨rfl, rfl, rfl, rfl, rfl⟩ rfl rfl rfl rfl rfl (by kernel_rfl) Try.func3 (by kernel_rfl)
    (of_decide_eq_true (by kernel_rfl)) (by unfold Func.isWrapper; first | (rw [if_pos (by decide +kernel)]; kernel_rfl) | (rw [if_neg (by decide +kernel)]; exact ⟨rfl, rfl⟩))
    (fun os started H enc _ => lifted os started H enc)

theorem proved : Rows.ManyAlikeSaid := over
#print axioms proved
end Go.Proofs.Ytjplnkkcmkpkbaa.manyAlike
