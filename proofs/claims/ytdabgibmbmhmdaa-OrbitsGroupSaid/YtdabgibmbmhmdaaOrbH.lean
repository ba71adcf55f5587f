/- The map of what has been seen, keyed by orders. -/
import Derived.Test.YtdabgibmbmhmdaaFGq
import Derived.Test.YtdabgibmbmhmdaaOrbK
import Derived.WideKeyPair
namespace Go.Proofs.Ytdabgibmbmhmdaa
open Go.RowKit Go.Maps

theorem arr6 : Go.WideMaps.ArrKey Try.prog 91 3 6 := ⟨Try.underlying91, by kernel_rfl, by kernel_rfl, by kernel_rfl⟩
theorem lawA : Keyed Try.prog 91 := Keyed.of_law arr6.law
theorem zeroI3 (w : World) : (zeroValue 3).run Try.prog w = .ok (.int .i64 0) w := by kernel_rfl
def dK (c : Int) : DataW Unit := .lit (.int .i64 c)
/-- numbers of an order -/
def Sml (q : List Int) : Prop := q.length ≤ 6 ∧ ∀ x ∈ q, 0 ≤ x ∧ x ≤ 6
theorem wf6 {x : Int} (h : 0 ≤ x ∧ x ≤ 6) : (Lit.int .i64 x).wf = true := by
  simp [Lit.wf, go_sem]
  have e1 : IntKind.i64.min = -9223372036854775808 := by decide
  have e2 : IntKind.i64.max = 9223372036854775807 := by decide
  omega
def keyV (q : List Int) : Value := .agg (ints (pad6 q)).toArray
def kyA (q : List Int) : Lit := .string (keyBytes ((pad6 q).map (Lit.int .i64)))
theorem kyA_of {q : List Int} (h : Sml q) : keyOf Try.prog 91 (keyV q) = some (kyA q) := by
  obtain ⟨h1, h2⟩ := h
  have hm : ∀ x ∈ pad6 q, 0 ≤ x ∧ x ≤ 6 := fun x hx => by
    unfold pad6 at hx
    rcases List.mem_append.1 hx with hx | hx
    · exact h2 x hx
    · have := List.eq_of_mem_replicate hx; omega
  obtain ⟨a, b, c, d, e, f, hp⟩ := pad6_six h1
  unfold keyV kyA
  rw [hp] at hm ⊢
  have wa := wf6 (hm a (by simp))
  have wb := wf6 (hm b (by simp))
  have wc := wf6 (hm c (by simp))
  have wd := wf6 (hm d (by simp))
  have we := wf6 (hm e (by simp))
  have wf := wf6 (hm f (by simp))
  have A := arr6
  have hsz : ∃ m, Try.prog.types.size = m + 1 := ⟨Try.prog.types.size - 1, by
    have : 0 < Try.prog.types.size := of_decide_eq_true (by kernel_rfl)
    omega⟩
  have hkt := A.keyType hsz
  have he : Try.prog.underlying 3 = some (.int .i64) := Try.underlying3
  obtain ⟨m, hm⟩ := hsz
  simp only [ints, List.map_cons, List.map_nil]
  unfold keyOf
  simp only [A.hu]
  rw [if_pos (by simp [hkt, Value.formed, A.hu, A.size]), hm]
  unfold Program.keyLits
  simp only [A.hu, Value.cells]
  rw [if_pos (by rw [A.size]; rfl), show List.range 6 = [0, 1, 2, 3, 4, 5] from rfl]
  simp [A.one, Program.keyLits, he, wa, wb, wc, wd, we, wf]
theorem kyA_inj {n : Nat} {q r : List Int} (hq : Sml q) (hr : Sml r) (lq : q.length = n) (lr : r.length = n) (h : kyA q = kyA r) : q = r := by
  have h1 := kyA_of hq
  have h2 := kyA_of hr
  rw [← h] at h2
  have h3 := lawA.inj h1 h2
  unfold keyV at h3
  have h4 : ints (pad6 q) = ints (pad6 r) := by
    have := congrArg (fun v => match v with | .agg c => c.toList | _ => []) h3
    simpa using this
  have h5 : pad6 q = pad6 r := by
    unfold ints at h4
    exact List.map_inj_right (fun a b e => by simpa using e) |>.1 h4
  unfold pad6 at h5
  exact (List.append_inj h5 (by rw [lq, lr])).1
/-- a map of the call's own: what is in it has 1, all else 0 -/
structure OwnK (n B m : Nat) (D : DataW Unit) (L : List (List Int)) (w : World) : Prop where
  map : IsMap D
  at_ : ∀ q, q.length = n → Sml q → D.atKey (kyA q) (dK 0) = dK (if q ∈ L then 1 else 0)
  own : w.ownsMap Try.prog 91 (plainElem (H := Unit) Try.prog 3) B m D
namespace OwnK
variable {n B m : Nat} {D : DataW Unit} {L : List (List Int)} {w w' : World}
theorem look (h : OwnK n B m D L w) {q : List Int} (hl : q.length = n) (hs : Sml q) :
    (Instr.lookup 93 (.map (some B)) (.agg (ints (pad6 q)).toArray) false).run Try.prog w = .ok (.int .i64 (if q ∈ L then 1 else 0)) w := by
  obtain ⟨c, hrun, hat, -⟩ := World.ownsMap.lookup_int h.own lawA Try.underlying93 Try.underlying3 (zeroI3 w) (kyA_of hs)
  have h2 := h.at_ q hl hs
  rw [show (dK 0 : DataW Unit) = .lit (.int .i64 0) from rfl, hat] at h2
  unfold dK at h2
  simp only [DataW.lit.injEq, Lit.int.injEq, true_and] at h2
  rw [h2] at hrun
  exact hrun
theorem keep (h : OwnK n B m D L w) (e : w'.heap[B]? = w.heap[B]?) : OwnK n B m D L w' := by
  obtain ⟨h1, h2, es, clock, hb, rest⟩ := h
  exact ⟨h1, h2, es, clock, e.trans hb, rest⟩
theorem put (h : OwnK n B m D L w) {x : List Int} (hl : x.length = n) (hs : Sml x) (h' : w'.ownsMap Try.prog 91 (plainElem (H := Unit) Try.prog 3) B (m + 1) (D.put (kyA x) (dK 1))) : OwnK n B (m + 1) (D.put (kyA x) (dK 1)) (L ++ [x]) w' := by
  refine ⟨h.map.put _ _, fun s hsl hss => ?_, h'⟩
  by_cases e : s = x
  · rw [e, atKey_put_same h.map (show WideAt.IsKeyLit (kyA x) from trivial) _ _, if_pos (by simp)]
  · rw [atKey_put_other (fun h => e (kyA_inj hss hs hsl hl h)), h.at_ s hsl hss]
    by_cases hm : s ∈ L
    · rw [if_pos hm, if_pos (List.mem_append_left _ hm)]
    · rw [if_neg hm, if_neg (by simp [hm, e])]
theorem mono {m' : Nat} (h : OwnK n B m D L w) (hn : m ≤ m') : OwnK n B m' D L w := ⟨h.map, h.at_, h.own.mono hn⟩
theorem block (h : OwnK n B m D L w) : ∃ es clock, w.heap[B]? = some (.map es clock) := by
  obtain ⟨_, _, es, clock, hb, _⟩ := h
  exact ⟨es, clock, hb⟩
theorem start (w : World) : OwnK n w.heap.size 0 (.map []) [] (w.alloc (.map #[] 0)) :=
  ⟨isMap_empty, fun s _ _ => by rw [if_neg (by simp)]; exact WideAt.atKey_none _ (fun p hp => by cases hp), World.ownsMap_made w Try.prog 91 _⟩
end OwnK
end Go.Proofs.Ytdabgibmbmhmdaa
