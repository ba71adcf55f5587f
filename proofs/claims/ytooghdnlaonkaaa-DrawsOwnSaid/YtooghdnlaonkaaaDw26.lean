/- Several of my texts in one: BotJ, BotK. -/
import Derived.Test.YtooghdnlaonkaaaDw24
import Derived.Test.YtooghdnlaonkaaaDw25
import Derived.Test.YtooghdnlaonkaaaDw17
/- bottom.Join of samples that may be. -/
namespace Go.Proofs.Ytooghdnlaonkaaa
open Go.RowKit

theorem smCells {w : World} {N : Nat} {x y : Value} (h : Sa w (some ⟨N, 0, none⟩) [x, y]) : N < w.heap.size ∧ w.cell? ⟨N, 0, none⟩ = some x ∧ w.cell? ⟨N, 1, none⟩ = some y := by
  obtain ⟨b, off, e, hb, h0⟩ := h.at 0 (by simp)
  obtain ⟨b', off', e', _, h1⟩ := h.at 1 (by simp)
  cases e
  cases e'
  exact ⟨hb, by simpa using h0, by simpa using h1⟩
theorem smOk_len {k : Nat} {l : List ByteArray} (h : SmOk k l) : l.length ≤ 30 := by
  have h1 := h.len
  have h2 := h.m2
  omega
theorem strV_one (l : List ByteArray) : ∀ u ∈ strV l, u.oneCell' = true := fun u hu => by
  obtain ⟨r, _, rfl⟩ := List.mem_map.1 hu
  rfl
set_option maxRecDepth 100000 in
set_option maxHeartbeats 8000000 in
theorem botJoin (hsort : SortsNames) (k : Nat) (l l' : List ByteArray) (n m : Nat) (a b : Option Addr) (ca cb : Nat) (w : World) (h : Sa w a (strV l)) (h' : Sa w b (strV l')) (hn : l.length = n) (hm : l'.length = m)
    (na : a = none → n = 0 ∧ ca = 0) (nb : b = none → m = 0 ∧ cb = 0) (ho : SmOk k l) (ho' : SmOk k l') :
    Calls Try.prog 41 #[.agg #[.int .i64 k, .slice a n ca], .agg #[.int .i64 k, .slice b m cb]] w (SmYes k (skS k (l ++ l')) w) := by
  obtain ⟨N, hN⟩ : ∃ N, w.heap.size = N := ⟨_, rfl⟩
  have h1 := (Fr.start w).new 71 #[.int .i64 k, .slice a n ca] [.int .i64 k, .slice a n ca] rfl 2 rfl (by omega)
  have h2 := h1.new 71 #[.int .i64 k, .slice b m cb] [.int .i64 k, .slice b m cb] rfl 2 rfl (by omega)
  have h3 := h2.new 71 #[.int .i64 0, .slice none 0 0] [.int .i64 0, .slice none 0 0] rfl 2 rfl (by omega)
  have e1 : (w.alloc (.cells #[.int .i64 k, .slice a n ca] 71)).heap.size = N + 1 := by
    show (w.heap.push _).size = _
    rw [Array.size_push, hN]
  have e2 : ((w.alloc (.cells #[.int .i64 k, .slice a n ca] 71)).alloc (.cells #[.int .i64 k, .slice b m cb] 71)).heap.size = N + 1 + 1 := by
    show ((w.heap.push _).push _).size = _
    rw [Array.size_push, Array.size_push, hN]
  rw [hN, e1, e2] at h3
  have HF0 := Lib.hid h3
  have HA := Lib.hid h; have HB := Lib.hid h'; have HN := Lib.hid hn; have HM := Lib.hid hm; have NA := Lib.hid na; have NB := Lib.hid nb; have HO := Lib.hid ho; have HO' := Lib.hid ho'; have HSort := Lib.hid hsort
  have hn30 : n ≤ 30 := by have := smOk_len ho; omega
  have hm30 : m ≤ 30 := by have := smOk_len ho'; omega
  have hk1 := ho.m1; have hk2 := ho.m2
  have HC1 := Lib.hid (botChk k l n a ca _ (h3.old h) hn (by unfold maxLen; omega))
  rw [chkB_ok.2 ho] at HC1
  clear h1 h2 h3 e1 e2 h h' hn hm na nb hsort
  go_enter Try.func41, Try.ntmps41
  go_wp2_with fail
  refine HC1.out.mono ?_; rintro e w1 ⟨rfl, hf1⟩
  have HF1 := Lib.hid (HF0.out.keep hf1.bel)
  have HC2 := Lib.hid (botChk k l' m b cb w1 (HF1.out.old HB.out) HM.out (by unfold maxLen; omega))
  rw [chkB_ok.2 HO'.out] at HC2
  obtain ⟨-, b0, b1⟩ := smCells (HF1.out.get 1 rfl)
  clear hf1 HC1 HF0
  go_wp2_with fail
  refine HC2.out.mono ?_; rintro e w2 ⟨rfl, hf2⟩
  have HF2 := Lib.hid (HF1.out.keep hf2.bel)
  clear hf2 HC2 HF1 b0 b1
  obtain ⟨-, a0, a1⟩ := smCells (HF2.out.get 2 rfl)
  obtain ⟨-, b0, b1⟩ := smCells (HF2.out.get 1 rfl)
  have g : ((k : Int) == (k : Int)) = true := beq_self_eq_true _
  go_wp2_with fail
  clear ho ho'
  refine wp_region_U [9] (fun w' : World => w'.cell? ⟨N, 0, .none⟩ = some (.int .i64 (k : Int)) ∧ w'.cell? ⟨N, 1, .none⟩ = some (.slice a n ca) ∧ w'.cell? ⟨N + 1, 0, .none⟩ = some (.int .i64 (k : Int)) ∧ w'.cell? ⟨N + 1, 1, .none⟩ = some (.slice b m cb)) (by kernel_rfl) ?_
  have hSd : (fun w' : World => w'.cell? ⟨N, 0, .none⟩ = some (.int .i64 (k : Int)) ∧ w'.cell? ⟨N, 1, .none⟩ = some (.slice a n ca) ∧ w'.cell? ⟨N + 1, 0, .none⟩ = some (.int .i64 (k : Int)) ∧ w'.cell? ⟨N + 1, 1, .none⟩ = some (.slice b m cb)) w2.drew := ⟨a0, a1, b0, b1⟩
  refine wpAnyU_takeY (i := 0) (v := ?_) rfl (by kernel_rfl) (by kernel_rfl) (by kernel_rfl) (by kernel_rfl) (fun _ _ _ h => h) (Or.inl ⟨by rfl, ?_⟩) (by assumption) ?_
  rotate_left
  · intro w _; go_simp; try with_reducible rfl
  try simp only [List.getElem_toArray]
  try simp only [List.getElem_cons_succ]
  try simp only [List.getElem_cons_zero]
  try simp only [Act.put]
  try simp only [List.setIfInBounds_toArray]
  try simp only [List.set_cons_succ]
  try simp only [List.set_cons_zero]
  refine wpAnyU_take (i := 1) (v := ?_) rfl (by kernel_rfl) (by kernel_rfl) (by kernel_rfl) (by kernel_rfl) (by kernel_rfl) (by kernel_rfl) (fun _ _ _ h => h) (Or.inl ⟨by rfl, ?_⟩) (by assumption) ?_
  rotate_left
  · intro w hSw; obtain ⟨s1, s2, s3, s4⟩ := hSw; go_simp; try with_reducible rfl
  try simp only [List.getElem_toArray]
  try simp only [List.getElem_cons_succ]
  try simp only [List.getElem_cons_zero]
  try simp only [Act.put]
  try simp only [List.setIfInBounds_toArray]
  try simp only [List.set_cons_succ]
  try simp only [List.set_cons_zero]
  refine wpAnyU_takeY (i := 2) (v := ?_) rfl (by kernel_rfl) (by kernel_rfl) (by kernel_rfl) (by kernel_rfl) (fun _ _ _ h => h) (Or.inl ⟨by rfl, ?_⟩) (by assumption) ?_
  rotate_left
  · intro w _; go_simp; try with_reducible rfl
  try simp only [List.getElem_toArray]
  try simp only [List.getElem_cons_succ]
  try simp only [List.getElem_cons_zero]
  try simp only [Act.put]
  try simp only [List.setIfInBounds_toArray]
  try simp only [List.set_cons_succ]
  try simp only [List.set_cons_zero]
  refine wpAnyU_take (i := 3) (v := ?_) rfl (by kernel_rfl) (by kernel_rfl) (by kernel_rfl) (by kernel_rfl) (by kernel_rfl) (by kernel_rfl) (fun _ _ _ h => h) (Or.inl ⟨by rfl, ?_⟩) (by assumption) ?_
  rotate_left
  · intro w hSw; obtain ⟨s1, s2, s3, s4⟩ := hSw; go_simp; try with_reducible rfl
  try simp only [List.getElem_toArray]
  try simp only [List.getElem_cons_succ]
  try simp only [List.getElem_cons_zero]
  try simp only [Act.put]
  try simp only [List.setIfInBounds_toArray]
  try simp only [List.set_cons_succ]
  try simp only [List.set_cons_zero]
  refine wpAnyU_takeY (i := 4) (v := ?_) rfl (by kernel_rfl) (by kernel_rfl) (by kernel_rfl) (by kernel_rfl) (fun _ _ _ h => h) (Or.inl ⟨by rfl, ?_⟩) (by assumption) ?_
  rotate_left
  · intro w _; go_simp; try with_reducible rfl
  try simp only [List.getElem_toArray]
  try simp only [List.getElem_cons_succ]
  try simp only [List.getElem_cons_zero]
  try simp only [Act.put]
  try simp only [List.setIfInBounds_toArray]
  try simp only [List.set_cons_succ]
  try simp only [List.set_cons_zero]
  refine wpAnyU_take (i := 5) (v := ?_) rfl (by kernel_rfl) (by kernel_rfl) (by kernel_rfl) (by kernel_rfl) (by kernel_rfl) (by kernel_rfl) (fun _ _ _ h => h) (Or.inl ⟨by rfl, ?_⟩) (by assumption) ?_
  rotate_left
  · intro w hSw; obtain ⟨s1, s2, s3, s4⟩ := hSw; go_simp; try with_reducible rfl
  try simp only [List.getElem_toArray]
  try simp only [List.getElem_cons_succ]
  try simp only [List.getElem_cons_zero]
  try simp only [Act.put]
  try simp only [List.setIfInBounds_toArray]
  try simp only [List.set_cons_succ]
  try simp only [List.set_cons_zero]
  refine wpAnyU_ready (rs := [6]) (by kernel_rfl) (by simp) ?_
  refine AllReadyU.cons rfl (fun K hK => ?_) AllReadyU.nil
  go_simp
  have hf3 := HF2.out.drew.new 40 #[.slice a n ca, .slice b m cb] [.slice a n ca, .slice b m cb] rfl 2 rfl (by omega)
  obtain ⟨P, hP⟩ : ∃ P, w2.drew.heap.size = P := ⟨_, rfl⟩
  rw [hP] at hf3
  have hP' : w2.heap.size = P := hP
  try rw [hP']
  have HF3 := Lib.hid hf3
  obtain ⟨-, a0', a1'⟩ := smCells (HF3.out.get 3 rfl)
  obtain ⟨-, b0', b1'⟩ := smCells (HF3.out.get 2 rfl)
  clear hf3
  refine hK.out _ _ (fun _ => ⟨a0', a1', b0', b1'⟩) ?_
  clear hK K
  try simp only [List.getElem_toArray]
  try simp only [List.getElem_cons_succ]
  try simp only [List.getElem_cons_zero]
  try simp only [Act.put]
  try simp only [List.setIfInBounds_toArray]
  try simp only [List.set_cons_succ]
  try simp only [List.set_cons_zero]
  refine wpAnyU_ready (rs := [7]) (by kernel_rfl) (by simp) ?_
  refine AllReadyU.cons rfl (fun K hK => ?_) AllReadyU.nil
  go_simp
  obtain ⟨hPs, p0, p1⟩ := smCells (HF3.out.get 0 rfl)
  refine (catS (strV l) (strV l') n m a b ca cb P _ (HF3.out.old HA.out) (HF3.out.old HB.out) (by rw [strV_len]; exact HN.out) (by rw [strV_len]; exact HM.out) (strV_one l) (strV_one l') (fun e => (NA.out e).symm) (fun e => (NB.out e).symm) (by omega) hPs p0 p1).mono ?_; rintro e w3 ⟨ad, cp, rfl, hf4⟩
  have hf5 := HF3.out.call hf4
  rw [show strV l ++ strV l' = strV (l ++ l') by unfold strV; rw [List.map_append]] at hf5
  have HF5 := Lib.hid hf5
  obtain ⟨-, a0', a1'⟩ := smCells (HF5.out.get 4 rfl)
  obtain ⟨-, b0', b1'⟩ := smCells (HF5.out.get 3 rfl)
  clear hf4 hf5 p0 p1
  refine hK.out _ _ (fun _ => ⟨a0', a1', b0', b1'⟩) ?_
  clear hK K
  try simp only [List.getElem_toArray]
  try simp only [List.getElem_cons_succ]
  try simp only [List.getElem_cons_zero]
  try simp only [Act.put]
  try simp only [List.setIfInBounds_toArray]
  try simp only [List.set_cons_succ]
  try simp only [List.set_cons_zero]
  refine wpAnyU_ready (rs := [8]) (by kernel_rfl) (by simp) ?_
  refine AllReadyU.cons rfl (fun K hK => ?_) AllReadyU.nil
  go_simp
  have hlen : (l ++ l').length = n + m := by rw [List.length_append, HN.out, HM.out]
  have hz : ∀ x ∈ l ++ l', x.size ≤ 12 := fun x hx => by
    rcases List.mem_append.1 hx with hx | hx
    · exact HO.out.sz x hx
    · exact HO'.out.sz x hx
  refine (botLst HSort.out k (l ++ l') (n + m) ad cp w3 (HF5.out.get 0 rfl) hlen (HF5.out.none) (by omega) hz).mono ?_; rintro e w4 ⟨ad5, cp5, rfl, hf6⟩
  have HF6 := Lib.hid (HF5.out.call hf6)
  obtain ⟨-, a0', a1'⟩ := smCells (HF6.out.get 5 rfl)
  obtain ⟨-, b0', b1'⟩ := smCells (HF6.out.get 4 rfl)
  clear hf6 hz
  refine hK.out _ _ (fun _ => ⟨a0', a1', b0', b1'⟩) ?_
  clear hK K
  try simp only [List.getElem_toArray]
  try simp only [List.getElem_cons_succ]
  try simp only [List.getElem_cons_zero]
  try simp only [Act.put]
  try simp only [List.setIfInBounds_toArray]
  try simp only [List.set_cons_succ]
  try simp only [List.set_cons_zero]
  obtain ⟨q, hq⟩ : ∃ q, (skS k (l ++ l')).length = q := ⟨_, rfl⟩
  rw [hq] at HF6
  have h6 : Fr w w4 [⟨71, .slice (some ⟨N + 1 + 1, 0, none⟩) 2 2, [.int .i64 0, .slice none 0 0]⟩, ⟨9, .slice ad5 q cp5, strV (skS k (l ++ l'))⟩] := (HF6.out.sub (M := [⟨9, .slice ad5 q cp5, strV (skS k (l ++ l'))⟩, ⟨71, .slice (some ⟨N + 1 + 1, 0, none⟩) 2 2, [.int .i64 0, .slice none 0 0]⟩]) (.cons_cons _ (.cons _ (.cons _ (.cons_cons _ (.cons _ (.cons _ .slnil))))))).swap
  obtain ⟨g', e, -, -, t1, t2⟩ := h6.open (by simp)
  cases e
  have c0 := t1 0 (by simp)
  have c1 := t1 1 (by simp)
  simp only [List.getElem?_cons_zero, List.getElem?_cons_succ] at c0 c1
  have f0 := t2 0
  have f1 := t2 1
  have h7 := (h6.set 0 (.int .i64 (k : Int))).set 1 (.slice ad5 q cp5)
  obtain ⟨g', e, -, -, t1, -⟩ := h7.open (by simp)
  cases e
  have z0 := t1 0 (by simp)
  have z1 := t1 1 (by simp)
  simp only [List.set_cons_zero, List.set_cons_succ, List.getElem?_cons_zero, List.getElem?_cons_succ] at z0 z1
  have HF7 := Lib.hid h7.tail
  have HQ := Lib.hid hq
  clear t1 t2 h6 h7
  refine wpAnyU_ready (rs := [9]) (by kernel_rfl) (by simp) ?_
  refine AllReadyU.cons rfl (fun K hK => ?_) AllReadyU.nil
  go_simp
  try rw [hq]
  refine hK.out _ _ (fun h => absurd h (by decide +kernel)) ?_
  clear hK K
  try simp only [List.getElem_toArray]
  try simp only [List.getElem_cons_succ]
  try simp only [List.getElem_cons_zero]
  try simp only [Act.put]
  try simp only [List.setIfInBounds_toArray]
  try simp only [List.set_cons_succ]
  try simp only [List.set_cons_zero]
  refine wpAnyU_ready (rs := [10]) (by kernel_rfl) (by simp) ?_
  refine AllReadyU.cons rfl (fun K hK => ?_) AllReadyU.nil
  go_simp
  refine hK.out _ _ (fun h => absurd h (by decide +kernel)) ?_
  clear hK K
  try simp only [List.getElem_toArray]
  try simp only [List.getElem_cons_succ]
  try simp only [List.getElem_cons_zero]
  try simp only [Act.put]
  try simp only [List.setIfInBounds_toArray]
  try simp only [List.set_cons_succ]
  try simp only [List.set_cons_zero]
  refine wpAnyU_done (by kernel_rfl) ?_ _
  go_wp2_with fail
  (try simp only [Exit.inBlock, Exit.then])
  refine bodyPost_ret (v := .tuple #[.agg #[.int .i64 k, .slice ad5 q cp5], .int .i64 0]) ?_ ?_ ?_
  · simp [results, Try.results41, go_sem, z0, z1]
  · rfl
  · exact ⟨ad5, cp5, by rw [HQ.out], by rw [HQ.out]; exact HF7.out⟩
end Go.Proofs.Ytooghdnlaonkaaa
/- castkeep.bottoms and castkeep.sameSample. -/
namespace Go.Proofs.Ytooghdnlaonkaaa
open Go.RowKit

theorem setS_two {l : List ByteArray} {x y : ByteArray} (hx : x ∈ l) (hy : y ∈ l) (hne : x ≠ y) : 2 ≤ (setS l).length := by
  obtain ⟨h1, h2⟩ := setS_in l
  have hx := (h2 x).2 hx
  have hy := (h2 y).2 hy
  rcases hl : setS l with _ | ⟨u, _ | ⟨v, r⟩⟩
  · rw [hl] at hx; cases hx
  · rw [hl] at hx hy
    exact absurd ((List.mem_singleton.1 hx).trans (List.mem_singleton.1 hy).symm) hne
  · simp
def nm4 : List ByteArray := [⟨#[97]⟩, ⟨#[98]⟩, ⟨#[97]⟩, ⟨#[99]⟩]
theorem nm4_len : (skS 2 nm4).length = 2 := by
  have h : 2 ≤ (setS nm4).length := setS_two (x := ⟨#[97]⟩) (y := ⟨#[98]⟩) List.mem_cons_self (List.mem_cons_of_mem _ List.mem_cons_self) (by decide)
  unfold skS
  rw [List.length_take]; omega
theorem nm4_sz : ∀ x ∈ nm4, x.size ≤ 12 := by
  intro x hx
  unfold nm4 at hx
  simp only [List.mem_cons, List.not_mem_nil, or_false] at hx
  rcases hx with rfl | rfl | rfl | rfl <;> decide
set_option maxRecDepth 100000 in
set_option maxHeartbeats 4000000 in
theorem bottomsOk (hsort : SortsNames) (w : World) : Calls Try.prog 36 #[] w (RetB true w) := by
  obtain ⟨N, hN⟩ : ∃ N, w.heap.size = N := ⟨_, rfl⟩
  have h1 := (Fr.start w).new 9 #[.string ⟨#[97]⟩, .string ⟨#[98]⟩, .string ⟨#[97]⟩, .string ⟨#[99]⟩] (strV nm4) rfl 4 rfl (by omega)
  rw [hN] at h1
  have HF1 := Lib.hid h1
  have HO := Lib.hid (fun cap => botOf hsort 2 nm4 4 (some ⟨N, 0, none⟩) cap _ (h1.get 0 rfl) rfl (fun h => by cases h) (by omega) (by omega) (by omega))
  clear h1 hsort
  go_enter Try.func36, Try.ntmps36
  go_wp2_with fail
  refine (HO.out _).mono ?_; rintro e w1 hp
  rcases hp with ⟨-, ad, cp, rfl, hf⟩ | ⟨⟨x, hx, hz⟩, -⟩
  · rw [nm4_len] at hf ⊢
    obtain ⟨P, hP⟩ : ∃ P, w1.heap.size = P := ⟨_, rfl⟩
    have h2 := (HF1.out.call hf).new 71 #[.int .i64 2, .slice ad 2 cp] [.int .i64 2, .slice ad 2 cp] rfl 2 rfl (by omega)
    rw [hP] at h2
    have HF2 := Lib.hid h2
    obtain ⟨-, c0, c1⟩ := smCells (h2.get 0 rfl)
    have HCk := Lib.hid (botChk 2 (skS 2 nm4) 2 ad cp _ (h2.get 1 rfl) nm4_len (by decide))
    rw [chkB_ok.2 (show SmOk 2 (skS 2 nm4) from sk_ok 2 nm4 (by omega) (by omega) nm4_sz)] at HCk
    rw [show ((2 : Nat) : Int) = 2 from rfl]
    clear h2 hf HO HF1
    go_wp2_with fail
    refine HCk.out.mono ?_; rintro e w2 ⟨rfl, hf2⟩
    go_wp2_with fail
    go_ret
    exact ⟨rfl, (HF2.out.keep hf2.bel).below⟩
  · exact absurd (nm4_sz x hx) (by omega)
end Go.Proofs.Ytooghdnlaonkaaa
