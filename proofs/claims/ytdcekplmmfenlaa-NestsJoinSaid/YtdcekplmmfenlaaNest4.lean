/- Contracts of nests.Check and nests.Of. -/
import Derived.Test.YtdcekplmmfenlaaNest2
import Derived.Test.YtdcekplmmfenlaaArr2
import Derived.Laws.IdiomStrings
namespace Go.Proofs.Ytdcekplmmfenlaa
open Go.RowKit

/-- what Check tells of the bytes that are left, at a height -/
def chkL : List UInt8 → Nat → Int
  | [], h => if 0 < h then 6 else 0
  | c :: r, h => if c = 40 then chkL r (h + 1) else if c = 41 then (match h with | 0 => 3 | h + 1 => chkL r h) else 1
theorem chkL_open (r : List UInt8) (h : Nat) : chkL (40 :: r) h = chkL r (h + 1) := by simp [chkL]
theorem chkL_close (r : List UInt8) (h : Nat) : chkL (41 :: r) (h + 1) = chkL r h := by simp [chkL]
theorem chkL_low (r : List UInt8) : chkL (41 :: r) 0 = 3 := by simp [chkL]
theorem chkL_bad (c : UInt8) (r : List UInt8) (h : Nat) (h1 : c ≠ 40) (h2 : c ≠ 41) : chkL (c :: r) h = 1 := by simp [chkL, h1, h2]
theorem chkL_ok (c : UInt8) (r : List UInt8) (h : Nat) (e : chkL (c :: r) h = 0) : (c = 40 ∧ chkL r (h + 1) = 0) ∨ (c = 41 ∧ ∃ g, h = g + 1 ∧ chkL r g = 0) := by
  by_cases h1 : c = 40
  · subst h1; rw [chkL_open] at e; exact .inl ⟨rfl, e⟩
  · by_cases h2 : c = 41
    · subst h2
      cases h with
      | zero => rw [chkL_low] at e; cases e
      | succ g => rw [chkL_close] at e; exact .inr ⟨rfl, g, rfl, e⟩
    · rw [chkL_bad c r h h1 h2] at e; cases e
theorem run_idx (s : ByteArray) (k : Nat) (c : UInt8) (hc : s.data.toList[k]? = some c) (w : World) :
    Sem.run Try.prog (Instr.index 9 (.string s) (.int .i64 (k : Int))) w = .ok (.int .u8 ((c.toNat : Nat) : Int)) w := by
  obtain ⟨h1, h2⟩ := List.getElem?_eq_some_iff.1 hc
  have h3 : k < s.size := by rw [Array.length_toList] at h1; exact h1
  rw [run_index_string w 9 s .i64 (k : Int) Try.underlying9, dif_pos (by omega)]
  congr 2
  have : s[((k : Int)).toNat]'(by simpa using h3) = c := by
    rw [← h2]; simp; rfl
  rw [this]
def chkS (l : List UInt8) : Int := if 30 < l.length then 2 else chkL l 0
theorem bytes_at (w : World) (s : ByteArray) (cap : Nat) (T : TypeId) (fr : Nat × Nat) (k : Nat) (hk : k < s.data.toList.length) :
    (w.alloc (.cells (bytesRow s cap) T fr)).cell? ⟨w.heap.size, k, none⟩ = some (.int .u8 ((s.data.toList[k].toNat : Nat) : Int)) := by
  have hk2 : k < s.data.size := by simpa using hk
  have : (w.alloc (.cells (bytesRow s cap) T fr)).heap[w.heap.size]? = some (.cells (bytesRow s cap) T fr) := by
    show (w.heap.push _)[w.heap.size]? = _
    exact Array.getElem?_push_size
  unfold World.cell?
  rw [show ((⟨w.heap.size, k, none⟩ : Addr).block) = w.heap.size from rfl, this]
  simp only [bytesRow_at s cap k hk2]
  simp
theorem run_bytes (w : World) (s : ByteArray) : Sem.run Try.prog (convert 9 57 (.string s)) w = .ok (.slice (some ⟨w.heap.size, 0, none⟩) s.size (grownCap w s.size 0 5))
      (w.drew.alloc (.cells (bytesRow s (grownCap w s.size 0 5)) 5 ((bytesRow s (grownCap w s.size 0 5)).size, (bytesRow s (grownCap w s.size 0 5)).size + 1))) :=
  run_bytes_of_string w 9 57 5 s Try.underlying9 Try.underlying57 Try.underlying5
def RetI (v : Int) (w : World) (e : Ending) (w' : World) : Prop := e = .returned (.int .i64 v) ∧ Fr w w' []

set_option maxHeartbeats 1000000 in
theorem nestChk (s : ByteArray) (w : World) (hs : s.size ≤ maxLen) : Calls Try.prog 23 #[.string s] w (RetI (chkS s.data.toList) w) := by
  unfold maxLen at hs
  obtain ⟨n, hn⟩ : ∃ n, s.size = n := ⟨_, rfl⟩
  have hl : s.data.toList.length = n := by rw [← hn, Array.length_toList]; rfl
  rw [hn] at hs
  have HL := Lib.hid hl; have HN := Lib.hid hn
  clear hl
  by_cases h30 : 30 < n
  · have hC := Lib.hid (show chkS s.data.toList = 2 from by unfold chkS; rw [if_pos (by rw [HL.out]; exact h30)])
    go_enter Try.func23, Try.ntmps23
    go_wp2_with fail
    go_ret
    exact ⟨by rw [hC.out]; rfl, Fr.start w⟩
  · have hC := Lib.hid (show chkS s.data.toList = chkL s.data.toList 0 from by unfold chkS; rw [if_neg (by rw [HL.out]; exact h30)])
    have hconv := run_bytes w s
    have hd : decide ((30 : Int) < (n : Int)) = false := decide_eq_false (by omega)
    rw [hn] at hconv
    go_enter Try.func23, Try.ntmps23
    go_wp2_with fail
    have HB : Hid (∀ cap fr k (hk : k < s.data.toList.length), ((w.alloc (.cells (bytesRow s cap) 5 fr)).drew).cell? ⟨w.heap.size, k, none⟩ = some (.int .u8 ((s.data.toList[k].toNat : Nat) : Int))) :=
      Lib.hid fun cap fr k hk => bytes_at w s cap 5 fr k hk
    have HF : Hid (∀ o, Fr w (w.alloc o).drew []) := Lib.hid fun o => ((Fr.start w).alloc o).drew
    clear hconv hd
    generalize grownCap w n 0 5 = cap at *
    generalize s.data.toList = l at *
    go_loop [3, 12] (fun h i => ∃ k hh : Nat, k ≤ n ∧ hh ≤ k ∧ i = .int .i64 k ∧ h = .int .i64 hh ∧ Hid (chkL (l.drop k) hh = chkL l 0)) (fun _ i => n - (intOf i).toNat)
    case atStart => exact ⟨0, 0, by omega, by omega, rfl, rfl, Lib.hid rfl⟩
    case round =>
      obtain ⟨k, hh, hk, hhk, rfl, rfl, HE⟩ := hrel
      by_cases hlt : k < n
      · have hc := HB.out cap ((bytesRow s cap).size, (bytesRow s cap).size + 1) k (by rw [HL.out]; exact hlt)
        have hdrop := List.drop_eq_getElem_cons (l := l) (i := k) (by rw [HL.out]; exact hlt)
        have HD := Lib.hid hdrop
        clear hdrop
        generalize l[k]'(by rw [HL.out]; exact hlt) = c at *
        have d1 : (0 : Int) ≤ (k : Int) := by omega
        have d2 : (k : Int) < (n : Int) := by omega
        by_cases c40 : c = 40
        · subst c40
          have hc' : (w.alloc (.cells (bytesRow s cap) 5 ((bytesRow s cap).size, (bytesRow s cap).size + 1))).drew.cell? ⟨w.heap.size, k, none⟩ = some (.int .u8 40) := hc
          clear hc
          go_wp2_with fail
          go_round
          case rel => exact ⟨k + 1, hh + 1, by omega, by omega, by go_num, by go_num, Lib.hid (by rw [← HE.out, HD.out, chkL_open])⟩
          case measure => simp only [intOf]; omega
        · by_cases c41 : c = 41
          · subst c41
            have hc' : (w.alloc (.cells (bytesRow s cap) 5 ((bytesRow s cap).size, (bytesRow s cap).size + 1))).drew.cell? ⟨w.heap.size, k, none⟩ = some (.int .u8 41) := hc
            clear hc c40
            cases hh with
            | zero =>
              have hq := Lib.hid (show chkL l 0 = 3 from by rw [← HE.out, HD.out, chkL_low])
              go_wp2_with fail
              go_ret
              exact ⟨by rw [hC.out, hq.out]; rfl, HF.out _⟩
            | succ g =>
              go_wp2_with fail
              go_round
              case rel => exact ⟨k + 1, g, by omega, by omega, by go_num, by go_num, Lib.hid (by rw [← HE.out, HD.out, chkL_close])⟩
              case measure => simp only [intOf]; omega
          · have hq := Lib.hid (show chkL l 0 = 1 from by rw [← HE.out, HD.out, chkL_bad _ _ _ c40 c41])
            have e1 : (((c.toNat : Nat) : Int) == 40) = false := by
              rw [beq_eq_false_iff_ne]; intro e; apply c40; apply UInt8.toNat_inj.1; show c.toNat = 40; omega
            have e2 : (((c.toNat : Nat) : Int) == 41) = false := by
              rw [beq_eq_false_iff_ne]; intro e; apply c41; apply UInt8.toNat_inj.1; show c.toNat = 41; omega
            clear c40 c41
            go_wp2_with fail
            go_ret
            exact ⟨by rw [hC.out, hq.out]; rfl, HF.out _⟩
      · have hkn : l.drop k = [] := List.drop_of_length_le (by rw [HL.out]; omega)
        have he := HE.out
        rw [hkn, chkL] at he
        cases hh with
        | zero =>
          have HE2 := Lib.hid he
          clear he hkn
          go_wp2_with fail
          go_ret
          exact ⟨by rw [hC.out, ← HE2.out]; rfl, HF.out _⟩
        | succ g =>
          have HE2 := Lib.hid he
          clear he hkn
          go_wp2_with fail
          go_ret
          exact ⟨by rw [hC.out, ← HE2.out]; rfl, HF.out _⟩

/-- what Of tells of the bytes that are left, at a height -/
def ofL : List UInt8 → Nat → Nat
  | [], _ => 0
  | c :: r, h => if c = 41 then pathN r.length (h + 1) + ofL r (h - 1) else ofL r (h + 1)

theorem ofL_bd (B : Nat) (hB : ∀ t h, t ≤ 31 → pathN t h ≤ B) : ∀ (l : List UInt8) (h : Nat), l.length ≤ 31 → ofL l h ≤ l.length * B
  | [], _, _ => by simp [ofL]
  | c :: r, h, hl => by
    simp only [List.length_cons] at hl ⊢
    have h1 := ofL_bd B hB r (h - 1) (by omega)
    have h2 := ofL_bd B hB r (h + 1) (by omega)
    have h3 := hB r.length (h + 1) (by omega)
    rw [ofL, Nat.succ_mul]
    split <;> omega
theorem ofL_le (l : List UInt8) (h : Nat) (hl : l.length ≤ 30) : ofL l h ≤ 64424509440 := by
  have h1 := ofL_bd 2147483648 (fun t h ht => pathN_le31 t h ht) l h (by omega)
  have h2 : l.length * 2147483648 ≤ 30 * 2147483648 := Nat.mul_le_mul_right _ hl
  exact Nat.le_trans h1 (Nat.le_trans h2 (by decide))

set_option maxHeartbeats 1000000 in
theorem nestOf (s : ByteArray) (w : World) (hs : s.size ≤ 30) (hc : chkL s.data.toList 0 = 0) :
    Calls Try.prog 22 #[.string s] w fun e w' => e = .returned (.tuple #[.int .i64 (ofL s.data.toList 0 : Nat), .int .i64 0]) ∧ Fr w w' [] := by
  obtain ⟨n, hn⟩ : ∃ n, s.size = n := ⟨_, rfl⟩
  have hl : s.data.toList.length = n := by rw [← hn, Array.length_toList]; rfl
  have HL := Lib.hid hl; have HN := Lib.hid hn
  have hchk := nestChk s w (by unfold maxLen; omega)
  rw [show chkS s.data.toList = 0 from by unfold chkS; rw [if_neg (by omega), hc]] at hchk
  have HCK := Lib.hid hchk; have HC := Lib.hid hc
  rw [hn] at hs
  clear hl hchk hc
  go_enter Try.func22, Try.ntmps22
  go_wp2_with fail
  refine HCK.out.mono ?_; rintro e w1 ⟨rfl, hf⟩
  have hn' := HN.out
  clear hn
  have HF0 := Lib.hid hf; clear hf
  go_wp2_with fail
  have HRI := Lib.hid (run_idx s)
  obtain ⟨l, hls⟩ : ∃ l, s.data.toList = l := ⟨_, rfl⟩
  rw [hls] at HL HC HRI
  have HLS := Lib.hid hls; clear hls
  have bN := ofL_le l 0 (by rw [HL.out]; exact hs)
  obtain ⟨N, hN⟩ : ∃ N, ofL l 0 = N := ⟨_, rfl⟩
  rw [hN] at bN
  have HNN := Lib.hid hN
  clear hN
  go_loopw [5, 6, 15] (fun o h i wr => ∃ k hh c : Nat, k ≤ n ∧ hh ≤ k ∧ i = .int .i64 k ∧ h = .int .i64 hh ∧ o = .int .i64 c ∧ Hid (chkL (l.drop k) hh = 0) ∧ Hid (c + ofL (l.drop k) hh = N) ∧ Fr w wr []) (fun _ _ i _ => n - (intOf i).toNat)
  case atStart => exact ⟨0, 0, 0, by omega, by omega, rfl, rfl, rfl, HC, Lib.hid (by rw [Nat.zero_add]; exact HNN.out), HF0.out⟩
  case round =>
    obtain ⟨k, hh, c, hk, hhk, rfl, rfl, rfl, HE, HS, hfr⟩ := hrel
    clear HF0
    by_cases hlt : k < n
    · have d1 : (0 : Int) ≤ (k : Int) := by omega
      have d2 : (k : Int) < (n : Int) := by omega
      have hdrop := List.drop_eq_getElem_cons (l := l) (i := k) (by rw [HL.out]; exact hlt)
      have hx : l[k]? = some (l[k]'(by rw [HL.out]; exact hlt)) := List.getElem?_eq_getElem _
      have hdl : (l.drop (k + 1)).length = n - k - 1 := by rw [List.length_drop, HL.out]; omega
      generalize l[k]'(by rw [HL.out]; exact hlt) = x at *
      have he := HE.out
      have hsu := HS.out
      rw [hdrop] at he hsu
      obtain ⟨r, hr⟩ : ∃ r, l.drop (k + 1) = r := ⟨_, rfl⟩
      rw [hr] at he hsu hdl
      have HDR := Lib.hid hr; have HDL := Lib.hid hdl
      clear hdrop hdl HE HS hr
      rcases chkL_ok x r hh he with ⟨rfl, he2⟩ | ⟨rfl, g, rfl, he2⟩
      · have hri := HRI.out k 40 hx
        have HRI2 : Hid (∀ w, Sem.run Try.prog (Instr.index 9 (.string s) (.int .i64 (k : Int))) w = .ok (.int .u8 40) w) := Lib.hid hri
        have hri2 := HRI2.out
        rw [ofL, if_neg (by decide)] at hsu
        have HS := Lib.hid hsu; have HE := Lib.hid he2
        clear hsu he he2 hri hx
        go_wp2_with fail
        go_roundw
        case rel => exact ⟨k + 1, hh + 1, c, by omega, by omega, by go_num, by go_num, rfl, Lib.hid (by rw [HDR.out]; exact HE.out), Lib.hid (by rw [HDR.out]; exact HS.out), hfr⟩
        case measure => simp only [intOf]; omega
      · have hri := HRI.out k 41 hx
        have HRI2 : Hid (∀ w, Sem.run Try.prog (Instr.index 9 (.string s) (.int .i64 (k : Int))) w = .ok (.int .u8 41) w) := Lib.hid hri
        have hri2 := HRI2.out
        rw [ofL, if_pos rfl, HDL.out, Nat.add_sub_cancel] at hsu
        have HE := Lib.hid he2
        have bp := pathN_le31 (n - k - 1) (g + 1 + 1) (by omega)
        generalize hP : pathN (n - k - 1) (g + 1 + 1) = P at *
        have cP : c + P ≤ N := by omega
        have HS := Lib.hid hsu; have HP := Lib.hid hP
        clear hsu he he2 hri hx hP
        go_wp2_with (go_at_call 44; refine (ways_i _ _ (g + 1 + 1) (n - k - 1) _ (by omega) (by omega) (by omega)).mono ?_; rintro e w2 ⟨rfl, hb⟩; rw [HP.out])
        go_roundw
        case rel => exact ⟨k + 1, g, c + P, by omega, by omega, by go_num, by go_num, by go_num, Lib.hid (by rw [HDR.out]; exact HE.out), Lib.hid (by rw [HDR.out]; have := HS.out; omega), hfr.keep hb⟩
        case measure => simp only [intOf]; omega
    · have hkn : l.drop k = [] := List.drop_of_length_le (by rw [HL.out]; omega)
      have hsu := HS.out
      rw [hkn, ofL, Nat.add_zero] at hsu
      subst hsu
      have HNN2 := Lib.hid HNN.out
      clear hkn HNN
      go_wp2_with fail
      go_ret2
      exact ⟨by rw [HLS.out, HNN2.out]; rfl, hfr⟩
end Go.Proofs.Ytdcekplmmfenlaa
