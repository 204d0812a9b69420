/-
  A part of the proof of KindsBackUptoCardSaid: BkUtfLaw, BkReverse, BkC4.
  Conditions: those that each part names.
-/
import Derived.Test.YtegdndonafbcdaaGreatDoorKb21
import Derived.Lib.TrimUEq
set_option linter.unusedSimpArgs false
set_option linter.unusedVariables false
namespace Go.Proofs.Bv
open Go
def bts (s : ByteArray) : List Nat := s.data.toList.map UInt8.toNat
theorem bts_len (s : ByteArray) : (bts s).length = s.size := by unfold bts; rw [List.length_map]; rfl
theorem bts_lt (s : ByteArray) : ∀ d ∈ bts s, d < 256 := by
  intro d hd
  obtain ⟨x, _, rfl⟩ := List.mem_map.1 hd
  exact UInt8.toNat_lt x
theorem bts_inj {s t : ByteArray} (h : bts s = bts t) : s = t := by
  apply ByteArray.ext
  apply Array.toList_inj.1
  have e : ∀ l : List UInt8, (l.map UInt8.toNat).map UInt8.ofNat = l := fun l => by simp [List.map_map, Function.comp_def]
  unfold bts at h
  rw [← e s.data.toList, ← e t.data.toList, h]
def decL (l : List Nat) : Nat × Nat := Lib.decodeN l.length (l.getD 0 0) (l.getD 1 0) (l.getD 2 0) (l.getD 3 0)
theorem getD_toNat (l : List UInt8) (i : Nat) : (l.getD i 0).toNat = (l.map UInt8.toNat).getD i 0 := by
  simp only [List.getD, List.getElem?_map]
  cases l[i]? <;> rfl
theorem dec_at (s : ByteArray) (p : Nat) (hp : p < s.size) : Lib.decodeGo (s.extract p s.size) = decL ((bts s).drop p) := by
  have hs : (s.extract p s.size).size = s.size - p := by simp
  have h0 : ¬ (s.extract p s.size).size = 0 := by omega
  have hd : (s.extract p s.size).data.toList = s.data.toList.drop p := by
    rw [ByteArray.data_extract, Array.toList_extract, List.extract_eq_take_drop]
    rw [List.take_of_length_le]
    rw [List.length_drop]
    exact Nat.le_refl _
  unfold Lib.decodeGo
  rw [if_neg h0, Lib.decode_N, hd]
  simp only [getD_toNat, Nat.zero_add, Nat.sub_zero]
  unfold decL bts
  rw [← List.map_drop, List.length_map]
theorem octN_ne (r : Nat) : octN r ≠ [] := by
  unfold octN
  repeat' split
  all_goals simp
theorem decL_oct (r : Nat) (R : List Nat) (hr : mayN r = true) (hR : ∀ d ∈ R, d < 256) : decL (octN r ++ R) = (r, (octN r).length) := by
  have hm := (mayN_iff r).1 hr
  have hlt : ∀ d ∈ octN r ++ R, d < 256 := fun d hd => by
    rcases List.mem_append.1 hd with h | h
    · exact octN_lt r hm.1 d h
    · exact hR d h
  have hg : ∀ i, (octN r ++ R).getD i 0 < 256 := fun i => by
    simp only [List.getD]
    cases h : (octN r ++ R)[i]? with
    | none => simp
    | some x => exact hlt x (List.mem_of_getElem? h)
  have hpos : 0 < (octN r ++ R).length := by
    have := List.length_pos_iff.2 (octN_ne r)
    simp only [List.length_append]
    omega
  have hfg := first_good (octN r ++ R).length _ _ _ _ hpos (hg 0) (hg 1) (hg 2) (hg 3)
  have key : firstN (octN r ++ R).length ((octN r ++ R).getD 0 0) ((octN r ++ R).getD 1 0) ((octN r ++ R).getD 2 0) ((octN r ++ R).getD 3 0) = (r, (octN r).length) := by
    by_cases h1 : r < 128
    · have ho : octN r = [r] := by unfold octN; rw [if_pos h1]
      rw [ho]
      simp only [List.cons_append, List.nil_append, List.getD_cons_zero, List.length_cons]
      unfold firstN
      rw [if_neg (by omega), if_neg (by omega), if_neg (by omega), if_neg (by omega)]
      unfold finN
      rw [if_pos ⟨hr, ho⟩]
      try rfl
    · by_cases h2 : r < 2048
      · have ho : octN r = [192 + r / 64, 128 + r % 64] := by unfold octN; rw [if_neg h1, if_pos h2]
        rw [ho]
        simp only [List.cons_append, List.nil_append, List.getD_cons_zero, List.getD_cons_succ, List.length_cons]
        unfold firstN
        rw [if_neg (by omega), if_neg (by omega), if_neg (by omega), if_pos (by omega), if_neg (by omega)]
        have e : (192 + r / 64 - 192) * 64 + (128 + r % 64) % 64 = r := by omega
        rw [e]
        unfold finN
        rw [if_pos ⟨hr, ho⟩]
        try rfl
      · by_cases h3 : r < 65536
        · have ho : octN r = [224 + r / 4096, 128 + r / 64 % 64, 128 + r % 64] := by unfold octN; rw [if_neg h1, if_neg h2, if_pos h3]
          rw [ho]
          simp only [List.cons_append, List.nil_append, List.getD_cons_zero, List.getD_cons_succ, List.length_cons]
          unfold firstN
          rw [if_neg (by omega), if_neg (by omega), if_pos (by omega), if_neg (by omega)]
          have e : ((224 + r / 4096 - 224) * 64 + (128 + r / 64 % 64) % 64) * 64 + (128 + r % 64) % 64 = r := by omega
          rw [e]
          unfold finN
          rw [if_pos ⟨hr, ho⟩]
          try rfl
        · have ho : octN r = [240 + r / 262144, 128 + r / 4096 % 64, 128 + r / 64 % 64, 128 + r % 64] := by unfold octN; rw [if_neg h1, if_neg h2, if_neg h3]
          rw [ho]
          simp only [List.cons_append, List.nil_append, List.getD_cons_zero, List.getD_cons_succ, List.length_cons]
          unfold firstN
          rw [if_neg (by omega), if_pos (by omega), if_neg (by omega)]
          have e : (((240 + r / 262144 - 240) * 64 + (128 + r / 4096 % 64) % 64) * 64 + (128 + r / 64 % 64) % 64) * 64 + (128 + r % 64) % 64 = r := by omega
          rw [e]
          unfold finN
          rw [if_pos ⟨hr, ho⟩]
          try rfl
  rw [key] at hfg
  have hl := List.length_pos_iff.2 (octN_ne r)
  change _ = goodN (decL (octN r ++ R)) at hfg
  unfold goodN at hfg
  split at hfg
  · injection hfg with _ h
    omega
  · exact hfg.symm
theorem tk4 : (L : List Nat) → ¬ L.length < 4 → [L.getD 0 0, L.getD 1 0, L.getD 2 0, L.getD 3 0] = L.take 4
  | _ :: _ :: _ :: _ :: _, _ => rfl
  | [], h | [_], h | [_, _], h | [_, _, _], h => absurd (by simp) h
theorem tk3 : (L : List Nat) → ¬ L.length < 3 → [L.getD 0 0, L.getD 1 0, L.getD 2 0] = L.take 3
  | _ :: _ :: _ :: _, _ => rfl
  | [], h | [_], h | [_, _], h => absurd (by simp) h
theorem tk2 : (L : List Nat) → ¬ L.length < 2 → [L.getD 0 0, L.getD 1 0] = L.take 2
  | _ :: _ :: _, _ => rfl
  | [], h | [_], h => absurd (by simp) h
theorem tk1 : (L : List Nat) → L ≠ [] → [L.getD 0 0] = L.take 1
  | _ :: _, _ => rfl
  | [], h => absurd rfl h
theorem decL_good (L : List Nat) (hne : L ≠ []) (hL : ∀ d ∈ L, d < 256) (hg : ¬ ((decL L).1 = 65533 ∧ (decL L).2 = 1)) : ∃ r, mayN r = true ∧ decL L = (r, (octN r).length) ∧ L = octN r ++ L.drop (octN r).length := by
  have hpos := List.length_pos_iff.2 hne
  have hb : ∀ i, L.getD i 0 < 256 := fun i => by
    simp only [List.getD]
    cases h : L[i]? with
    | none => simp
    | some x => exact hL x (List.mem_of_getElem? h)
  have hfg := first_good L.length _ _ _ _ hpos (hb 0) (hb 1) (hb 2) (hb 3)
  change _ = goodN (decL L) at hfg
  unfold goodN at hfg
  rw [if_neg hg] at hfg
  have h1 : 1 ≤ (decL L).2 := Lib.decodeN_ge1 _ _ _ _ _
  rw [← hfg] at h1 ⊢
  have fin : ∀ bs v, 1 ≤ (finN bs v).2 → mayN v = true ∧ octN v = bs ∧ finN bs v = (v, bs.length) := by
    intro bs v h
    unfold finN at h ⊢
    split at h
    · rename_i hc
      rw [if_pos hc]
      exact ⟨hc.1, hc.2, rfl⟩
    · simp at h
  have out : ∀ bs v, 1 ≤ (finN bs v).2 → bs = L.take bs.length → ∃ r, mayN r = true ∧ finN bs v = (r, (octN r).length) ∧ L = octN r ++ L.drop (octN r).length := by
    intro bs v h hbs
    obtain ⟨q1, q2, q3⟩ := fin bs v h
    refine ⟨v, q1, by rw [q2, q3], ?_⟩
    rw [q2]
    conv => lhs; rw [← List.take_append_drop bs.length L, ← hbs]
  unfold firstN at h1 ⊢
  rw [if_neg (by omega)] at h1 ⊢
  split at h1
  · rename_i c1
    rw [if_pos c1]
    split at h1
    · simp at h1
    · rename_i c2
      rw [if_neg c2]
      exact out _ _ h1 (tk4 L c2)
  · rename_i c1
    rw [if_neg c1]
    split at h1
    · rename_i c1
      rw [if_pos c1]
      split at h1
      · simp at h1
      · rename_i c2
        rw [if_neg c2]
        exact out _ _ h1 (tk3 L c2)
    · rename_i c1
      rw [if_neg c1]
      split at h1
      · rename_i c1
        rw [if_pos c1]
        split at h1
        · simp at h1
        · rename_i c2
          rw [if_neg c2]
          exact out _ _ h1 (tk2 L c2)
      · rename_i c1
        rw [if_neg c1]
        exact out _ _ h1 (tk1 L hne)
def ofN (l : List Nat) : List Int := l.map fun (d : Nat) => (d : Int)
theorem runes_of (s : ByteArray) (p : Nat) (hp : p ≤ s.size) (h : (chkFrom s p).2 = 0) : ∃ l : List Nat, (∀ r ∈ l, mayN r = true) ∧ (bts s).drop p = l.flatMap octN ∧ runesFrom s p = ofN l := by
  rw [chkFrom] at h
  by_cases hlt : p < s.size
  · rw [dif_pos hlt] at h
    have hd := dec_at s p hlt
    have hne : (bts s).drop p ≠ [] := by
      intro e
      have := congrArg List.length e
      rw [List.length_drop, bts_len] at this
      simp at this
      omega
    split at h
    · simp at h
    · rename_i hr
      have hg : ¬ ((decL ((bts s).drop p)).1 = 65533 ∧ (decL ((bts s).drop p)).2 = 1) := by
        intro e
        rw [← hd] at e
        apply hr
        unfold runeAt
        rw [if_pos (by omega)]
        omega
      obtain ⟨r, h1, h2, h3⟩ := decL_good _ hne (fun d hd => bts_lt s d (List.mem_of_mem_drop hd)) hg
      have hw : wideAt s p = (octN r).length := by unfold wideAt; rw [hd, h2]
      have hru : runeAt s p = r := by
        rw [← hd] at hg
        unfold runeAt
        rw [if_neg (by omega), hd, h2]
      have hwr := wide_rng s p hlt
      obtain ⟨l, g1, g2, g3⟩ := runes_of s (p + wideAt s p) hwr.2 h
      have hm := (mayN_iff r).1 h1
      refine ⟨r :: l, ?_, ?_, ?_⟩
      · intro x hx
        rcases List.mem_cons.1 hx with rfl | hx
        · exact h1
        · exact g1 x hx
      · rw [h3, List.flatMap_cons, ← g2, List.drop_drop, hw]
      · rw [runesFrom, dif_pos hlt, g3, hru, i64 (by omega) (by omega)]
        rfl
  · refine ⟨[], by simp, ?_, ?_⟩
    · rw [List.drop_of_length_le (by rw [bts_len]; omega)]
      rfl
    · rw [runesFrom, dif_neg hlt]
      rfl
termination_by s.size - p
decreasing_by omega
theorem enc_may (s : ByteArray) : (l : List Nat) → (p : Nat) → (∀ r ∈ l, mayN r = true) → (bts s).drop p = l.flatMap octN → (chkFrom s p).2 = 0 ∧ runesFrom s p = ofN l
  | [], p, _, h => by
    have hp : ¬ p < s.size := by
      have := congrArg List.length h
      rw [List.length_drop, bts_len] at this
      simp at this
      omega
    rw [chkFrom, dif_neg hp, runesFrom, dif_neg hp]
    exact ⟨rfl, rfl⟩
  | r :: l, p, hv, h => by
    rw [List.flatMap_cons] at h
    have hr := hv r (by simp)
    have hm := (mayN_iff r).1 hr
    have hl := List.length_pos_iff.2 (octN_ne r)
    have hp : p < s.size := by
      have := congrArg List.length h
      rw [List.length_drop, bts_len, List.length_append] at this
      omega
    have hd := dec_at s p hp
    rw [h, decL_oct r _ hr (oct_lt fun x hx => hv x (List.mem_cons_of_mem _ hx))] at hd
    have hn3 : ¬ (r = 65533 ∧ (octN r).length = 1) := by
      rintro ⟨rfl, e⟩
      exact absurd e (by decide)
    have hru : runeAt s p = r := by
      unfold runeAt
      rw [hd]
      rw [if_neg (by simp only; omega)]
    have hw : wideAt s p = (octN r).length := by unfold wideAt; rw [hd]
    have hdr : (bts s).drop (p + wideAt s p) = l.flatMap octN := by
      rw [hw, ← List.drop_drop, h, List.drop_left]
    obtain ⟨g1, g2⟩ := enc_may s l (p + wideAt s p) (fun x hx => hv x (List.mem_cons_of_mem _ hx)) hdr
    rw [chkFrom, dif_pos hp, runesFrom, dif_pos hp, hru, if_neg (by omega), g1, g2, i64 (by omega) (by omega)]
    exact ⟨rfl, rfl⟩
theorem bts_text {l : List Nat} (hv : ∀ r ∈ l, mayN r = true) : bts (textB l) = l.flatMap octN := by
  unfold bts textB
  simp only [List.map_map]
  have : ∀ L : List Nat, (∀ d ∈ L, d < 256) → L.map (UInt8.toNat ∘ UInt8.ofNat) = L := fun L hL => by
    conv => rhs; rw [← List.map_id L]
    apply List.map_congr_left
    intro d hd
    have := hL d hd
    simp only [Function.comp, id, UInt8.toNat_ofNat']
    omega
  exact this _ (oct_lt hv)
theorem oct_rev : (l : List Nat) → (l.reverse.flatMap octN).length = (l.flatMap octN).length
  | [] => rfl
  | x :: l => by simp [List.flatMap_append, oct_rev l]; omega
theorem rev_text {t : ByteArray} (h : (chkFrom t 0).2 = 0) : ∃ l : List Nat, (∀ r ∈ l, mayN r = true) ∧ runesFrom t 0 = ofN l ∧ l.length ≤ t.size ∧ textB l = t ∧ (chkFrom (textB l.reverse) 0).2 = 0 ∧ runesFrom (textB l.reverse) 0 = ofN l.reverse ∧ (textB l.reverse).size = t.size := by
  obtain ⟨l, h1, h2, h3⟩ := runes_of t 0 (Nat.zero_le _) h
  rw [List.drop_zero] at h2
  have hv : ∀ r ∈ l.reverse, mayN r = true := fun r hr => h1 r (by simpa using hr)
  have e := enc_may (textB l.reverse) l.reverse 0 hv (by rw [List.drop_zero, bts_text hv])
  have hl := runes_len t 0
  rw [h3] at hl
  refine ⟨l, h1, h3, by simpa [ofN] using hl, bts_inj (by rw [bts_text h1, h2]), e.1, e.2, ?_⟩
  rw [← bts_len, bts_text hv, oct_rev, ← h2, bts_len]
end Go.Proofs.Bv
namespace Go.Proofs.Bv
open Go
theorem ok22 : codeOk 46 (Tryz.f22.body.getD .skip) = true := by kernel_rfl
def revT (t : ByteArray) : ByteArray := textB ((runesFrom t 0).map Int.toNat).reverse
theorem ofN_nat (l : List Nat) : (ofN l).map Int.toNat = l := by
  unfold ofN
  rw [List.map_map]
  conv => rhs; rw [← List.map_id l]
  rfl
def revOf (v : JV) : JV × Int :=
  if ¬ chk v = 0 then (zeroV, chk v)
  else if v.kind = 0 ∨ v.kind = 5 then (.mk 5 false [] 0 ⟨#[]⟩ v.list.reverse [], 0)
  else if v.kind = 4 then (textV (revT v.text), 0) else (zeroV, 41)
def encE (r : JV × Int) : AV := .tup [.agg (enc r.1), .sc (.int .i64 r.2)]
theorem not_spec {x : JV} (h : own x = 0) : spec63 [.agg (enc x)] = false := by
  obtain ⟨k, g, c, e, t, l, s⟩ := x
  obtain ⟨_, _, h3, _⟩ := shape_of h
  by_cases hk : k = 0
  · subst hk
    rw [h3 (by omega)]
    rfl
  · simp only [enc, spec63]
    split
    · rename_i heq
      simp at heq
      omega
    · rfl
set_option maxHeartbeats 4000000 in
set_option maxRecDepth 100000 in
theorem gf58e (G : Nat → Option (List AV)) : Gf (C2 G) 58 [.psl [] 0] noHeap 0 fun v _ _ => v = .psl [] 0 := by
  have h63 : orcN G [.agg (enc zeroV)] = some (.agg (enc zeroV)) := orcL_of (pc63 G zeroV ⟨⟨by omega, by omega, by simp, by simp, by simp [ByteArray.size], by simp, by simp, by simp⟩, trivial⟩)
  simp only [zeroV, enc, encs, u32s, strs, List.map_nil, List.length_nil] at h63
  refine Gf_enter (C := C2 G) Tryz.func58 rfl ok58 (Nat.le_of_ble_eq_true rfl) ?_
  simp only [Tryz.f58, Option.getD_some]
  refine wF1 trivial (wa h63 trivial) ?_
  rfl
set_option maxHeartbeats 4000000 in
set_option maxRecDepth 100000 in
theorem gf59e (G : Nat → Option (List AV)) {h : Heap} {n : Nat} (Q : AV → Heap → Nat → Prop) (hq : Q (.tup []) h n) : Gf (C2 G) 59 [.psl [] 0] h n Q := by
  have w0 : IntKind.i64.wrap (((0 : Nat) : Int) - 1) = -1 := i64 (by omega) (by omega)
  have g : ¬ (0 : Int) < -1 := by omega
  refine Gf_enter (C := C2 G) Tryz.func59 rfl ok59 (Nat.le_of_ble_eq_true rfl) ?_
  simp only [Tryz.f59, Option.getD_some]
  refine wB1 w0 ?_
  refine st_loop ?_
  refine wB1 (wa w0 g) ?_
  exact hq
set_option maxHeartbeats 4000000 in
set_option maxRecDepth 100000 in
theorem gf61e (G : Nat → Option (List AV)) {h : Heap} {n : Nat} (Q : AV → Heap → Nat → Prop) (hq : Q (.tup []) h n) : Gf (C2 G) 61 [.nilS] h n Q := by
  have w0 : IntKind.i64.wrap (0 - 1) = -1 := i64 (by omega) (by omega)
  have g : ¬ (0 : Int) < -1 := by omega
  refine Gf_enter (C := C2 G) Tryz.func61 rfl ok61 (Nat.le_of_ble_eq_true rfl) ?_
  simp only [Tryz.f61, Option.getD_some]
  refine wB1 w0 ?_
  refine st_loop ?_
  refine wB1 (wa w0 g) ?_
  exact hq
theorem ns64_pur : (l : List Nat) → purs (ns64 l) = true
  | [] => rfl
  | _ :: l => by simpa [ns64, purs, AV.pur] using ns64_pur l
theorem chk_ownE {v : JV} (h : chk v = 0) : own v = 0 := by
  unfold chk at h
  split at h
  · omega
  · split at h
    · omega
    · obtain ⟨k, ng, cf, ex, t, l, ks⟩ := v
      simp only [pre, firstErr] at h
      split at h
      · assumption
      · rename_i h0
        exact absurd h h0
theorem firstErr_memE : (l : List JV) → firstErr l = 0 → ∀ x ∈ l, own x = 0
  | [], _ => by simp
  | x :: r, h => by
    simp only [firstErr] at h
    split at h
    · rename_i h0
      intro y hy
      rcases List.mem_cons.1 hy with rfl | hy
      · exact h0
      · exact firstErr_memE r h y hy
    · rename_i h0
      exact absurd h h0
theorem own_partE : {l : List JV} → {x : JV} → x ∈ l → x ∈ pres l
  | z :: l, x, hx => by
    simp only [pres, List.mem_append]
    rcases List.mem_cons.1 hx with rfl | hx
    · left
      obtain ⟨k, ng, cf, ex, t, l, ks⟩ := x
      simp [pre]
    · exact .inr (own_partE hx)
theorem chk_partE {k : Int} {ng : Bool} {cf : List Int} {ex : Int} {t : ByteArray} {l : List JV} {ks : List ByteArray} (h : chk (.mk k ng cf ex t l ks) = 0) : ∀ x ∈ l, own x = 0 := by
  intro x hx
  unfold chk at h
  split at h
  · omega
  · split at h
    · omega
    · refine firstErr_memE _ h x ?_
      simp only [pre, List.mem_cons]
      exact .inr (own_partE hx)
set_option maxHeartbeats 8000000 in
set_option maxRecDepth 100000 in
theorem pc22 (G : Nat → Option (List AV)) : (v : JV) → Fit v → Pc (C2 G) 22 [.agg (enc v)] (encE (revOf v))
  | .mk k ng cf ex t l ks => fun hfit => by
    have h1 := orcL_of (pc44 G (.mk k ng cf ex t l ks) hfit)
    by_cases hc : chk (.mk k ng cf ex t l ks) = 0
    · have ho := chk_ownE hc
      have hp := chk_partE hc
      obtain ⟨_, s2, _, _, s5, _⟩ := own_saidB ho
      obtain ⟨f1, f2, f3, f4, f5, f6⟩ := shape_of ho
      rw [hc] at h1
      by_cases hk : k = 0 ∨ k = 5
      · rw [show revOf (.mk k ng cf ex t l ks) = (.mk 5 false [] 0 ⟨#[]⟩ l.reverse [], 0) by unfold revOf; rw [if_neg (by simp [hc])]; exact if_pos hk]
        have hk2 : ¬ k = 0 → k = 5 := fun h => hk.resolve_left h
        by_cases hl : l = []
        · subst hl
          have h58 := gf58e G
          simp only [enc, encE, encs, List.length_nil, List.reverse_nil, u32s, strs, List.map_nil] at h1 ⊢
          rcases hk with rfl | rfl
          all_goals
            refine Pc_of (Gf_enter (C := C2 G) Tryz.func22 rfl ok22 (Nat.le_of_ble_eq_true rfl) ?_)
            simp only [Tryz.f22, Option.getD_some]
            repeat' first | refine w_op rfl rfl ?_ | refine x_p rfl ?_ | refine w_sr ?_ | refine st_nil ?_ | refine w_seq ?_ | refine st_region ?_ | refine st_block ?_ | refine w_cond ?_ | refine b_t ?_ | refine b_f ?_ | refine st_skip ?_ | refine st_exit ?_ | refine st_ret ?_ | refine st_onNormN ?_ | refine st_onNormE ?_ | refine st_onNormR ?_ | refine st_onExitN ?_ | refine st_onExitR ?_ | refine st_onExitS ?_ | refine st_onExitO (by decide) ?_ | refine g_t ?_ | refine g_f rfl ?_ | refine o_op rfl ?_ | refine w_wr ?_ | refine w_wn ?_ | refine d_c rfl ?_ | refine d_on rfl ?_ | refine d_op rfl ?_ | refine d_y ?_ | refine d_gd rfl ?_ | refine d_t ?_ | refine d_f ?_ | refine d_nil ?_ | refine w_dr rfl ?_ | refine d_q ?_ | refine n_0 rfl ?_ | refine d_n ?_ | refine k_o rfl rfl rfl ?_ | refine w_gd rfl ?_ | ((first | refine zE1 ?_ | refine w_cl rfl rfl ?_ | refine o_cl rfl ?_ | refine d_cl rfl ?_); (conv => arg 1; try simp only [go_sem, Nat.reduceEqDiff, reduceIte, Nat.reduceAdd, Nat.reduceLeDiff, Nat.reduceMul, Int.reduceEq, Int.reduceLT, Int.reduceLE, Int.reduceNeg, Int.reduceAdd, Int.reduceSub, Nat.reduceLT, Nat.reduceBEq, Nat.reduceSub, Nat.reducePow, h1]); first | refine zE3 ?_ | refine zE2 ?_ | refine zE4 ?_ | refine zE5 ?_ | refine zE6 ?_ | refine zE7 ?_ | refine zE8 ?_) | (refine w_u false ?_; (conv => arg 1; reduce); refine zR1 ?_) | (refine b_s (fun hb => ?_) (fun hb => ?_) <;> ((try simp only [hn1, hn2, hn3, hn4] at hb); first | (exfalso; omega) | skip)) | (first | refine g_s (fun hb => ?_) (fun hb => ?_) | refine d_s (fun hb => ?_) (fun hb => ?_)) <;> ((try simp only [hn1, hn2] at hb); rw [hb]; try simp only [hn3, hn4] at hb)
            refine k_n rfl rfl rfl rfl rfl h58 ?_
            rintro r h2 n2 rfl
            generalize hH : joinH _ 2 n2 h2 = H
            have q1 : H 1 = some (.cells [.sc (.int .i64 0), .sc (.bool false), .nilS, .sc (.int .i64 0), .sc (.string ⟨#[]⟩), .nilS, .nilS] 0 false) := by rw [← hH, joinH_lt (by omega)]; rfl
            clear hH
            simp only [AV.sh]
            refine n_1 (Nat.le_add_right _ _) rfl ?_
            repeat' first | refine w_op rfl rfl ?_ | refine x_p rfl ?_ | refine w_sr ?_ | refine st_nil ?_ | refine w_seq ?_ | refine st_region ?_ | refine st_block ?_ | refine w_cond ?_ | refine b_t ?_ | refine b_f ?_ | refine st_skip ?_ | refine st_exit ?_ | refine st_ret ?_ | refine st_onNormN ?_ | refine st_onNormE ?_ | refine st_onNormR ?_ | refine st_onExitN ?_ | refine st_onExitR ?_ | refine st_onExitS ?_ | refine st_onExitO (by decide) ?_ | refine g_t ?_ | refine g_f rfl ?_ | refine o_op rfl ?_ | refine w_wr ?_ | refine w_wn ?_ | refine d_c rfl ?_ | refine d_on rfl ?_ | refine d_op rfl ?_ | refine d_y ?_ | refine d_gd rfl ?_ | refine d_t ?_ | refine d_f ?_ | refine d_nil ?_ | refine w_dr rfl ?_ | refine d_q ?_ | refine n_0 rfl ?_ | refine d_n ?_ | refine k_o rfl rfl rfl ?_ | refine w_gd rfl ?_ | ((first | refine zE1 ?_ | refine w_cl rfl rfl ?_ | refine o_cl rfl ?_ | refine d_cl rfl ?_); (conv => arg 1; try simp only [go_sem, Nat.reduceEqDiff, reduceIte, Nat.reduceAdd, Nat.reduceLeDiff, Nat.reduceMul, Int.reduceEq, Int.reduceLT, Int.reduceLE, Int.reduceNeg, Int.reduceAdd, Int.reduceSub, Nat.reduceLT, Nat.reduceBEq, Nat.reduceSub, Nat.reducePow]); first | refine zE3 ?_ | refine zE2 ?_ | refine zE4 ?_ | refine zE5 ?_ | refine zE6 ?_ | refine zE7 ?_ | refine zE8 ?_) | (refine w_u false ?_; (conv => arg 1; reduce); refine zR1 ?_) | (refine b_s (fun hb => ?_) (fun hb => ?_) <;> ((try simp only [hn1, hn2, hn3, hn4] at hb); first | (exfalso; omega) | skip)) | (first | refine g_s (fun hb => ?_) (fun hb => ?_) | refine d_s (fun hb => ?_) (fun hb => ?_)) <;> ((try simp only [hn1, hn2] at hb); rw [hb]; try simp only [hn3, hn4] at hb)
            refine k_w rfl rfl ?_
            refine gf59e G _ ?_
            refine n_1 (Nat.le_refl _) rfl ?_
            refine wB1 q1 ?_
            simp only [one1, frz_t, frz_a, mapF, frz_s, frz_l, frz_n, Option.map_some, List.append_nil]
            rfl
        · have hsp : ∀ x ∈ l, spec63 [.agg (enc x)] = false := fun x hx => not_spec (hp x hx)
          have h58 := gf58 G l hl hfit.2 hfit.1.nlist hsp
          simp only [enc, encE, List.length_reverse, u32s, strs, List.map_nil, List.length_nil] at h1 ⊢
          rcases hk with rfl | rfl
          all_goals
            refine Pc_of (Gf_enter (C := C2 G) Tryz.func22 rfl ok22 (Nat.le_of_ble_eq_true rfl) ?_)
            simp only [Tryz.f22, Option.getD_some]
            repeat' first | refine w_op rfl rfl ?_ | refine x_p rfl ?_ | refine w_sr ?_ | refine st_nil ?_ | refine w_seq ?_ | refine st_region ?_ | refine st_block ?_ | refine w_cond ?_ | refine b_t ?_ | refine b_f ?_ | refine st_skip ?_ | refine st_exit ?_ | refine st_ret ?_ | refine st_onNormN ?_ | refine st_onNormE ?_ | refine st_onNormR ?_ | refine st_onExitN ?_ | refine st_onExitR ?_ | refine st_onExitS ?_ | refine st_onExitO (by decide) ?_ | refine g_t ?_ | refine g_f rfl ?_ | refine o_op rfl ?_ | refine w_wr ?_ | refine w_wn ?_ | refine d_c rfl ?_ | refine d_on rfl ?_ | refine d_op rfl ?_ | refine d_y ?_ | refine d_gd rfl ?_ | refine d_t ?_ | refine d_f ?_ | refine d_nil ?_ | refine w_dr rfl ?_ | refine d_q ?_ | refine n_0 rfl ?_ | refine d_n ?_ | refine k_o rfl rfl rfl ?_ | refine w_gd rfl ?_ | ((first | refine zE1 ?_ | refine w_cl rfl rfl ?_ | refine o_cl rfl ?_ | refine d_cl rfl ?_); (conv => arg 1; try simp only [go_sem, Nat.reduceEqDiff, reduceIte, Nat.reduceAdd, Nat.reduceLeDiff, Nat.reduceMul, Int.reduceEq, Int.reduceLT, Int.reduceLE, Int.reduceNeg, Int.reduceAdd, Int.reduceSub, Nat.reduceLT, Nat.reduceBEq, Nat.reduceSub, Nat.reducePow, h1]); first | refine zE3 ?_ | refine zE2 ?_ | refine zE4 ?_ | refine zE5 ?_ | refine zE6 ?_ | refine zE7 ?_ | refine zE8 ?_) | (refine w_u false ?_; (conv => arg 1; reduce); refine zR1 ?_) | (refine b_s (fun hb => ?_) (fun hb => ?_) <;> ((try simp only [hn1, hn2, hn3, hn4] at hb); first | (exfalso; omega) | skip)) | (first | refine g_s (fun hb => ?_) (fun hb => ?_) | refine d_s (fun hb => ?_) (fun hb => ?_)) <;> ((try simp only [hn1, hn2] at hb); rw [hb]; try simp only [hn3, hn4] at hb)
            refine k_n rfl rfl rfl rfl rfl h58 ?_
            rintro r h2 n2 ⟨b, rfl, hb, hbn⟩
            generalize hH : joinH _ 2 n2 h2 = H
            have q1 : H 1 = some (.cells [.sc (.int .i64 0), .sc (.bool false), .nilS, .sc (.int .i64 0), .sc (.string ⟨#[]⟩), .nilS, .nilS] 0 false) := by rw [← hH, joinH_lt (by omega)]; rfl
            have q2 : H (2 + b) = some (.cells (encs l) 7 false) := by rw [← hH]; exact joinH_at hbn hb (encs_pur l)
            clear hH
            simp only [AV.sh]
            refine n_1 (Nat.le_add_right _ _) rfl ?_
            repeat' first | refine w_op rfl rfl ?_ | refine x_p rfl ?_ | refine w_sr ?_ | refine st_nil ?_ | refine w_seq ?_ | refine st_region ?_ | refine st_block ?_ | refine w_cond ?_ | refine b_t ?_ | refine b_f ?_ | refine st_skip ?_ | refine st_exit ?_ | refine st_ret ?_ | refine st_onNormN ?_ | refine st_onNormE ?_ | refine st_onNormR ?_ | refine st_onExitN ?_ | refine st_onExitR ?_ | refine st_onExitS ?_ | refine st_onExitO (by decide) ?_ | refine g_t ?_ | refine g_f rfl ?_ | refine o_op rfl ?_ | refine w_wr ?_ | refine w_wn ?_ | refine d_c rfl ?_ | refine d_on rfl ?_ | refine d_op rfl ?_ | refine d_y ?_ | refine d_gd rfl ?_ | refine d_t ?_ | refine d_f ?_ | refine d_nil ?_ | refine w_dr rfl ?_ | refine d_q ?_ | refine n_0 rfl ?_ | refine d_n ?_ | refine k_o rfl rfl rfl ?_ | refine w_gd rfl ?_ | ((first | refine zE1 ?_ | refine w_cl rfl rfl ?_ | refine o_cl rfl ?_ | refine d_cl rfl ?_); (conv => arg 1; try simp only [go_sem, Nat.reduceEqDiff, reduceIte, Nat.reduceAdd, Nat.reduceLeDiff, Nat.reduceMul, Int.reduceEq, Int.reduceLT, Int.reduceLE, Int.reduceNeg, Int.reduceAdd, Int.reduceSub, Nat.reduceLT, Nat.reduceBEq, Nat.reduceSub, Nat.reducePow]); first | refine zE3 ?_ | refine zE2 ?_ | refine zE4 ?_ | refine zE5 ?_ | refine zE6 ?_ | refine zE7 ?_ | refine zE8 ?_) | (refine w_u false ?_; (conv => arg 1; reduce); refine zR1 ?_) | (refine b_s (fun hb => ?_) (fun hb => ?_) <;> ((try simp only [hn1, hn2, hn3, hn4] at hb); first | (exfalso; omega) | skip)) | (first | refine g_s (fun hb => ?_) (fun hb => ?_) | refine d_s (fun hb => ?_) (fun hb => ?_)) <;> ((try simp only [hn1, hn2] at hb); rw [hb]; try simp only [hn3, hn4] at hb)
            refine k_w rfl rfl ?_
            refine gf59 G l (by omega) _ q2 _ ?_
            refine n_1 (Nat.le_refl _) rfl ?_
            have e1 : ¬ 1 = 2 + b := by omega
            have e2 : ¬ 2 + b = 1 := by omega
            refine wB1 (wa q1 (wa e1 e2)) ?_
            simp only [one1, frz_t, frz_a, mapF, frz_s, frz_l, frz_n, Option.map_some, List.append_nil]
            rw [frz_w (es := 7) (fz := false) (cs := encs l.reverse) (by simp only [upd_ap, if_neg e2, if_true]) (by rw [encs_len, List.length_reverse]) (encs_pur _)]
            rfl
      · by_cases hk4 : k = 4
        · subst hk4
          have hkf : ¬ ((4 : Int) = 0 ∨ (4 : Int) = 5) := by omega
          rw [show revOf (.mk 4 ng cf ex t l ks) = (textV (revT t), 0) by unfold revOf; rw [if_neg (by simp [hc])]; exact (if_neg hkf).trans (if_pos rfl)]
          have ht : (chkFrom t 0).2 = 0 ∧ t.size ≤ 16384 := by
            unfold letters at s5
            split at s5
            · rename_i h0
              split at s5
              · omega
              · exact ⟨h0, by omega⟩
            · rename_i h0
              exact absurd s5 h0
          obtain ⟨L, g1, g2, g3, g4, g5, g6, g7⟩ := rev_text ht.1
          have hrt : revT t = textB L.reverse := by unfold revT; rw [g2, ofN_nat]
          have h60 := gf60 G t (by omega) ht.1
          have h62 := pc62 G L.reverse (fun r hr => g1 r (by simpa using hr)) (by rw [List.length_reverse]; omega)
          have h50 := orcL_of (pc50 G (textB L.reverse))
          rw [hrt]
          rw [g2] at h60
          simp only [textV, enc, encE, encs, u32s, strs, List.map_nil, List.length_nil, List.length_reverse] at h1 h50 h62 ⊢
          refine Pc_of (Gf_enter (C := C2 G) Tryz.func22 rfl ok22 (Nat.le_of_ble_eq_true rfl) ?_)
          simp only [Tryz.f22, Option.getD_some]
          repeat' first | refine w_op rfl rfl ?_ | refine x_p rfl ?_ | refine w_sr ?_ | refine st_nil ?_ | refine w_seq ?_ | refine st_region ?_ | refine st_block ?_ | refine w_cond ?_ | refine b_t ?_ | refine b_f ?_ | refine st_skip ?_ | refine st_exit ?_ | refine st_ret ?_ | refine st_onNormN ?_ | refine st_onNormE ?_ | refine st_onNormR ?_ | refine st_onExitN ?_ | refine st_onExitR ?_ | refine st_onExitS ?_ | refine st_onExitO (by decide) ?_ | refine g_t ?_ | refine g_f rfl ?_ | refine o_op rfl ?_ | refine w_wr ?_ | refine w_wn ?_ | refine d_c rfl ?_ | refine d_on rfl ?_ | refine d_op rfl ?_ | refine d_y ?_ | refine d_gd rfl ?_ | refine d_t ?_ | refine d_f ?_ | refine d_nil ?_ | refine w_dr rfl ?_ | refine d_q ?_ | refine n_0 rfl ?_ | refine d_n ?_ | refine k_o rfl rfl rfl ?_ | refine w_gd rfl ?_ | ((first | refine zE1 ?_ | refine w_cl rfl rfl ?_ | refine o_cl rfl ?_ | refine d_cl rfl ?_); (conv => arg 1; try simp only [go_sem, Nat.reduceEqDiff, reduceIte, Nat.reduceAdd, Nat.reduceLeDiff, Nat.reduceMul, Int.reduceEq, Int.reduceLT, Int.reduceLE, Int.reduceNeg, Int.reduceAdd, Int.reduceSub, Nat.reduceLT, Nat.reduceBEq, Nat.reduceSub, Nat.reducePow, h1]); first | refine zE3 ?_ | refine zE2 ?_ | refine zE4 ?_ | refine zE5 ?_ | refine zE6 ?_ | refine zE7 ?_ | refine zE8 ?_) | (refine w_u false ?_; (conv => arg 1; reduce); refine zR1 ?_) | (refine b_s (fun hb => ?_) (fun hb => ?_) <;> ((try simp only [hn1, hn2, hn3, hn4] at hb); first | (exfalso; omega) | skip)) | (first | refine g_s (fun hb => ?_) (fun hb => ?_) | refine d_s (fun hb => ?_) (fun hb => ?_)) <;> ((try simp only [hn1, hn2] at hb); rw [hb]; try simp only [hn3, hn4] at hb)
          refine k_n rfl rfl rfl rfl rfl h60 ?_
          rintro r h2 n2 ⟨x, rfl, hx⟩
          generalize hH : joinH _ 2 n2 h2 = H
          have q1 : H 1 = some (.cells [.sc (.int .i64 0), .sc (.bool false), .nilS, .sc (.int .i64 0), .sc (.string ⟨#[]⟩), .nilS, .nilS] 0 false) := by rw [← hH, joinH_lt (by omega)]; rfl
          rcases hx with ⟨rfl, hL⟩ | ⟨b, rfl, hb, _, hbn⟩
          · have hL0 : L = [] := by unfold ofN at hL; exact List.map_eq_nil_iff.1 hL
            subst hL0
            clear hH
            simp only [AV.sh, shs, List.reverse_nil, List.length_nil, ns64, List.map_nil] at h62 h50 ⊢
            refine n_1 (Nat.le_add_right _ _) rfl ?_
            repeat' first | refine w_op rfl rfl ?_ | refine x_p rfl ?_ | refine w_sr ?_ | refine st_nil ?_ | refine w_seq ?_ | refine st_region ?_ | refine st_block ?_ | refine w_cond ?_ | refine b_t ?_ | refine b_f ?_ | refine st_skip ?_ | refine st_exit ?_ | refine st_ret ?_ | refine st_onNormN ?_ | refine st_onNormE ?_ | refine st_onNormR ?_ | refine st_onExitN ?_ | refine st_onExitR ?_ | refine st_onExitS ?_ | refine st_onExitO (by decide) ?_ | refine g_t ?_ | refine g_f rfl ?_ | refine o_op rfl ?_ | refine w_wr ?_ | refine w_wn ?_ | refine d_c rfl ?_ | refine d_on rfl ?_ | refine d_op rfl ?_ | refine d_y ?_ | refine d_gd rfl ?_ | refine d_t ?_ | refine d_f ?_ | refine d_nil ?_ | refine w_dr rfl ?_ | refine d_q ?_ | refine n_0 rfl ?_ | refine d_n ?_ | refine k_o rfl rfl rfl ?_ | refine w_gd rfl ?_ | ((first | refine zE1 ?_ | refine w_cl rfl rfl ?_ | refine o_cl rfl ?_ | refine d_cl rfl ?_); (conv => arg 1; try simp only [go_sem, Nat.reduceEqDiff, reduceIte, Nat.reduceAdd, Nat.reduceLeDiff, Nat.reduceMul, Int.reduceEq, Int.reduceLT, Int.reduceLE, Int.reduceNeg, Int.reduceAdd, Int.reduceSub, Nat.reduceLT, Nat.reduceBEq, Nat.reduceSub, Nat.reducePow]); first | refine zE3 ?_ | refine zE2 ?_ | refine zE4 ?_ | refine zE5 ?_ | refine zE6 ?_ | refine zE7 ?_ | refine zE8 ?_) | (refine w_u false ?_; (conv => arg 1; reduce); refine zR1 ?_) | (refine b_s (fun hb => ?_) (fun hb => ?_) <;> ((try simp only [hn1, hn2, hn3, hn4] at hb); first | (exfalso; omega) | skip)) | (first | refine g_s (fun hb => ?_) (fun hb => ?_) | refine d_s (fun hb => ?_) (fun hb => ?_)) <;> ((try simp only [hn1, hn2] at hb); rw [hb]; try simp only [hn3, hn4] at hb)
            refine k_w rfl rfl ?_
            refine gf61e G _ ?_
            refine n_1 (Nat.le_refl _) rfl ?_
            refine wF1 (wa q1 h50) (wa h62 trivial) ?_
            simp only [one1, frz_t, frz_a, mapF, frz_s, frz_l, frz_n, Option.map_some, List.append_nil]
          · have q2 : H (2 + b) = some (.cells (ints (ofN L)) 1 false) := by rw [← hH]; exact joinH_at hbn hb (ints_pur _)
            clear hH
            simp only [AV.sh, shs]
            refine n_1 (Nat.le_add_right _ _) rfl ?_
            repeat' first | refine w_op rfl rfl ?_ | refine x_p rfl ?_ | refine w_sr ?_ | refine st_nil ?_ | refine w_seq ?_ | refine st_region ?_ | refine st_block ?_ | refine w_cond ?_ | refine b_t ?_ | refine b_f ?_ | refine st_skip ?_ | refine st_exit ?_ | refine st_ret ?_ | refine st_onNormN ?_ | refine st_onNormE ?_ | refine st_onNormR ?_ | refine st_onExitN ?_ | refine st_onExitR ?_ | refine st_onExitS ?_ | refine st_onExitO (by decide) ?_ | refine g_t ?_ | refine g_f rfl ?_ | refine o_op rfl ?_ | refine w_wr ?_ | refine w_wn ?_ | refine d_c rfl ?_ | refine d_on rfl ?_ | refine d_op rfl ?_ | refine d_y ?_ | refine d_gd rfl ?_ | refine d_t ?_ | refine d_f ?_ | refine d_nil ?_ | refine w_dr rfl ?_ | refine d_q ?_ | refine n_0 rfl ?_ | refine d_n ?_ | refine k_o rfl rfl rfl ?_ | refine w_gd rfl ?_ | ((first | refine zE1 ?_ | refine w_cl rfl rfl ?_ | refine o_cl rfl ?_ | refine d_cl rfl ?_); (conv => arg 1; try simp only [go_sem, Nat.reduceEqDiff, reduceIte, Nat.reduceAdd, Nat.reduceLeDiff, Nat.reduceMul, Int.reduceEq, Int.reduceLT, Int.reduceLE, Int.reduceNeg, Int.reduceAdd, Int.reduceSub, Nat.reduceLT, Nat.reduceBEq, Nat.reduceSub, Nat.reducePow]); first | refine zE3 ?_ | refine zE2 ?_ | refine zE4 ?_ | refine zE5 ?_ | refine zE6 ?_ | refine zE7 ?_ | refine zE8 ?_) | (refine w_u false ?_; (conv => arg 1; reduce); refine zR1 ?_) | (refine b_s (fun hb => ?_) (fun hb => ?_) <;> ((try simp only [hn1, hn2, hn3, hn4] at hb); first | (exfalso; omega) | skip)) | (first | refine g_s (fun hb => ?_) (fun hb => ?_) | refine d_s (fun hb => ?_) (fun hb => ?_)) <;> ((try simp only [hn1, hn2] at hb); rw [hb]; try simp only [hn3, hn4] at hb)
            refine k_w rfl rfl ?_
            have hLl : (ofN L).length = (ints (ofN L)).length := by rw [ints_len]
            rw [hLl]
            refine gf61 G (ints (ofN L)) (fun x hx => by obtain ⟨y, _, rfl⟩ := List.mem_map.1 hx; exact ⟨_, rfl⟩) (by rw [ints_len]; simp only [ofN, List.length_map]; omega) _ q2 _ ?_
            have er : (ints (ofN L)).reverse = ns64 L.reverse := by simp [ints, ofN, ns64]
            have el : (ints (ofN L)).length = L.length := by rw [ints_len]; simp [ofN]
            rw [er, el]
            refine n_1 (Nat.le_refl _) rfl ?_
            have e1 : ¬ 1 = 2 + b := by omega
            have e2 : ¬ 2 + b = 1 := by omega
            have m1 := ns64_pur L.reverse
            have m2 : ((ns64 L.reverse).length = L.length * 1) = True := by simp [ns64]
            refine wF1 (wa q1 (wa e1 (wa e2 (wa m1 (wa m2 h50))))) (wa h62 trivial) ?_
            simp only [one1, frz_t, frz_a, mapF, frz_s, frz_l, frz_n, Option.map_some, List.append_nil]
        · rw [show revOf (.mk k ng cf ex t l ks) = (zeroV, 41) by unfold revOf; rw [if_neg (by simp [hc])]; exact (if_neg hk).trans (if_neg hk4)]
          have hk0 : ¬ k = 0 := fun e => hk (.inl e)
          have hk5 : ¬ k = 5 := fun e => hk (.inr e)
          simp only [zeroV, enc, encE, encs, u32s, strs, List.map_nil, List.length_nil] at h1 ⊢
          refine Pc_of (Gf_enter (C := C2 G) Tryz.func22 rfl ok22 (Nat.le_of_ble_eq_true rfl) ?_)
          simp only [Tryz.f22, Option.getD_some]
          refine wC1 (wa h1 (wa hk0 (wa hk4 hk5))) trivial ?_
          simp only [one1, frz_t, frz_a, mapF, frz_s, frz_l, frz_n, Option.map_some, List.append_nil]
          rfl
    · rw [show revOf (.mk k ng cf ex t l ks) = (zeroV, chk (.mk k ng cf ex t l ks)) by unfold revOf; rw [if_pos hc]]
      generalize chk (.mk k ng cf ex t l ks) = c at *
      simp only [zeroV, enc, encE, encs, u32s, strs, List.map_nil, List.length_nil] at h1 ⊢
      refine Pc_of (Gf_enter (C := C2 G) Tryz.func22 rfl ok22 (Nat.le_of_ble_eq_true rfl) ?_)
      simp only [Tryz.f22, Option.getD_some]
      refine wC1 (wa h1 hc) trivial ?_
      simp only [one1, frz_t, frz_a, mapF, frz_s, frz_l, frz_n, Option.map_some, List.append_nil]
      rfl
end Go.Proofs.Bv
namespace Go.Proofs.Bv
open Go
structure WithP (args : List AV) : Prop where
  go : ∃ l ks s x, args = [.agg (enc (objW l ks)), .sc (.string s), .agg (enc x)] ∧ ks.length = l.length ∧ l.length ≤ 5000 ∧ ∀ k ∈ ks, bl k s
def addK : List AV → AV
  | [.agg [a, b, c, d, e, .psl lc m, .psl kc m2], .sc (.string s), .agg X] => .agg [a, b, c, d, e, .psl (lc ++ X) (m + 1), .psl (kc ++ [.sc (.string s)]) (m2 + 1)]
  | _ => .junk
open Classical in
noncomputable def orcWith : List AV → Option AV := fun args => if WithP args then some (addK args) else none
theorem addK_is (l : List JV) (ks : List ByteArray) (s : ByteArray) (x : JV) : addK [.agg (enc (objW l ks)), .sc (.string s), .agg (enc x)] = .agg (enc (objW (l ++ [x]) (ks ++ [s]))) := by
  simp only [objW, enc, addK, encs_app, encs, List.append_nil, List.length_append, List.length_cons, List.length_nil, Nat.zero_add]
  simp [strs]
theorem orcWith_of (l : List JV) (ks : List ByteArray) (s : ByteArray) (x : JV) (h1 : ks.length = l.length) (h2 : l.length ≤ 5000) (h3 : ∀ k ∈ ks, bl k s) :
    orcWith [.agg (enc (objW l ks)), .sc (.string s), .agg (enc x)] = some (.agg (enc (objW (l ++ [x]) (ks ++ [s])))) := by
  unfold orcWith
  rw [if_pos ⟨l, ks, s, x, rfl, h1, h2, h3⟩, addK_is]
open Classical in
noncomputable def orcR (G : Nat → Option (List AV)) (f : FuncId) : List AV → Option AV := fun args => if h : ∃ r, Pc (C2 G) f args r then some h.choose else none
theorem orcR_of {G : Nat → Option (List AV)} {f : FuncId} {args : List AV} {r : AV} (h : Pc (C2 G) f args r) : orcR G f args = some r := by
  have h' : ∃ r, Pc (C2 G) f args r := ⟨r, h⟩
  unfold orcR
  rw [dif_pos h', Pc_det h'.choose_spec h]
theorem orcR_inv {G : Nat → Option (List AV)} {f : FuncId} {args : List AV} {r : AV} (h : orcR G f args = some r) : Pc (C2 G) f args r := by
  unfold orcR at h
  split at h
  · rename_i h'
    injection h with h
    rw [← h]
    exact h'.choose_spec
  · cases h
noncomputable def orc4 (G : Nat → Option (List AV)) (f : FuncId) : Option (List AV → Option AV) :=
  if f = 82 then some orcWith else if f = 22 then some (orcR G 22) else if (f == 8 || f == 35) = true then none else some (orcL G f)
noncomputable def C4 (G : Nat → Option (List AV)) : Cfg := ⟨Tryz.prog, G, fun _ => false, orc4 G, fun _ => false⟩
theorem C4P {G : Nat → Option (List AV)} : (C4 G).P = Tryz.prog := rfl
attribute [go_sem] C4P
theorem nn4 (G : Nat → Option (List AV)) : NoNum (C4 G) := nn G
theorem rv_empty {Z : Nat → Prop} {w : World} {m : AMap} {v : Value} (h : RV Z w (.psl [] 0) m v) : RV Z w .nilS m v ∨ RV Z w .emp m v := by
  simp only [RV] at h ⊢
  obtain ⟨a, cap, rfl, h⟩ := h
  cases a with
  | none =>
    left
    rcases h with ⟨_, _, h⟩ | ⟨_, _, _, _, h, _⟩
    · rw [h rfl]
    · cases h
  | some a => exact .inr ⟨a, cap, rfl⟩
set_option maxRecDepth 100000 in
theorem orcOk4 (mx : Int) : OrcOk (C4 (Gu8 mx)) := by
  intro f g ars v hf hg Z w us hr hus r o a next Q hn
  have hf' : orc4 (Gu8 mx) f = some g := hf
  unfold orc4 at hf'
  split at hf'
  · rename_i e
    subst e
    injection hf' with hf'
    subst hf'
    unfold orcWith at hg
    split at hg <;> try (cases hg; done)
    rename_i hW
    injection hg with hg
    subst hg
    obtain ⟨l, ks, s, x, rfl, h1, h2, h3⟩ := hW.go
    have hr3 : HR (C3 (Gu8 mx)) noMap Z noHeap w := HR_cfg (C := C4 (Gu8 mx)) (C' := C3 (Gu8 mx)) rfl hr
    have hn3 : ∀ u w1 m1 Z1 h1 n1, Step (C3 (Gu8 mx)) noMap Z noHeap 0 w m1 Z1 h1 n1 w1 → RV Z1 w1 (.agg (enc (objW (l ++ [x]) (ks ++ [s])))) noMap u → next (a.put o.dst u) w1 :=
      fun u w1 m1 Z1 h1 n1 st hu => hn u w1 m1 Z1 h1 n1 (Step_cfg (C := C3 (Gu8 mx)) (C' := C4 (Gu8 mx)) rfl st) (by rw [addK_is]; exact hu)
    cases l with
    | nil =>
      have hk0 : ks = [] := List.eq_nil_of_length_eq_zero h1
      subst hk0
      have hus' := hus
      simp only [RVl] at hus'
      obtain ⟨u1, rest, rfl, hu1, hrest⟩ := hus'
      have hu1' : RV Z w (.agg [.sc (.int .i64 6), .sc (.bool false), .psl [] 0, .sc (.int .i64 0), .sc (.string ⟨#[]⟩), .psl [] 0, .psl [] 0]) noMap u1 := hu1
      rw [RV] at hu1'
      obtain ⟨vs, rfl, hvs⟩ := hu1'
      simp only [RVs] at hvs
      obtain ⟨v1, r1, rfl, o1, e1, v2, r2, rfl, o2, e2, v3, r3, rfl, o3, e3, v4, r4, rfl, o4, e4, v5, r5, rfl, o5, e5, v6, r6, rfl, o6, e6, v7, r7, rfl, o7, e7, rfl⟩ := hvs
      have mk : ∀ A B : AV, A.one = true → B.one = true → RV Z w B noMap v6 → RV Z w A noMap v7 → RVl Z w [.agg [.sc (.int .i64 6), .sc (.bool false), .psl [] 0, .sc (.int .i64 0), .sc (.string ⟨#[]⟩), B, A], .sc (.string s), .agg (enc x)] noMap (.agg [v1, v2, v3, v4, v5, v6, v7].toArray :: rest) := by
        intro A B oA oB hB hA
        rw [RVl]
        refine ⟨_, _, rfl, ?_, hrest⟩
        rw [RV]
        refine ⟨_, rfl, ?_⟩
        simp only [RVs]
        exact ⟨v1, _, rfl, o1, e1, v2, _, rfl, o2, e2, v3, _, rfl, o3, e3, v4, _, rfl, o4, e4, v5, _, rfl, o5, e5, v6, _, rfl, oB, hB, v7, _, rfl, oA, hA, rfl⟩
      rcases rv_empty e6 with e6 | e6 <;> rcases rv_empty e7 with e7 | e7
      · exact pc_uponC (C := C3 (Gu8 mx)) (nn3 _) (orcOk3 mx) mix (pc82nn (Gu8 mx) s x) hr3 (mk _ _ rfl rfl e6 e7) r o a next Q hn3
      · exact pc_uponC (C := C3 (Gu8 mx)) (nn3 _) (orcOk3 mx) mix (pc82en (Gu8 mx) s x) hr3 (mk _ _ rfl rfl e6 e7) r o a next Q hn3
      · exact pc_uponC (C := C3 (Gu8 mx)) (nn3 _) (orcOk3 mx) mix (pc82ne (Gu8 mx) s x) hr3 (mk _ _ rfl rfl e6 e7) r o a next Q hn3
      · exact pc_uponC (C := C3 (Gu8 mx)) (nn3 _) (orcOk3 mx) mix (pc82ee (Gu8 mx) s x) hr3 (mk _ _ rfl rfl e6 e7) r o a next Q hn3
    | cons y l =>
      exact pc_uponC (C := C3 (Gu8 mx)) (nn3 _) (orcOk3 mx) mix (pc82m (Gu8 mx) (y :: l) ks s x l.length (by rw [h1]; rfl) rfl (by simp at h2; omega) h3) hr3 hus r o a next Q hn3
  · split at hf'
    · rename_i e
      subst e
      injection hf' with hf'
      subst hf'
      exact pc_uponC (C := C2 (Gu8 mx)) (nn2 _) (orcOk2 mx) mix (orcR_inv hg) (HR_cfg (C := C4 (Gu8 mx)) (C' := C2 (Gu8 mx)) rfl hr) hus r o a next Q fun u w1 m1 Z1 h1 n1 st => hn u w1 m1 Z1 h1 n1 (Step_cfg (C := C2 (Gu8 mx)) (C' := C4 (Gu8 mx)) rfl st)
    · split at hf'
      · cases hf'
      · injection hf' with hf'
        subst hf'
        exact pc_upon (orcL_inv hg) (HR_cfg (C := C4 (Gu8 mx)) (C' := Cf (Gu8 mx)) rfl hr) hus r o a next Q fun u w1 m1 Z1 h1 n1 st => hn u w1 m1 Z1 h1 n1 (Step_cfg (C := Cf (Gu8 mx)) (C' := C4 (Gu8 mx)) rfl st)
end Go.Proofs.Bv
