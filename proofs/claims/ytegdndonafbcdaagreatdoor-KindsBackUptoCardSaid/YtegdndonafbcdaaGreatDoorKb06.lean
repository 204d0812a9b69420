/-
  A part of the proof of KindsBackUptoCardSaid: BvFn, BvOwn, BvTop, BvAll, BvDraw1.
  Conditions: those that each part names.
-/
import Derived.Test.YtegdndonafbcdaaGreatDoorKb05
set_option linter.unusedSimpArgs false
set_option linter.unusedVariables false
namespace Go.Proofs.Bv
open Go
section
variable {C : Cfg} {m m' : AMap} {Z Z' : Nat → Prop} {h h' : Heap} {n n' nt w0 : Nat} {w w' : World}
theorem frz_dom (h : Heap) : (k : Nat) → {a : AV} → {r : AV × List Nat} → frz h k a = some r → ∀ b ∈ r.2, ∃ cs es fz, h b = some (.cells cs es fz)
  | 0, _, _, hv => by simp [frz] at hv
  | k + 1, a, r, hv => by
    have ih := @frz_dom h k
    have ihl : (l : List AV) → {r : List AV × List Nat} → mapF (frz h k) l = some r → ∀ b ∈ r.2, ∃ cs es fz, h b = some (.cells cs es fz) := by
      intro l
      induction l with
      | nil => intro r hv; simp only [mapF, Option.some.injEq] at hv; subst hv; simp
      | cons a l ihl =>
        intro r hv
        simp only [mapF] at hv
        split at hv
        · rename_i r1 r2 e1 e2
          injection hv with hv; subst hv
          intro b hb
          rcases List.mem_append.1 hb with hb | hb
          · exact ih e1 b hb
          · exact ihl e2 b hb
        · cases hv
    simp only [frz] at hv
    split at hv
    · injection hv with hv; subst hv; simp
    · split at hv
      · injection hv with hv; subst hv; simp
      · injection hv with hv; subst hv; simp
      · split at hv <;> try (cases hv; done)
        rename_i cs es fz hb
        split at hv <;> try (cases hv; done)
        simp only [Option.map_eq_some_iff] at hv
        obtain ⟨x, hx, rfl⟩ := hv
        intro b' hb'
        rcases List.mem_cons.1 hb' with rfl | hb'
        · exact ⟨cs, es, fz, hb⟩
        · exact ihl _ hx b' hb'
      · split at hv <;> try (cases hv; done)
        rename_i cs es fz hb
        simp only [Option.map_eq_some_iff] at hv
        obtain ⟨x, hx, rfl⟩ := hv
        intro b' hb'
        rcases List.mem_cons.1 hb' with rfl | hb'
        · exact ⟨cs, es, fz, hb⟩
        · exact ihl _ hx b' hb'
      · cases hv
      · simp only [Option.map_eq_some_iff] at hv
        obtain ⟨x, hx, rfl⟩ := hv
        exact ihl _ hx
      · simp only [Option.map_eq_some_iff] at hv
        obtain ⟨x, hx, rfl⟩ := hv
        exact fun b hb => ih hx b hb
      · simp only [Option.map_eq_some_iff] at hv
        obtain ⟨x, hx, rfl⟩ := hv
        exact ihl _ hx
      · simp only [Option.map_eq_some_iff] at hv
        obtain ⟨x, hx, rfl⟩ := hv
        exact ihl _ hx
      · cases hv
theorem mapF_dom (h : Heap) (k : Nat) : (l : List AV) → {r : List AV × List Nat} → mapF (frz h k) l = some r → ∀ b ∈ r.2, ∃ cs es fz, h b = some (.cells cs es fz)
  | [], r, hv => by simp only [mapF, Option.some.injEq] at hv; subst hv; simp
  | a :: l, r, hv => by
    simp only [mapF] at hv
    split at hv
    · rename_i r1 r2 e1 e2
      injection hv with hv; subst hv
      intro b hb
      rcases List.mem_append.1 hb with hb | hb
      · exact frz_dom h k e1 b hb
      · exact mapF_dom h k l e2 b hb
    · cases hv
theorem mapF_l {f : AV → Option (AV × List Nat)} {B : List Nat → Prop} (hB : ∀ x y, B (x ++ y) → B x ∧ B y) (hf : ∀ a r v, f a = some r → B r.2 → RV Z w a m v → RV Z' w r.1 noMap v) :
    (l : List AV) → {r : List AV × List Nat} → {us : List Value} → mapF f l = some r → B r.2 → RVl Z w l m us → RVl Z' w r.1 noMap us
  | [], r, us, hv, _, hu => by simp only [mapF, Option.some.injEq] at hv; subst hv; simpa only [RVl] using hu
  | a :: l, r, us, hv, hb, hu => by
    simp only [mapF] at hv
    split at hv
    · rename_i r1 r2 e1 e2
      injection hv with hv; subst hv
      simp only [RVl] at hu ⊢
      obtain ⟨u, us, rfl, h1, h2⟩ := hu
      obtain ⟨b1, b2⟩ := hB _ _ hb
      exact ⟨u, us, rfl, hf a r1 u e1 b1 h1, mapF_l hB hf l e2 b2 h2⟩
    · cases hv
theorem mapF_s {f : AV → Option (AV × List Nat)} {B : List Nat → Prop} (hB : ∀ x y, B (x ++ y) → B x ∧ B y) (hf : ∀ a r v, f a = some r → B r.2 → RV Z w a m v → RV Z' w r.1 noMap v) (h1 : ∀ a r, f a = some r → a.one = true → r.1.one = true) :
    (l : List AV) → {r : List AV × List Nat} → {us : List Value} → mapF f l = some r → B r.2 → RVs Z w l m us → RVs Z' w r.1 noMap us
  | [], r, us, hv, _, hu => by simp only [mapF, Option.some.injEq] at hv; subst hv; simpa only [RVs] using hu
  | a :: l, r, us, hv, hb, hu => by
    simp only [mapF] at hv
    split at hv
    · rename_i r1 r2 e1 e2
      injection hv with hv; subst hv
      simp only [RVs] at hu ⊢
      obtain ⟨u, us, rfl, h0, h2, h3⟩ := hu
      obtain ⟨b1, b2⟩ := hB _ _ hb
      exact ⟨u, us, rfl, h1 _ _ e1 h0, hf a r1 u e1 b1 h2, mapF_s hB hf h1 l e2 b2 h3⟩
    · cases hv
theorem frz_one (h : Heap) : (k : Nat) → {a : AV} → {r : AV × List Nat} → frz h k a = some r → a.one = true → r.1.one = true
  | 0, _, _, hv, _ => by simp [frz] at hv
  | k + 1, a, r, hv, ho => by
    simp only [frz] at hv
    split at hv
    · injection hv with hv; subst hv; exact ho
    · rename_i hnp
      clear hnp
      cases a <;> simp only at hv <;> try (cases hv; done)
      case nilS => injection hv with hv; subst hv; rfl
      case emp => injection hv with hv; subst hv; rfl
      case osl b off len =>
        split at hv <;> try (cases hv; done)
        split at hv <;> try (cases hv; done)
        simp only [Option.map_eq_some_iff] at hv
        obtain ⟨x, _, rfl⟩ := hv
        rfl
      case ptr b off =>
        split at hv <;> try (cases hv; done)
        simp only [Option.map_eq_some_iff] at hv
        obtain ⟨x, _, rfl⟩ := hv
        rfl
      case fn f caps =>
        cases f <;> first
          | (cases hv; done)
          | (obtain ⟨x, _, rfl⟩ := Option.map_eq_some_iff.1 hv; rfl)
      case ifc t v =>
        simp only [Option.map_eq_some_iff] at hv
        obtain ⟨x, _, rfl⟩ := hv
        rfl
      all_goals simp [AV.one] at ho
theorem frz_sound (hr : HR C m Z h w) (hZ : ∀ r, Z r → Z' r) : (k : Nat) → {a : AV} → {r : AV × List Nat} → {v : Value} → frz h k a = some r → (∀ b ∈ r.2, ∀ mb, m b = some mb → Z' mb.rb) → RV Z w a m v → RV Z' w r.1 noMap v
  | 0, _, _, _, hv, _, _ => by simp [frz] at hv
  | k + 1, a, r, v, hv, hids, hu => by
    have ih : ∀ a r v, frz h k a = some r → (∀ b ∈ r.2, ∀ mb, m b = some mb → Z' mb.rb) → RV Z w a m v → RV Z' w r.1 noMap v := fun a r v => frz_sound hr hZ k
    have hB : ∀ x y : List Nat, (∀ b ∈ x ++ y, ∀ mb, m b = some mb → Z' mb.rb) → (∀ b ∈ x, ∀ mb, m b = some mb → Z' mb.rb) ∧ (∀ b ∈ y, ∀ mb, m b = some mb → Z' mb.rb) :=
      fun x y h => ⟨fun b hb => h b (List.mem_append.2 (.inl hb)), fun b hb => h b (List.mem_append.2 (.inr hb))⟩
    simp only [frz] at hv
    split at hv
    · rename_i hp
      injection hv with hv; subst hv
      exact RV_mono hZ (fun _ _ => rfl) _ (fun _ _ h => h) (RV_pur a noMap hp hu)
    · rename_i hnp
      clear hnp
      cases a <;> simp only at hv <;> try (cases hv; done)
      case nilS =>
        injection hv with hv; subst hv
        simp only [RV] at hu ⊢
        exact ⟨none, 0, hu, .inl ⟨trivial, trivial, fun _ => rfl⟩⟩
      case emp =>
        injection hv with hv; subst hv
        simp only [RV] at hu ⊢
        obtain ⟨a, cap, rfl⟩ := hu
        exact ⟨some a, cap, rfl, .inl ⟨trivial, trivial, fun e => by cases e⟩⟩
      case osl b off len =>
        split at hv <;> try (cases hv; done)
        rename_i cs es fz hb
        split at hv <;> try (cases hv; done)
        simp only [Option.map_eq_some_iff] at hv
        obtain ⟨x, hx, rfl⟩ := hv
        simp only [RV] at hu ⊢
        obtain ⟨mb, cap, hm, rfl, hlc, _⟩ := hu
        obtain ⟨us, h1, h2⟩ := (hr.reads hb hm).cut off (len * es)
        have hz : Z' mb.rb := hids b (by simp) mb hm
        exact ⟨_, cap, rfl, .inr ⟨hlc, mb.rb, mb.base + off, us, rfl, hz, h1, mapF_s (B := fun l => ∀ b ∈ l, ∀ mb, m b = some mb → Z' mb.rb) hB ih (fun a r => frz_one h k) _ hx (fun b' hb' => hids b' (List.mem_cons_of_mem _ hb')) h2⟩⟩
      case ptr b off =>
        split at hv <;> try (cases hv; done)
        rename_i cs es fz hb
        simp only [Option.map_eq_some_iff] at hv
        obtain ⟨x, hx, rfl⟩ := hv
        simp only [RV] at hu ⊢
        obtain ⟨mb, hm, rfl⟩ := hu
        obtain ⟨us, h1, h2⟩ := hr.reads hb hm
        have hz : Z' mb.rb := hids b (by simp) mb hm
        exact ⟨mb.rb, mb.base, us, rfl, hz, h1, mapF_s (B := fun l => ∀ b ∈ l, ∀ mb, m b = some mb → Z' mb.rb) hB ih (fun a r => frz_one h k) _ hx (fun b' hb' => hids b' (List.mem_cons_of_mem _ hb')) h2⟩
      case fn f caps =>
        cases f <;> try (cases hv; done)
        all_goals
          obtain ⟨x, hx, rfl⟩ := Option.map_eq_some_iff.1 hv
          simp only [RV] at hu ⊢
          obtain ⟨us, rfl, h2⟩ := hu
          exact ⟨us, rfl, mapF_l (B := fun l => ∀ b ∈ l, ∀ mb, m b = some mb → Z' mb.rb) hB ih _ hx hids h2⟩
      case ifc t x =>
        simp only [Option.map_eq_some_iff] at hv
        obtain ⟨x, hx, rfl⟩ := hv
        simp only [RV] at hu ⊢
        obtain ⟨u, rfl, h2⟩ := hu
        exact ⟨u, rfl, ih _ _ _ hx hids h2⟩
      case agg cs =>
        simp only [Option.map_eq_some_iff] at hv
        obtain ⟨x, hx, rfl⟩ := hv
        simp only [RV] at hu ⊢
        obtain ⟨us, rfl, h2⟩ := hu
        exact ⟨us, rfl, mapF_s (B := fun l => ∀ b ∈ l, ∀ mb, m b = some mb → Z' mb.rb) hB ih (fun a r => frz_one h k) _ hx hids h2⟩
      case tup vs =>
        simp only [Option.map_eq_some_iff] at hv
        obtain ⟨x, hx, rfl⟩ := hv
        simp only [RV] at hu ⊢
        obtain ⟨us, rfl, h2⟩ := hu
        exact ⟨us, rfl, mapF_l (B := fun l => ∀ b ∈ l, ∀ mb, m b = some mb → Z' mb.rb) hB ih _ hx hids h2⟩
def Zof (Z : Nat → Prop) (m : AMap) (ids : List Nat) : Nat → Prop := fun r => Z r ∨ ∃ b ∈ ids, ∃ mb, m b = some mb ∧ mb.rb = r
theorem HR.lone (hr : HR C m Z h w) {ids : List Nat} (hd : ∀ b ∈ ids, ∃ cs es fz, h b = some (.cells cs es fz)) : HR C noMap (Zof Z m ids) noHeap w := by
  refine ⟨fun b cs es fz e => by simp [noHeap] at e, fun b L e => by simp [noHeap] at e, fun b b' o o' mb mb' e => by simp [noHeap] at e, fun r e => ?_, fun g cs e => RV_mono (fun _ h => .inl h) (fun _ _ => rfl) _ (fun _ _ h => h) (hr.glob g cs e)⟩
  rcases e with e | ⟨b, hb, mb, e1, rfl⟩
  · exact hr.zlt r e
  · obtain ⟨cs, es, fz, e2⟩ := hd b hb
    exact hr.lt e2 e1
theorem no_own {Z : Nat → Prop} {m : AMap} {r : Nat} : ¬ Own Z noHeap m r := fun ⟨_, _, _, e, _⟩ => by simp [noHeap] at e
theorem Step.quiet (hr : HR C m Z h w) (hs : w.heap.size ≤ w'.heap.size) (hk : ∀ r, r < w.heap.size → w'.heap[r]? = w.heap[r]?) (ho : w'.os = w.os) (ht : w'.tape = w.tape) (hu : w'.output = w.output) : Step C m Z h n w m Z h n w' := by
  have hkz : ∀ r, Z r → w'.heap[r]? = w.heap[r]? := fun r e => hk r (hr.zlt r e)
  refine ⟨⟨fun b cs es fz e => ?_, fun b L e => ?_, hr.inj, fun r e => Nat.lt_of_lt_of_le (hr.zlt r e) hs, fun g cs e => RV_mono (fun _ h => h) hkz _ (fun _ _ h => h) (hr.glob g cs e)⟩,
    fun _ _ e => e, fun _ e => .inl e, fun _ e => e, fun _ e => .inl e, Nat.le_refl _, hs, fun r hr' _ => hk r hr', fun r hr' e => e, ho, ht, hu⟩
  · obtain ⟨mb, c, e', us, h1, h2, h3, h4, h5, h6, h7⟩ := hr.cells b cs es fz e
    exact ⟨mb, c, e', us, h1, h2, h3, by rw [← h4]; exact hk _ (hr.lt e h1), h5, RVs_mono (fun _ h => h) hkz _ (fun _ _ h => h) h6, h7⟩
  · obtain ⟨mb, r, h1, h2, h3, h4, h5, h6, h7, h8⟩ := hr.loops b L e
    exact ⟨mb, r, h1, by rw [← h2]; exact hk _ (hr.lt e h1), h3, h4, h5, h6, RT_mono (fun _ h => h) hkz (fun _ _ h => h) h7, h8⟩
theorem shut_get {ids : List Nat} {b : Nat} {o : Blk} (e : shutIds h ids b = some o) : (b ∈ ids ∧ ∃ o', h b = some o' ∧ o = shutBlk o') ∨ (b ∉ ids ∧ h b = some o) := by
  unfold shutIds at e
  split at e
  · rename_i hc
    simp only [Option.map_eq_some_iff] at e
    obtain ⟨o', e1, e2⟩ := e
    exact .inl ⟨by simpa using hc, o', e1, e2.symm⟩
  · rename_i hc
    exact .inr ⟨by simpa using hc, e⟩
theorem Step.shut (hr : HR C m Z h w) {ids : List Nat} (hd : ∀ b ∈ ids, ∃ cs es fz, h b = some (.cells cs es fz)) {Z2 : Nat → Prop} (hs : w.heap.size ≤ w'.heap.size) (hk : ∀ r, r < w.heap.size → w'.heap[r]? = w.heap[r]?)
    (hz1 : ∀ r, Zof Z m ids r → Z2 r) (hz2 : ∀ r, Z2 r → Zof Z m ids r ∨ w.heap.size ≤ r) (hz3 : ∀ r, Z2 r → r < w'.heap.size) (ho : w'.os = w.os) (ht : w'.tape = w.tape) (hu : w'.output = w.output) : Step C m Z h n w m Z2 (shutIds h ids) n w' := by
  have hzz : ∀ r, Z r → Z2 r := fun r e => hz1 r (.inl e)
  have hkz : ∀ r, Z r → w'.heap[r]? = w.heap[r]? := fun r e => hk r (hr.zlt r e)
  have key : ∀ {b mb o}, h b = some o → m b = some mb → Z2 mb.rb → Z mb.rb ∨ b ∈ ids := by
    intro b mb o e1 e2 e3
    rcases hz2 _ e3 with (e | ⟨b', hb', mb', e4, e5⟩) | e
    · exact .inl e
    · by_cases hz : Z mb.rb
      · exact .inl hz
      · obtain ⟨cs, es, fz, e6⟩ := hd b' hb'
        exact .inr (hr.inj b b' o _ mb mb' e1 e6 e2 e4 e5.symm hz ▸ hb')
    · have := hr.lt e1 e2; omega
  refine ⟨⟨fun b cs es fz e => ?_, fun b L e => ?_, fun b b' o o' mb mb' e1 e2 e3 e4 e5 hz => ?_, hz3, fun g cs e => RV_mono hzz hkz _ (fun _ _ h => h) (hr.glob g cs e)⟩,
    fun _ _ e => e, fun _ e => .inl e, hzz, fun r e => ?_, Nat.le_refl _, hs, fun r hr' _ => hk r hr', fun r hr' e => ?_, ho, ht, hu⟩
  · rcases shut_get e with ⟨hb, o', e1, e2⟩ | ⟨hb, e1⟩
    · cases o' with
      | loop L => simp [shutBlk] at e2
      | cells cs' es' fz' =>
        simp only [shutBlk, Blk.cells.injEq] at e2
        obtain ⟨rfl, rfl, rfl⟩ := e2
        obtain ⟨mb, c, e', us, h1, h2, h3, h4, h5, h6, h7⟩ := hr.cells b _ _ _ e1
        exact ⟨mb, c, e', us, h1, h2, h3, by rw [← h4]; exact hk _ (hr.lt e1 h1), h5, RVs_mono hzz hkz _ (fun _ _ h => h) h6, ⟨fun _ => hz1 _ (.inr ⟨b, hb, mb, h1, rfl⟩), fun _ => rfl⟩⟩
    · obtain ⟨mb, c, e', us, h1, h2, h3, h4, h5, h6, h7⟩ := hr.cells b cs es fz e1
      refine ⟨mb, c, e', us, h1, h2, h3, by rw [← h4]; exact hk _ (hr.lt e1 h1), h5, RVs_mono hzz hkz _ (fun _ _ h => h) h6, ⟨fun e => hzz _ (h7.1 e), fun e => h7.2 ?_⟩⟩
      rcases key e1 h1 e with e | e
      · exact e
      · exact absurd e hb
  · rcases shut_get e with ⟨hb, o', e1, e2⟩ | ⟨hb, e1⟩
    · obtain ⟨cs, es, fz, e6⟩ := hd b hb
      rw [e1] at e6
      injection e6 with e6
      subst e6
      simp [shutBlk] at e2
    · obtain ⟨mb, r, h1, h2, h3, h4, h5, h6, h7, h8⟩ := hr.loops b L e1
      refine ⟨mb, r, h1, by rw [← h2]; exact hk _ (hr.lt e1 h1), fun e => ?_, h4, h5, h6, RT_mono hzz hkz (fun _ _ h => h) h7, h8⟩
      rcases key e1 h1 e with e | e
      · exact h3 e
      · exact hb e
  · have get : ∀ {b o}, shutIds h ids b = some o → ∃ o', h b = some o' := by
      intro b o e
      rcases shut_get e with ⟨_, o', e1, _⟩ | ⟨_, e1⟩
      · exact ⟨o', e1⟩
      · exact ⟨o, e1⟩
    obtain ⟨p, e1'⟩ := get e1
    obtain ⟨q, e2'⟩ := get e2
    exact hr.inj b b' p q mb mb' e1' e2' e3 e4 e5 (fun e => hz (hzz _ e))
  · rcases hz2 r e with (e | ⟨b, hb, mb, e4, e5⟩) | e
    · exact .inl e
    · by_cases hz : Z r
      · exact .inl hz
      · obtain ⟨cs, es, fz, e6⟩ := hd b hb
        exact .inr (.inr ⟨b, _, mb, e6, e4, e5, hz⟩)
    · exact .inr (.inl e)
  · obtain ⟨b, o, mb, e1, e2, e3, hz⟩ := e
    have : ∃ o', h b = some o' := by
      rcases shut_get e1 with ⟨_, o', e1, _⟩ | ⟨_, e1⟩
      · exact ⟨o', e1⟩
      · exact ⟨o, e1⟩
    obtain ⟨o', e1'⟩ := this
    exact ⟨b, o', mb, e1', e2, e3, fun e => hz (hzz _ e)⟩
end
end Go.Proofs.Bv
namespace Go.Proofs.Bv
open Go
section
variable {Z : Nat → Prop} {w : World} {k : Nat} {m1 m2 : AMap}
theorem sh_one (k : Nat) : (a : AV) → (a.sh k).one = a.one
  | .sc _ | .nilS | .emp | .psl _ _ | .pptr _ _ | .osl _ _ _ | .ptr _ _ | .ifc _ _ | .agg _ | .tup _ | .junk => rfl
  | .fn f _ => by cases f <;> rfl
mutual
theorem RV_sh (hm : ∀ b x, m1 b = some x → m2 (k + b) = some x) : (a : AV) → {v : Value} → RV Z w a m1 v → RV Z w (a.sh k) m2 v
  | .sc _, _, h => by simpa only [AV.sh, RV] using h
  | .nilS, _, h => by simpa only [AV.sh, RV] using h
  | .emp, _, h => by simpa only [AV.sh, RV] using h
  | .psl cs len, _, h => by simpa only [AV.sh, RV] using h
  | .pptr cs off, _, h => by simpa only [AV.sh, RV] using h
  | .osl b off len, _, h => by
    simp only [AV.sh, RV] at h ⊢
    obtain ⟨mb, cap, e, h⟩ := h
    exact ⟨mb, cap, hm _ _ e, h⟩
  | .ptr b off, _, h => by
    simp only [AV.sh, RV] at h ⊢
    obtain ⟨mb, e, h⟩ := h
    exact ⟨mb, hm _ _ e, h⟩
  | .fn f caps, _, h => by
    cases f <;> simp only [AV.sh, RV] at h ⊢
    case yield =>
      obtain ⟨mb, e, h⟩ := h
      exact ⟨mb, hm _ _ e, h⟩
    all_goals
      obtain ⟨us, e, h⟩ := h
      exact ⟨us, e, RVl_sh hm caps h⟩
  | .ifc t a, _, h => by
    simp only [AV.sh, RV] at h ⊢
    obtain ⟨u, e, h⟩ := h
    exact ⟨u, e, RV_sh hm a h⟩
  | .agg cs, _, h => by
    simp only [AV.sh, RV] at h ⊢
    obtain ⟨us, e, h⟩ := h
    exact ⟨us, e, RVs_sh hm cs h⟩
  | .tup vs, _, h => by
    simp only [AV.sh, RV] at h ⊢
    obtain ⟨us, e, h⟩ := h
    exact ⟨us, e, RVl_sh hm vs h⟩
  | .junk, _, _ => by simp only [AV.sh, RV]
theorem RVs_sh (hm : ∀ b x, m1 b = some x → m2 (k + b) = some x) : (l : List AV) → {us : List Value} → RVs Z w l m1 us → RVs Z w (shs k l) m2 us
  | [], _, h => by simpa only [shs, RVs] using h
  | a :: l, _, h => by
    simp only [shs, RVs] at h ⊢
    obtain ⟨u, r, e, h1, h2, h3⟩ := h
    exact ⟨u, r, e, by rw [sh_one]; exact h1, RV_sh hm a h2, RVs_sh hm l h3⟩
theorem RVl_sh (hm : ∀ b x, m1 b = some x → m2 (k + b) = some x) : (l : List AV) → {us : List Value} → RVl Z w l m1 us → RVl Z w (shs k l) m2 us
  | [], _, h => by simpa only [shs, RVl] using h
  | a :: l, _, h => by
    simp only [shs, RVl] at h ⊢
    obtain ⟨u, r, e, h2, h3⟩ := h
    exact ⟨u, r, e, RV_sh hm a h2, RVl_sh hm l h3⟩
end
mutual
theorem RV_cl (w' : World) (Z' : Nat → Prop) : (a : AV) → {m : AMap} → {v : Value} → a.cl = true → RV Z w a m v → RV Z' w' a m v
  | .sc _, _, _, _, h => by simpa only [RV] using h
  | .nilS, _, _, _, h => by simpa only [RV] using h
  | .emp, _, _, _, h => by simpa only [RV] using h
  | .psl [] 0, _, _, _, h => by
    simp only [RV] at h ⊢
    obtain ⟨a, cap, e, h⟩ := h
    refine ⟨a, cap, e, .inl ⟨trivial, trivial, fun ha => ?_⟩⟩
    rcases h with ⟨_, _, h⟩ | ⟨_, _, _, _, h, _⟩
    · exact h ha
    · rw [ha] at h; cases h
  | .psl [] (_ + 1), _, _, hp, _ => by simp [AV.cl] at hp
  | .psl (_ :: _) _, _, _, hp, _ => by simp [AV.cl] at hp
  | .pptr cs off, _, _, hp, _ => by simp [AV.cl] at hp
  | .osl b off len, _, _, _, h => by simpa only [RV] using h
  | .ptr b off, _, _, _, h => by simpa only [RV] using h
  | .fn f caps, _, _, hp, _ => by simp [AV.cl] at hp
  | .ifc t a, _, _, hp, h => by
    simp only [AV.cl] at hp
    simp only [RV] at h ⊢
    obtain ⟨u, e, h⟩ := h
    exact ⟨u, e, RV_cl w' Z' a hp h⟩
  | .agg cs, _, _, hp, h => by
    simp only [AV.cl] at hp
    simp only [RV] at h ⊢
    obtain ⟨us, e, h⟩ := h
    exact ⟨us, e, RVs_cl w' Z' cs hp h⟩
  | .tup vs, _, _, hp, h => by
    simp only [AV.cl] at hp
    simp only [RV] at h ⊢
    obtain ⟨us, e, h⟩ := h
    exact ⟨us, e, RVl_cl w' Z' vs hp h⟩
  | .junk, _, _, hp, _ => by simp [AV.cl] at hp
theorem RVs_cl (w' : World) (Z' : Nat → Prop) : (l : List AV) → {m : AMap} → {us : List Value} → cls l = true → RVs Z w l m us → RVs Z' w' l m us
  | [], _, _, _, h => by simpa only [RVs] using h
  | a :: l, _, _, hp, h => by
    simp only [cls, Bool.and_eq_true] at hp
    simp only [RVs] at h ⊢
    obtain ⟨u, r, e, h1, h2, h3⟩ := h
    exact ⟨u, r, e, h1, RV_cl w' Z' a hp.1 h2, RVs_cl w' Z' l hp.2 h3⟩
theorem RVl_cl (w' : World) (Z' : Nat → Prop) : (l : List AV) → {m : AMap} → {us : List Value} → cls l = true → RVl Z w l m us → RVl Z' w' l m us
  | [], _, _, _, h => by simpa only [RVl] using h
  | a :: l, _, _, hp, h => by
    simp only [cls, Bool.and_eq_true] at hp
    simp only [RVl] at h ⊢
    obtain ⟨u, r, e, h2, h3⟩ := h
    exact ⟨u, r, e, RV_cl w' Z' a hp.1 h2, RVl_cl w' Z' l hp.2 h3⟩
end
end
section
variable {C : Cfg} {m m1 : AMap} {Z Z1 Z2 : Nat → Prop} {h h1 g : Heap} {n n1 : Nat} {w w1 : World}
def joinM (m : AMap) (n n1 : Nat) (m1 : AMap) : AMap := fun b => if n ≤ b ∧ b < n + n1 then m1 (b - n) else m b
theorem Step.join (hr : HR C m Z h w) (sA : Step C m Z h n w m Z2 g n w1) (hg : ∀ b o, g b = some o → ∃ o', h b = some o') (hf : ∀ b, n ≤ b → b < n + n1 → m b = none) (hm1 : ∀ b x, m1 b = some x → b < n1)
    (H1 : ∀ b cs es fz, h1 b = some (.cells cs es fz) → ∃ mb c e us, m1 b = some mb ∧ mb.es = es ∧ mb.top = c.size ∧ w1.heap[mb.rb]? = some (.cells c e (0, 0)) ∧
      (∀ i, i < us.length → c[mb.base + i]? = us[i]?) ∧ RVs Z2 w1 cs m1 us ∧ (fz = true ↔ Z2 mb.rb) ∧ (¬ Z2 mb.rb → w.heap.size ≤ mb.rb))
    (hi : ∀ b b' o o' mb mb', h1 b = some o → h1 b' = some o' → m1 b = some mb → m1 b' = some mb' → mb.rb = mb'.rb → ¬ Z2 mb.rb → b = b') :
    Step C m Z h n w (joinM m n n1 m1) Z2 (joinH g n n1 h1) (n + n1) w1 := by
  have up : ∀ b x, m1 b = some x → joinM m n n1 m1 (n + b) = some x := fun b x e => by
    have := hm1 b x e
    unfold joinM
    rw [if_pos ⟨by omega, by omega⟩, Nat.add_sub_cancel_left]
    exact e
  have old : ∀ b x, m b = some x → joinM m n n1 m1 b = some x := fun b x e => by
    unfold joinM
    rw [if_neg]
    · exact e
    · rintro ⟨e1, e2⟩
      rw [hf b e1 e2] at e
      cases e
  have cls : ∀ {b o}, joinH g n n1 h1 b = some o → (∃ cs es fz, (n ≤ b ∧ b < n + n1) ∧ h1 (b - n) = some (.cells cs es fz) ∧ o = .cells (shs n cs) es fz) ∨ (¬ (n ≤ b ∧ b < n + n1) ∧ g b = some o) := by
    intro b o e
    unfold joinH at e
    by_cases hb : n ≤ b ∧ b < n + n1
    · rw [if_pos hb] at e
      cases hh : h1 (b - n) with
      | none => rw [hh] at e; cases e
      | some x =>
        rw [hh] at e
        cases x with
        | cells cs es fz =>
          injection e with e
          exact .inl ⟨cs, es, fz, hb, rfl, e.symm⟩
        | loop L => cases e
    · rw [if_neg hb] at e
      exact .inr ⟨hb, e⟩
  have mout : ∀ {b mb}, ¬ (n ≤ b ∧ b < n + n1) → joinM m n n1 m1 b = some mb → m b = some mb := by
    intro b mb hb e
    unfold joinM at e
    rwa [if_neg hb] at e
  have min : ∀ {b mb}, (n ≤ b ∧ b < n + n1) → joinM m n n1 m1 b = some mb → m1 (b - n) = some mb := by
    intro b mb hb e
    unfold joinM at e
    rwa [if_pos hb] at e
  have hnew : ∀ {b mb cs es fz}, h1 b = some (.cells cs es fz) → m1 b = some mb → ¬ Z2 mb.rb → w.heap.size ≤ mb.rb := by
    intro b mb cs es fz e1 e2 e3
    obtain ⟨mb', c, e', us, q1, _, _, _, _, _, _, q8⟩ := H1 b cs es fz e1
    rw [e2] at q1
    injection q1 with q1
    subst q1
    exact q8 e3
  have hold : ∀ {b o mb}, g b = some o → m b = some mb → mb.rb < w.heap.size := by
    intro b o mb e1 e2
    obtain ⟨o', e3⟩ := hg b o e1
    exact hr.lt e3 e2
  refine ⟨⟨fun b cs es fz e => ?_, fun b L e => ?_, fun b b' o o' mb mb' e1 e2 e3 e4 e5 e6 => ?_, sA.hr.zlt, sA.hr.glob⟩, old, fun b e => ?_, sA.zext, sA.znew, Nat.le_add_right _ _, sA.size, sA.frame, fun r hr' ⟨b, o, mb, e1, e2, e3, e4⟩ => ?_, sA.os, sA.tape, sA.output⟩
  · rcases cls e with ⟨cs', es', fz', hb, e1, e2⟩ | ⟨hb, e1⟩
    · injection e2 with e2 e3 e4
      subst e2; subst e3; subst e4
      obtain ⟨mb, c, e', us, q1, q2, q3, q4, q5, q6, q7, _⟩ := H1 _ _ _ _ e1
      have := up _ _ q1
      rw [show n + (b - n) = b by omega] at this
      exact ⟨mb, c, e', us, this, q2, q3, q4, q5, RVs_sh up cs' q6, q7⟩
    · obtain ⟨mb, c, e', us, q1, q2, q3, q4, q5, q6, q7⟩ := sA.hr.cells b cs es fz e1
      exact ⟨mb, c, e', us, old _ _ q1, q2, q3, q4, q5, RVs_mono (fun _ h => h) (fun _ _ => rfl) _ old q6, q7⟩
  · rcases cls e with ⟨cs', es', fz', hb, e1, e2⟩ | ⟨hb, e1⟩
    · cases e2
    · obtain ⟨mb, r, q1, q2, q3, q4, q5, q6, q7, q8⟩ := sA.hr.loops b L e1
      exact ⟨mb, r, old _ _ q1, q2, q3, q4, q5, q6, RT_mono (fun _ h => h) (fun _ _ => rfl) old q7, q8⟩
  · rcases cls e1 with ⟨c1, s1, z1, b1, f1, rfl⟩ | ⟨b1, f1⟩ <;> rcases cls e2 with ⟨c2, s2, z2, b2, f2, rfl⟩ | ⟨b2, f2⟩
    · have := hi _ _ _ _ _ _ f1 f2 (min b1 e3) (min b2 e4) e5 e6
      omega
    · have := hnew f1 (min b1 e3) e6
      have := hold f2 (mout b2 e4)
      omega
    · have := hold f1 (mout b1 e3)
      have := hnew f2 (min b2 e4) (e5 ▸ e6)
      omega
    · exact sA.hr.inj b b' o o' mb mb' f1 f2 (mout b1 e3) (mout b2 e4) e5 e6
  · unfold joinM at e
    by_cases hb : n ≤ b ∧ b < n + n1
    · exact .inr hb
    · rw [if_neg hb] at e
      exact .inl e
  · rcases cls e1 with ⟨c1, s1, z1, b1, f1, rfl⟩ | ⟨b1, f1⟩
    · have := hnew f1 (min b1 e2) (e3 ▸ e4)
      omega
    · exact sA.dom r hr' ⟨b, o, mb, f1, mout b1 e2, e3, e4⟩
theorem own_post (hr : HR C m Z h w) {ids : List Nat} (hd : ∀ b ∈ ids, ∃ cs es fz, h b = some (.cells cs es fz)) (hf : ∀ b, n ≤ b → b < n + n1 → m b = none)
    (s : Step C noMap (Zof Z m ids) noHeap 0 w m1 Z1 h1 n1 w1) {v : AV} {u : Value} (hu : RV Z1 w1 v m1 u) :
    ∃ m' Z', Step C m Z h n w m' Z' (joinH (shutC h ids v h1) n n1 h1) (n + n1) w1 ∧ RV Z' w1 (v.sh n) m' u := by
  have hk : ∀ r, r < w.heap.size → w1.heap[r]? = w.heap[r]? := fun r hr' => s.frame r hr' no_own
  have hm1 : ∀ b x, m1 b = some x → b < n1 := fun b x e => by
    rcases s.mnew b (by simp [e]) with e | e
    · simp [noMap] at e
    · exact e.2
  have up : ∀ b x, m1 b = some x → joinM m n n1 m1 (n + b) = some x := fun b x e => by
    have := hm1 b x e
    unfold joinM
    rw [if_pos ⟨by omega, by omega⟩, Nat.add_sub_cancel_left]
    exact e
  have new : ∀ b o mb, h1 b = some o → m1 b = some mb → ¬ Z1 mb.rb → w.heap.size ≤ mb.rb := fun b o mb e1 e2 e3 => by
    rcases Nat.lt_or_ge mb.rb w.heap.size with hlt | hge
    · exact absurd (s.dom _ hlt ⟨b, o, mb, e1, e2, rfl, e3⟩) no_own
    · exact hge
  unfold shutC
  by_cases hc : Closed v h1
  · rw [if_pos hc]
    obtain ⟨c1, c2⟩ := hc
    have sA : Step C m Z h n w m Z h n w1 := Step.quiet hr s.size hk s.os s.tape s.output
    refine ⟨joinM m n n1 m1, Z, Step.join hr sA (fun b o e => ⟨o, e⟩) hf hm1 (fun b cs es fz e => ?_) (fun b b' o o' mb mb' e1 e2 e3 e4 e5 e6 => ?_), RV_sh up v (RV_cl w1 Z v c1 hu)⟩
    · obtain ⟨mb, c, e', us, q1, q2, q3, q4, q5, q6, q7⟩ := s.hr.cells b cs es fz e
      obtain ⟨d1, d2⟩ := c2 b cs es fz e
      have hz1 : ¬ Z1 mb.rb := fun e => by rw [d1] at q7; exact absurd (q7.2 e) (by decide)
      have hz : ¬ Z mb.rb := fun e => hz1 (s.zext _ (.inl e))
      exact ⟨mb, c, e', us, q1, q2, q3, q4, q5, RVs_cl w1 Z cs d2 q6, ⟨fun e => by rw [d1] at e; exact absurd e (by decide), fun e => absurd e hz⟩, fun _ => new b _ mb e q1 hz1⟩
    · refine s.hr.inj b b' o o' mb mb' e1 e2 e3 e4 e5 fun hz1 => ?_
      cases o with
      | cells cs es fz =>
        obtain ⟨mb2, c, e', us, q1, q2, q3, q4, q5, q6, q7⟩ := s.hr.cells b cs es fz e1
        rw [e3] at q1
        injection q1 with q1
        subst q1
        obtain ⟨d1, d2⟩ := c2 b cs es fz e1
        rw [d1] at q7
        exact absurd (q7.2 hz1) (by decide)
      | loop L =>
        obtain ⟨mb2, r, q1, q2, q3, _⟩ := s.hr.loops b L e1
        rw [e3] at q1
        injection q1 with q1
        subst q1
        exact q3 hz1
  · rw [if_neg hc]
    have sA : Step C m Z h n w m Z1 (shutIds h ids) n w1 := Step.shut hr hd s.size hk (fun r e => s.zext r e) (fun r e => by
      rcases s.znew r e with e | e | e
      · exact .inl e
      · exact .inr e
      · exact absurd e no_own) s.hr.zlt s.os s.tape s.output
    refine ⟨joinM m n n1 m1, Z1, Step.join hr sA (fun b o e => ?_) hf hm1 (fun b cs es fz e => ?_) s.hr.inj, RV_sh up v hu⟩
    · unfold shutIds at e
      split at e
      · cases hb : h b with
        | none => rw [hb] at e; cases e
        | some x => exact ⟨x, rfl⟩
      · exact ⟨o, e⟩
    · obtain ⟨mb, c, e', us, q1, q2, q3, q4, q5, q6, q7⟩ := s.hr.cells b cs es fz e
      exact ⟨mb, c, e', us, q1, q2, q3, q4, q5, q6, q7, new b _ mb e q1⟩
end
end Go.Proofs.Bv
namespace Go.Proofs.Bv
open Go
section
variable {C : Cfg} {m m' : AMap} {Z Z' : Nat → Prop} {h h' : Heap} {n n' nt w0 : Nat} {w w' : World}
theorem loadAt_ptr (hr : HR C m Z h w) {P : Program} {t : Nat} {a v : AV} {x : Value} (ha : RV Z w a m x) (hv : loadAt P h t a = some v) :
    ∃ p u, x = .pointer (some p) ∧ (loadVar t p).run P w = .ok u w ∧ RV Z w v m u := by
  cases a <;> simp only [Bv.loadAt] at hv <;> try (cases hv; done)
  case ptr b off =>
    split at hv
    · rename_i cs es fz hb
      simp only [RV] at ha
      obtain ⟨mb, h1, rfl⟩ := ha
      obtain ⟨u, h2, h3⟩ := loadA_sound (hr.reads hb h1) hv
      exact ⟨_, u, rfl, h2, h3⟩
    · cases hv
  case pptr cs off =>
    simp only [RV] at ha
    obtain ⟨blk, base, us, rfl, hz, h1, h2⟩ := ha
    obtain ⟨u, h3, h4⟩ := loadA_sound (m := m) (Reads.none ⟨us, h1, h2⟩) hv
    exact ⟨_, u, rfl, h3, h4⟩
def getRes (tm : Array Value) : ResultVar → Sem Value
  | .tmp t => pure (tm.getD t undef)
  | .cell a t => do loadVar t (← asAddr (tm.getD a undef))
theorem rets_sound (hr : HR C m Z h w) {T : Nat → AV} {tm : Array Value} (hT : RT Z w nt T m tm) : (l : List ResultVar) → {vs : List AV} → retsA C T h l = some vs →
    ∃ us : List Value, (l.mapM (getRes tm)).run C.P w = .ok us w ∧ RVl Z w vs m us
  | [], vs, hv => by
    simp only [retsA, Option.some.injEq] at hv
    subst hv
    exact ⟨[], by simp, by simp [RVl]⟩
  | x :: l, vs, hv => by
    simp only [retsA] at hv
    split at hv <;> try (cases hv; done)
    rename_i v vs' h1 h2
    injection hv with hv; subst hv
    obtain ⟨us, h3, h4⟩ := rets_sound hr hT l h2
    cases x with
    | tmp t =>
      simp only [ret1, Option.some.injEq] at h1
      subst h1
      exact ⟨tm.getD t undef :: us, by simp only [List.mapM_cons, getRes, Sem.run_bind, Sem.run_pure, Result.andThen_ok, h3], ⟨_, _, rfl, hT.2 t, h4⟩⟩
    | cell a t =>
      simp only [ret1] at h1
      obtain ⟨p, u, h5, h6, h7⟩ := loadAt_ptr hr (hT.2 a) h1
      exact ⟨u :: us, by simp only [List.mapM_cons, getRes, Sem.run_bind, Sem.run_pure, Result.andThen_ok, h5, asAddr, h6, h3], ⟨_, _, rfl, h7, h4⟩⟩
theorem results_sound (hr : HR C m Z h w) {T : Nat → AV} {tm : Array Value} (hT : RT Z w nt T m tm) (fn : Func) {vs : List AV} (hv : retsA C T h fn.results.toList = some vs) :
    ∃ u, (results fn tm).run C.P w = .ok u w ∧ RV Z w (one1 vs) m u := by
  obtain ⟨us, h1, h2⟩ := rets_sound hr hT _ hv
  have h3 : (results fn tm).run C.P w = .ok (if h : us.toArray.size = 1 then us.toArray[0] else .tuple us.toArray) w := by
    have e : results fn tm = (do let vs ← fn.results.mapM (getRes tm); pure (if h : vs.size = 1 then vs[0] else .tuple vs) : Sem Value) := rfl
    rw [e, Sem.run_bind, Array.mapM_eq_mapM_toList, Sem.run_map]
    simp only [h1, Result.andThen_ok, Sem.run_pure]
  refine ⟨_, h3, ?_⟩
  have hl := RVl_len h2
  match vs, us, h2, hl with
  | [], us, h2, hl =>
    obtain rfl : us = [] := List.eq_nil_of_length_eq_zero (by simpa using hl)
    simp [one1, RV, RVl]
  | [v], us, h2, hl =>
    simp only [RVl] at h2
    obtain ⟨u, r, rfl, h4, rfl⟩ := h2
    simpa [one1] using h4
  | v :: v' :: vs, us, h2, hl =>
    have : ¬ us.toArray.size = 1 := by simp at hl ⊢; omega
    rw [dif_neg this]
    simp only [one1, RV]
    exact ⟨us, rfl, h2⟩
def Poked (rs : List Nat) (w w' : World) : Prop := w'.heap.size = w.heap.size ∧ (∀ r, r ∉ rs → w'.heap[r]? = w.heap[r]?) ∧ w'.os = w.os ∧ w'.tape = w.tape ∧ w'.output = w.output
theorem Step.poke {w1 w2 : World} (s : Step C m Z h n w m' Z' h' n' w1) {rs : List Nat} (hp : Poked rs w1 w2) (hrs : ∀ r ∈ rs, w.heap.size ≤ r ∧ ¬ Own Z' h' m' r ∧ ¬ Z' r) : Step C m Z h n w m' Z' h' n' w2 := by
  obtain ⟨p1, p2, p3, p4, p5⟩ := hp
  have hk : ∀ r, Z' r → w2.heap[r]? = w1.heap[r]? := fun r e => p2 r fun e' => (hrs r e').2.2 e
  have ho : ∀ {b o mb}, h' b = some o → m' b = some mb → ¬ Z' mb.rb → w2.heap[mb.rb]? = w1.heap[mb.rb]? := fun e1 e2 e3 => p2 _ fun e' => (hrs _ e').2.1 ⟨_, _, _, e1, e2, rfl, e3⟩
  refine ⟨⟨fun b cs es fz e => ?_, fun b L e => ?_, s.hr.inj, fun r e => by rw [p1]; exact s.hr.zlt r e, fun g cs e => RV_mono (fun _ h => h) hk _ (fun _ _ h => h) (s.hr.glob g cs e)⟩, s.mext, s.mnew, s.zext, s.znew, s.nle, by rw [p1]; exact s.size,
    fun r hr hno => by rw [p2 r fun e => by have := (hrs r e).1; omega]; exact s.frame r hr hno, s.dom, p3.trans s.os, p4.trans s.tape, p5.trans s.output⟩
  · obtain ⟨mb, c, e', us, h1, h2, h3, h4, h5, h6, h7⟩ := s.hr.cells b cs es fz e
    refine ⟨mb, c, e', us, h1, h2, h3, ?_, h5, RVs_mono (fun _ h => h) hk _ (fun _ _ h => h) h6, h7⟩
    rw [← h4]
    by_cases hz : Z' mb.rb
    · exact hk _ hz
    · exact ho e h1 hz
  · obtain ⟨mb, r, h1, h2, h3, h4, h5, h6, h7, h8⟩ := s.hr.loops b L e
    exact ⟨mb, r, h1, by rw [← h2]; exact ho e h1 h3, h3, h4, h5, h6, RT_mono (fun _ h => h) hk (fun _ _ h => h) h7, h8⟩
theorem leaves_marks {F : Fence} {k : Nat} {P : Program} {fn : Func} {tm : Array Value} {R : Ending → World → Prop} : (rs : List Nat) → {w1 : World} → rs.Nodup → (∀ r ∈ rs, w1.heap[r]? = some (.deferred (some []))) →
    (∀ w2, Poked rs w1 w2 → ∃ v, (results fn tm).run P w2 = .ok v w2 ∧ R (.returned v) w2) → LeavesInM F k P fn tm R (rs.map markOf) .returning w1
  | [], w1, _, _, hq => hq w1 ⟨rfl, fun _ _ => rfl, rfl, rfl, rfl⟩
  | r :: rs, w1, nd, hrs, hq => by
    have h1 := hrs r (by simp)
    obtain ⟨nd1, nd2⟩ := List.nodup_cons.1 nd
    refine ⟨by simp, .inl ⟨r, { w1 with heap := w1.heap.setIfInBounds r (.deferred none) }, rfl, ?_, ?_⟩⟩
    · simp [Instr.takeDeferred, getObj, setObj, Sem.run, h1]
    · refine leaves_marks rs nd2 (fun q hq' => ?_) fun w2 hp => hq w2 ?_
      · rw [heap_set_ne _ (fun e => nd1 (by rw [← e]; exact hq'))]
        exact hrs q (by simp [hq'])
      · obtain ⟨p1, p2, p3, p4, p5⟩ := hp
        refine ⟨by rw [p1, heap_set_size], fun q hq' => ?_, p3, p4, p5⟩
        simp only [List.mem_cons, not_or] at hq'
        rw [p2 q hq'.2, heap_set_ne _ hq'.1]
def NoNum (C : Cfg) : Prop := ∀ (f : Nat) (fn : Func), C.P.funcs[f]? = some fn → (fn.name == "runtime.NumGoroutine") = false
theorem fcall_sound {call : CallF} {fc : FcF} {dr : Nat → Array Oper → St → Option St} (hcall : CallOk C call) (hfc : FcOk C fc) (hdr : DrOk C dr) (hnn : NoNum C) {k : Nat} : FcOk C (fcall C call fc dr k) := by
  intro f args h n v h' n' hv hle m Z w us hr hus hf
  unfold fcall at hv
  split at hv <;> try (cases hv; done)
  rename_i fn hfn
  split at hv <;> try (cases hv; done)
  rename_i c hc
  split at hv <;> try (cases hv; done)
  rename_i hok
  obtain ⟨hlen, hok⟩ := hok
  have hul := RVl_len hus
  have hnf := hnn f fn hfn
  simp only [beq_eq_false_iff_ne, ne_eq] at hnf
  refine ⟨by simp [callFunc, hfn, hnf, hc], ?_⟩
  refine callsIn_of_wp_marks (F := Fence.wide) hfn hc trivial ?_ rfl
  have hT : RT Z w fn.ntmps (argsT args) m (us.toArray ++ Array.replicate (fn.ntmps - us.toArray.size) undef) := by
    refine ⟨by simp; omega, fun t => ?_⟩
    unfold argsT
    cases ha : args[t]? with
    | none => simp only [Option.getD_none, RV]
    | some a =>
      obtain ⟨u, h1, h2⟩ := RVl_get hus t ha
      have hlt : t < us.length := by
        rcases Nat.lt_or_ge t us.length with h | h
        · exact h
        · rw [List.getElem?_eq_none h] at h1; cases h1
      have : (us.toArray ++ Array.replicate (fn.ntmps - us.toArray.size) undef).getD t undef = u := by
        rw [Array.getD_eq_getD_getElem?, Array.getElem?_append_left (by simpa using hlt)]
        simp [h1]
      rw [this]
      simpa using h2
  have hD : DI w.heap.size m Z h w [] := ⟨[], rfl, List.nodup_nil, by simp⟩
  have fin : ∀ {e s vs}, vcode C call fc dr k fn.ntmps false c ⟨argsT args, h, n⟩ = some (e, s) → (e = .norm ∨ e = .ret) → retsA C s.T s.h fn.results.toList = some vs → (one1 vs, s.h, s.n) = (v, h', n') →
      c.wpIn Fence.wide 0 C.P (bodyPostM Fence.wide 0 C.P fn fun e w' => ∃ u m' Z', e = .returned u ∧ Step C m Z h n w m' Z' h' n' w' ∧ RV Z' w' v m' u) { tmps := us.toArray ++ Array.replicate (fn.ntmps - us.toArray.size) undef, defers := [] } w := by
    intro e s vs hvc he hrs heq
    injection heq with e1 heq; injection heq with e2 e3; subst e1; subst e2; subst e3
    refine vcode_sound (r := none) hcall hfc hdr (fun _ => rfl) c hok hvc _ hr hT hD (Nat.le_refl _) hf fun a' w1 m1 Z1 s1 hT1 hD1 => ?_
    have key : LeavesInM Fence.wide 0 C.P fn a'.tmps (fun e w' => ∃ u m' Z', e = .returned u ∧ Step C m Z h n w m' Z' s.h s.n w' ∧ RV Z' w' (one1 vs) m' u) a'.defers .returning w1 := by
      obtain ⟨rs, e, nd, hrs'⟩ := hD1
      rw [e]
      refine leaves_marks rs nd (fun r hr' => (hrs' r hr').2.2.1) fun w2 hp => ?_
      have s2 := s1.poke hp fun r hr' => ⟨(hrs' r hr').1, (hrs' r hr').2.2.2⟩
      have hT2 : RT Z1 w2 fn.ntmps s.T m1 a'.tmps := RT_mono (fun _ h => h) (fun r e => hp.2.1 r fun e' => (hrs' r e').2.2.2.2 e) (fun _ _ h => h) hT1
      obtain ⟨u, h1, h2⟩ := results_sound s2.hr hT2 fn hrs
      exact ⟨u, h1, u, m1, Z1, rfl, s2, h2⟩
    rcases he with rfl | rfl
    · exact key
    · exact key
  split at hv
  · rename_i s hvc
    simp only [Option.map_eq_some_iff] at hv
    obtain ⟨vs, h1, h2⟩ := hv
    exact fin hvc (.inl rfl) h1 h2
  · rename_i s hvc
    simp only [Option.map_eq_some_iff] at hv
    obtain ⟨vs, h1, h2⟩ := hv
    exact fin hvc (.inr rfl) h1 h2
  · cases hv
def FyOk (C : Cfg) (fy : Nat → List AV → Heap → Nat → Out) : Prop :=
  ∀ (l : Nat) (args : List AV) (h : Heap) (n : Nat) (v : AV) (h' : Heap) (n' : Nat), fy l args h n = some (v, h', n') → n ≤ n' →
    ∀ (m : AMap) (Z : Nat → Prop) (w : World) (mb : MB) (us : List Value), HR C m Z h w → m l = some mb → RVl Z w args m us → (∀ b, n ≤ b → b < n' → m b = none) →
    ∃ fnid tm as bd, (Instr.yield mb.rb us.toArray).run C.P w = .ok (.round mb.rb fnid tm as bd) w ∧
      RoundIn Fence.wide 0 C.P mb.rb fnid tm as bd w fun e w' => ∃ u m' Z', e = .returned u ∧ Step C m Z h n w m' Z' h' n' w' ∧ RV Z' w' v m' u
theorem setParams_sound : (ts : List Tmp) → (as : List AV) → {T T' : Nat → AV} → {us : List Value} → {tm : Array Value} → setParams nt ts as T = some T' → RVl Z w as m us → RT Z w nt T m tm →
    us.length = ts.length ∧ RT Z w nt T' m ((ts.zip us).foldl (fun (tmps : Array Value) (x : Tmp × Value) => tmps.setIfInBounds x.1 x.2) tm)
  | [], [], T, T', us, tm, hv, hu, hT => by
    simp only [setParams, Option.some.injEq] at hv
    subst hv
    simp only [RVl] at hu
    subst hu
    exact ⟨rfl, hT⟩
  | t :: ts, a :: as, T, T', us, tm, hv, hu, hT => by
    simp only [setParams] at hv
    split at hv <;> try (cases hv; done)
    rename_i ht
    simp only [RVl] at hu
    obtain ⟨u, us, rfl, h1, h2⟩ := hu
    have hT1 : RT Z w nt (upd T t a) m (tm.setIfInBounds t u) := by
      have := RT.put (a := { tmps := tm, defers := [] }) (dst := some t) (T' := upd T t a) hT h1 (by simp [putT, ht])
      exact this
    obtain ⟨h3, h4⟩ := setParams_sound ts as hv h2 hT1
    exact ⟨by simp [h3], by simpa using h4⟩
  | [], _ :: _, _, _, _, _, hv, _, _ => by simp [setParams] at hv
  | _ :: _, [], _, _, _, _, hv, _, _ => by simp [setParams] at hv
theorem run_getLoop {P : Program} {l : Nat} {r : Loop} (hl : w.heap[l]? = some (.loop r)) : (Instr.getLoop l).run P w = .ok r w := by
  simp [Instr.getLoop, getObj, Sem.run, hl]
theorem run_setLoop {P : Program} {l : Nat} {r : Loop} (o : Obj) (hl : w.heap[l]? = some (.loop r)) : (setObj l o).run P w = .ok () { w with heap := w.heap.setIfInBounds l o } := by
  simp [setObj, Sem.run, hl]
theorem Step.record (hr : HR C m Z h w) {b : Nat} {mb : MB} {L L' : LoopA} {r : Loop} (hb : h b = some (.loop L)) (hm : m b = some mb) (hl : w.heap[mb.rb]? = some (.loop r)) (hz : ¬ Z mb.rb)
    (h1 : r.params = L.params.toArray) (h2 : r.assign = L.assign) (h3 : r.body = L.body) (h4 : RT Z w L.nt L.T m r.tmps) (e : L' = { L with open_ := L'.open_, jump := L'.jump }) (st : LoopState) (hst : st = stOf L') :
    Step C m Z h n w m Z (upd h b (some (.loop L'))) n { w with heap := w.heap.setIfInBounds mb.rb (.loop { r with state := st, pending := L'.jump }) } := by
  refine Step.write (bk' := .loop L') hr hb hm hz (heap_set_size _ _) (fun q hne => heap_set_ne _ hne) rfl rfl rfl ?_
  have hlt : mb.rb < w.heap.size := (Array.getElem?_eq_some_iff.1 hl).1
  have e1 : L'.params = L.params := by rw [e]
  have e2 : L'.assign = L.assign := by rw [e]
  have e3 : L'.body = L.body := by rw [e]
  have e4 : L'.T = L.T := by rw [e]
  have e5 : L'.nt = L.nt := by rw [e]
  exact ⟨{ r with state := st, pending := L'.jump }, by simp [hlt], by rw [e1]; exact h1, by rw [e2]; exact h2, by rw [e3]; exact h3, by rw [e4, e5]; exact h4, hst, rfl⟩
theorem vyield_sound {call : CallF} {fc : FcF} {dr : Nat → Array Oper → St → Option St} (hcall : CallOk C call) (hfc : FcOk C fc) (hdr : DrOk C dr) {k : Nat} : FyOk C (vyield C call fc dr k) := by
  intro l args h n v h' n' hv hle m Z w mb us hr hml hus hf
  unfold vyield at hv
  split at hv <;> try (cases hv; done)
  rename_i L hL
  split at hv <;> try (cases hv; done)
  rename_i hok
  simp only [Bool.and_eq_true] at hok
  obtain ⟨⟨hop, hok1⟩, hok2⟩ := hok
  split at hv <;> try (cases hv; done)
  rename_i T hsp
  split at hv <;> try (cases hv; done)
  rename_i s1 hv1
  split at hv <;> try (cases hv; done)
  rename_i L1 hL1
  split at hv <;> try (cases hv; done)
  rename_i hop1
  simp only [Bool.and_eq_true, Option.isNone_iff_eq_none] at hop1
  split at hv <;> try (cases hv; done)
  rename_i e2 s2 hv2
  split at hv <;> try (cases hv; done)
  rename_i L2 hL2
  obtain ⟨mb', r, q1, q2, q3, q4, q5, q6, q7, q8, q9⟩ := hr.loops l L hL
  obtain rfl : mb = mb' := by rw [hml] at q1; injection q1
  obtain ⟨hlen, hT⟩ := setParams_sound L.params args hsp hus q7
  have hn1 : n ≤ s1.n := vcode_mono hdr.1 L.assign hv1
  have hn2 : s1.n ≤ s2.n := by have := vcode_mono hdr.1 L.body hv2; exact this
  have hn3 : s2.n = n' := by
    cases e2 <;> (injection hv with hv; injection hv with _ hv; injection hv)
  refine ⟨r.fn, (L.params.zip us).foldl (fun (tmps : Array Value) (x : Tmp × Value) => tmps.setIfInBounds x.1 x.2) r.tmps, r.assign, r.body, ?_, ?_⟩
  · have h1 : us.toArray.size = r.params.size := by rw [q4]; simpa using hlen
    simp only [Instr.yield, Sem.run_bind, run_getLoop q2, Result.andThen_ok, h1, ne_eq, not_true, if_false, Sem.run_pure, q4]
    rw [← Array.foldl_toList]
    simp
  · rw [q5, q6]
    refine roundIn_of_wpIn (F := Fence.wide) trivial ?_
    have hD : DI w.heap.size m Z h w [] := ⟨[], rfl, List.nodup_nil, by simp⟩
    refine vcode_sound (r := some mb.rb) (rd := true) hcall hfc hdr (fun h => by cases h) L.assign hok1 hv1 _ hr hT hD (Nat.le_refl _) (fun b hb1 hb2 => hf b hb1 (by omega)) fun a1 w1 m1 Z1 st1 hT1 hD1 => ?_
    obtain ⟨mb1, r1, p1, p2, p3, p4, p5, p6, p7, p8, p9⟩ := st1.hr.loops l L1 hL1
    obtain rfl : mb = mb1 := by have := st1.mext l _ hml; rw [this] at p1; injection p1
    have hst1 : r1.state = .ready := by rw [p8]; simp [stOf, hop1.1]
    let w2 : World := { w1 with heap := w1.heap.setIfInBounds mb.rb (.loop { r1 with state := .busy }) }
    have hbr : (Instr.beginRound mb.rb).run C.P w1 = .ok () w2 := by
      simp only [Instr.beginRound, Sem.run_bind, run_getLoop p2, Result.andThen_ok, run_setLoop _ p2, hst1]
      rfl
    have hpend : r1.pending = none := by rw [p9]; exact hop1.2
    have st2 : Step C m1 Z1 s1.h s1.n w1 m1 Z1 (upd s1.h l (some (.loop { L1 with open_ := false }))) s1.n w2 := by
      have := Step.record (n := s1.n) (L' := { L1 with open_ := false }) st1.hr hL1 (st1.mext l _ hml) p2 p3 p4 p5 p6 p7 rfl .busy (by simp [stOf, hop1.2])
      have hrec : ({ r1 with state := .busy, pending := L1.jump } : Loop) = { r1 with state := .busy } := by rw [hop1.2, ← hpend]
      rw [hrec] at this
      exact this
    refine ⟨w2, hbr, ?_⟩
    have hf2 : ∀ b, s1.n ≤ b → b < s2.n → m1 b = none := fun b hb1 hb2 => st1.fresh (n'' := s2.n) (fun b hb1 hb2 => hf b hb1 (by omega)) b hb1 hb2
    have hT2 := st2.rt st1.hr hT1
    have hD2 := hD1.step st2
    refine vcode_sound (r := some mb.rb) (rd := true) hcall hfc hdr (fun h => by cases h) L.body hok2 hv2 _ st2.hr hT2 hD2 (Nat.le_trans st1.size st2.size) hf2 fun a3 w3 m3 Z3 st3 hT3 hD3 => ?_
    have st123 := (st1.trans st2).trans st3
    obtain ⟨mb3, r3, x1, x2, x3, x4, x5, x6, x7, x8, x9⟩ := st3.hr.loops l L2 hL2
    have hm3 := st123.mext l _ hml
    obtain rfl : mb = mb3 := by rw [hm3] at x1; injection x1
    have fin : ∀ (jump : Option Code) (b : Bool), jump.isNone = b → (∀ (o : Bool) (v : AV), o = b → ∃ w4, (Instr.endRound mb.rb jump).run C.P w3 = .ok (.bool b) w4 ∧
        Step C m Z h n w m3 Z3 (upd s2.h l (some (.loop { L2 with open_ := b, jump := jump }))) s2.n w4) := by
      intro jump b hb o v _
      refine ⟨_, ?_, st123.trans (Step.record (n := s2.n) (L' := { L2 with open_ := b, jump := jump }) st3.hr hL2 hm3 x2 x3 x4 x5 x6 x7 rfl (if jump.isNone then .ready else .done) ?_)⟩
      · simp only [Instr.endRound, Sem.run_bind, run_getLoop x2, Result.andThen_ok, run_setLoop _ x2, Sem.run_pure, hb]
      · subst hb
        cases jump <;> rfl
    cases e2 with
    | norm =>
      injection hv with hv; injection hv with hv1 hv; injection hv with hv2 hv3; subst hv1; subst hv2; subst hv3
      obtain ⟨w4, y1, y2⟩ := fin none true rfl true .nilS rfl
      exact ⟨_, w4, y1, _, m3, Z3, rfl, y2, by simp [RV, plain]⟩
    | ret =>
      injection hv with hv; injection hv with hv1 hv; injection hv with hv2 hv3; subst hv1; subst hv2; subst hv3
      obtain ⟨w4, y1, y2⟩ := fin (some .ret) false rfl false .nilS rfl
      exact ⟨_, w4, y1, _, m3, Z3, rfl, y2, by simp [RV, plain]⟩
    | exit id =>
      injection hv with hv; injection hv with hv1 hv; injection hv with hv2 hv3; subst hv1; subst hv2; subst hv3
      obtain ⟨w4, y1, y2⟩ := fin (some (.exit id)) false rfl false .nilS rfl
      exact ⟨_, w4, y1, _, m3, Z3, rfl, y2, by simp [RV, plain]⟩
end
end Go.Proofs.Bv
namespace Go.Proofs.Bv
open Go
section
variable {C : Cfg} {m m' : AMap} {Z Z' : Nat → Prop} {h h' : Heap} {n n' nt w0 : Nat} {w w' : World}
def OrcOk (C : Cfg) : Prop :=
  ∀ (f : FuncId) (g : List AV → Option AV) (as : List AV) (v : AV), C.orc f = some g → g as = some v → ∀ (Z : Nat → Prop) (w : World) (us : List Value), HR C noMap Z noHeap w → RVl Z w as noMap us →
    ∀ (r : Option Nat) (o : Oper) (a : Act) (next : Act → World → Prop) (Q : Exit → Act → World → Prop),
      (∀ u w1 m1 Z1 h1 n1, Step C noMap Z noHeap 0 w m1 Z1 h1 n1 w1 → RV Z1 w1 v noMap u → next (a.put o.dst u) w1) →
      o.uponIn (Fw r) 0 C.P a next Q ((callFunc f us.toArray).run C.P w)
theorem upon_fc {fc : FcF} (hfc : FcOk C fc) {f : FuncId} {args : List AV} {v : AV} (hv : fc f args h n = some (v, h', n')) (hle : n ≤ n') {us : List Value} (hr : HR C m Z h w) (hus : RVl Z w args m us) (hf : ∀ b, n ≤ b → b < n' → m b = none)
    (r : Option Nat) (o : Oper) (a : Act) (next : Act → World → Prop) (Q : Exit → Act → World → Prop) (hn : ∀ u w' m' Z', Step C m Z h n w m' Z' h' n' w' → RV Z' w' v m' u → next (a.put o.dst u) w') :
    o.uponIn (Fw r) 0 C.P a next Q ((callFunc f us.toArray).run C.P w) := by
  obtain ⟨h1, h2⟩ := hfc f args h n v h' n' hv hle m Z w us hr hus hf
  rw [h1, Oper.uponIn_enter]
  refine ⟨fun h => by simp [Fw, Fence.wide] at h, CallsIn.mono h2 ?_⟩
  rintro e w1 ⟨u, m1, Z1, rfl, s, hu⟩
  exact hn u w1 m1 Z1 s hu
theorem lone_post (hr : HR C m Z h w) {ids : List Nat} (hd : ∀ b ∈ ids, ∃ cs es fz, h b = some (.cells cs es fz)) {m1 : AMap} {Z1 : Nat → Prop} {h1 : Heap} {n1 : Nat} {w1 : World} {ids1 : List Nat}
    (s : Step C noMap (Zof Z m ids) noHeap 0 w m1 Z1 h1 n1 w1) (hd1 : ∀ b ∈ ids1, ∃ cs es fz, h1 b = some (.cells cs es fz)) {v : AV} {u : Value} (hu : RV (Zof Z1 m1 ids1) w1 v noMap u) :
    ∃ m' Z', Step C m Z h n w m' Z' (if v.flat then h else shutIds h ids) n w1 ∧ RV Z' w1 v m' u := by
  have hk : ∀ r, r < w.heap.size → w1.heap[r]? = w.heap[r]? := fun r hr' => s.frame r hr' no_own
  have hmm : ∀ b x, noMap b = some x → m b = some x := fun b x e => by simp [noMap] at e
  by_cases hfl : v.flat = true
  · rw [if_pos hfl]
    exact ⟨m, Z, Step.quiet hr s.size hk s.os s.tape s.output, RV_flat w1 Z v m hfl hu⟩
  · rw [if_neg hfl]
    refine ⟨m, Zof Z1 m1 ids1, Step.shut hr hd s.size hk (fun r e => .inl (s.zext r e)) (fun r e => ?_) (fun r e => ?_) s.os s.tape s.output, RV_mono (fun _ h => h) (fun _ _ => rfl) _ hmm hu⟩
    · have key : Z1 r → Zof Z m ids r ∨ w.heap.size ≤ r := fun e => by
        rcases s.znew r e with e | e | e
        · exact .inl e
        · exact .inr e
        · exact absurd e no_own
      rcases e with e | ⟨b, hb, mb, e1, e2⟩
      · exact key e
      · by_cases hz : Z1 r
        · exact key hz
        · rcases Nat.lt_or_ge r w.heap.size with hlt | hge
          · obtain ⟨cs, es, fz, e3⟩ := hd1 b hb
            exact absurd (s.dom r hlt ⟨b, _, mb, e3, e1, e2, hz⟩) no_own
          · exact .inr hge
    · rcases e with e | ⟨b, hb, mb, e1, e2⟩
      · exact s.hr.zlt r e
      · obtain ⟨cs, es, fz, e3⟩ := hd1 b hb
        rw [← e2]
        exact s.hr.lt e3 e1
theorem anycall_sound {fc : FcF} (hfc : FcOk C fc) (horc : OrcOk C) {f : FuncId} {args : List AV} {v : AV} (hv : anycall C fc f args h n = some (v, h', n')) (hle : n ≤ n') {us : List Value} (hr : HR C m Z h w) (hus : RVl Z w args m us) (hf : ∀ b, n ≤ b → b < n' → m b = none)
    (r : Option Nat) (o : Oper) (a : Act) (next : Act → World → Prop) (Q : Exit → Act → World → Prop) (hn : ∀ u w' m' Z', Step C m Z h n w m' Z' h' n' w' → RV Z' w' v m' u → next (a.put o.dst u) w') :
    o.uponIn (Fw r) 0 C.P a next Q ((callFunc f us.toArray).run C.P w) := by
  unfold anycall at hv
  split at hv
  · rename_i pv ids htry
    injection hv with hv; injection hv with e1 hv; injection hv with e2 e3; subst e1; subst e2; subst e3
    unfold orcTry at htry
    split at htry <;> try (cases htry; done)
    rename_i g hg
    split at htry <;> try (cases htry; done)
    split at htry <;> try (cases htry; done)
    rename_i as ids' hmf
    simp only [Option.map_eq_some_iff] at htry
    obtain ⟨pv', hpv, he⟩ := htry
    injection he with he1 he2; subst he1; subst he2
    have hmf' : mapF (frz h 64) args = some (as, ids') := by
      split at hmf
      · exact hmf
      · cases hmf
    have hd := mapF_dom h 64 args hmf'
    have hB : ∀ x y : List Nat, (∀ b ∈ x ++ y, ∀ mb, m b = some mb → Zof Z m ids' mb.rb) → (∀ b ∈ x, ∀ mb, m b = some mb → Zof Z m ids' mb.rb) ∧ (∀ b ∈ y, ∀ mb, m b = some mb → Zof Z m ids' mb.rb) :=
      fun x y h => ⟨fun b hb => h b (List.mem_append.2 (.inl hb)), fun b hb => h b (List.mem_append.2 (.inr hb))⟩
    have hus' : RVl (Zof Z m ids') w as noMap us := mapF_l (B := fun l => ∀ b ∈ l, ∀ mb, m b = some mb → Zof Z m ids' mb.rb) hB (fun a r v e1 e2 e3 => frz_sound hr (fun _ h => .inl h) 64 e1 e2 e3) args hmf'
      (fun b hb mb e => .inr ⟨b, hb, mb, e, rfl⟩) hus
    have hlone := hr.lone hd
    refine horc f g as pv' hg hpv _ w us hlone hus' r o a next Q fun u w1 m1 Z1 h1 n1 s hu => ?_
    obtain ⟨m2, Z2, s2, hu2⟩ := lone_post (n := n) (ids1 := []) hr hd s (by simp) (RV_mono (fun _ h => .inl h) (fun _ _ => rfl) _ (fun _ _ h => h) hu)
    exact hn u w1 m2 Z2 s2 hu2
  · split at hv
    · exact upon_fc hfc hv hle hr hus hf r o a next Q hn
    · split at hv
      · rename_i as ids hmf
        have hmf' : mapF (frz h 64) args = some (as, ids) := by
          split at hmf
          · exact hmf
          · cases hmf
        have hd := mapF_dom h 64 args hmf'
        have hB : ∀ x y : List Nat, (∀ b ∈ x ++ y, ∀ mb, m b = some mb → Zof Z m ids mb.rb) → (∀ b ∈ x, ∀ mb, m b = some mb → Zof Z m ids mb.rb) ∧ (∀ b ∈ y, ∀ mb, m b = some mb → Zof Z m ids mb.rb) :=
          fun x y h => ⟨fun b hb => h b (List.mem_append.2 (.inl hb)), fun b hb => h b (List.mem_append.2 (.inr hb))⟩
        have hus' : RVl (Zof Z m ids) w as noMap us := mapF_l (B := fun l => ∀ b ∈ l, ∀ mb, m b = some mb → Zof Z m ids mb.rb) hB (fun a r v e1 e2 e3 => frz_sound hr (fun _ h => .inl h) 64 e1 e2 e3) args hmf'
          (fun b hb mb e => .inr ⟨b, hb, mb, e, rfl⟩) hus
        have hlone := hr.lone hd
        split at hv
        · split at hv <;> try (cases hv; done)
          rename_i r1 h1 n1 hc
          injection hv with hv; injection hv with e1 hv; injection hv with e2 e3; subst e1; subst e2; subst e3
          refine upon_fc hfc hc (Nat.zero_le _) hlone hus' (fun _ _ _ => rfl) r o a next Q fun u w1 m1 Z1 s hu => ?_
          obtain ⟨m2, Z2, s2, hu2⟩ := own_post hr hd hf s hu
          exact hn u w1 m2 Z2 s2 hu2
        split at hv <;> try (cases hv; done)
        rename_i pv hpv
        injection hv with hv; injection hv with e1 hv; injection hv with e2 e3; subst e1; subst e2; subst e3
        unfold pcall at hpv
        split at hpv <;> try (cases hpv; done)
        rename_i r1 h1 n1 hc
        simp only [Option.map_eq_some_iff] at hpv
        obtain ⟨⟨pr, ids1⟩, hfz, rfl⟩ := hpv
        refine upon_fc hfc hc (Nat.zero_le _) hlone hus' (fun _ _ _ => rfl) r o a next Q fun u w1 m1 Z1 s hu => ?_
        have hd1 := frz_dom h1 64 hfz
        have hu1 := frz_sound s.hr (Z' := Zof Z1 m1 ids1) (fun _ h => .inl h) 64 hfz (fun b hb mb e => .inr ⟨b, hb, mb, e, rfl⟩) hu
        obtain ⟨m2, Z2, s2, hu2⟩ := lone_post (n := n) hr hd s hd1 hu1
        exact hn u w1 m2 Z2 s2 hu2
      · exact upon_fc hfc hv hle hr hus hf r o a next Q hn
theorem callOf_ok {L : Lv} (hfc : FcOk C L.fc) (hfy : FyOk C L.fy) (horc : OrcOk C) : CallOk C (callOf C L) := by
  intro f args h n v h' n' hv m Z w fv us hr hfv hus hf hle r o a next Q hn
  unfold callOf at hv
  split at hv
  · rename_i f caps
    simp only [RV] at hfv
    obtain ⟨cs, rfl, hcs⟩ := hfv
    have h1 := anycall_sound hfc horc hv hle hr (RVl_append hus hcs) hf r o a next Q hn
    have e : (do let d ← Deferred.ofValue (.func (.func f) #[] cs.toArray) us.toArray; invoke d.target d.args : Sem Next) = callFunc f (us ++ cs).toArray := by
      have e0 : (#[] ++ us.toArray ++ cs.toArray : Array Value) = (us ++ cs).toArray := by
        apply Array.ext'
        simp
      rw [← e0]
      rfl
    rw [e]
    exact h1
  · rename_i l caps
    simp only [RV] at hfv
    obtain ⟨mb, hm, rfl⟩ := hfv
    obtain ⟨fnid, tm, as, bd, h1, h2⟩ := hfy l args h n v h' n' hv hle m Z w mb us hr hm hus hf
    have e : (do let d ← Deferred.ofValue (.func (.yield mb.rb) #[] #[]) us.toArray; invoke d.target d.args : Sem Next) = Instr.yield mb.rb us.toArray := by
      have e0 : (#[] ++ us.toArray : Array Value) = us.toArray := by
        apply Array.ext'
        simp
      show Instr.yield mb.rb (#[] ++ us.toArray) = _
      rw [e0]
    rw [e, h1, Oper.uponIn_round]
    refine ⟨fun h => by simp [Fw, Fence.wide] at h, RoundIn.mono h2 ?_⟩
    rintro e w1 ⟨u, m1, Z1, rfl, s, hu⟩
    exact hn u w1 m1 Z1 s hu
  · cases hv
end
end Go.Proofs.Bv
namespace Go.Proofs.Bv
open Go
section
variable {C : Cfg} {P : Program} {m m' : AMap} {Z Z' : Nat → Prop} {h h' : Heap} {n n' nt w0 : Nat} {w w' : World}
theorem HR.sub (hr : HR C m Z h w) {g : Heap} (hg : ∀ b x, g b = some x → h b = some x) : HR C m Z g w :=
  ⟨fun b cs es fz e => hr.cells b cs es fz (hg _ _ e), fun b L e => hr.loops b L (hg _ _ e), fun b1 b2 o1 o2 m1 m2 e1 e2 => hr.inj b1 b2 o1 o2 m1 m2 (hg _ _ e1) (hg _ _ e2), hr.zlt, hr.glob⟩
theorem Step.sub (s : Step C m Z h n w m' Z' h' n' w') {g : Heap} (hg : ∀ b x, g b = some x → h' b = some x) : Step C m Z h n w m' Z' g n' w' :=
  ⟨s.hr.sub hg, s.mext, s.mnew, s.zext, s.znew, s.nle, s.size, s.frame, fun r hr ⟨b, o, mb, e1, e2, e3, e4⟩ => s.dom r hr ⟨b, o, mb, hg _ _ e1, e2, e3, e4⟩, s.os, s.tape, s.output⟩
theorem Step.whole (hr : HR C m Z h w) {g g' G : Heap} (hg : ∀ b x, g b = some x → h b = some x) (s : Step C m Z g n w m' Z' g' n' w') (t : Nat → Bool) (h1 : ∀ b, t b = false → g' b = g b) (h2 : ∀ b, G b = if t b then g' b else h b)
    {q q' : Nat} (hq : q ≤ n) (hq' : n' ≤ q') : Step C m Z h q w m' Z' G q' w' := by
  have own : ∀ {r}, Own Z g m r → Own Z h m r := fun ⟨b, o, mb, e1, e2, e3, e4⟩ => ⟨b, o, mb, hg _ _ e1, e2, e3, e4⟩
  have hz : ∀ r, Z r → w'.heap[r]? = w.heap[r]? := s.zkeep (hr.sub hg)
  -- a name is the part's, or lies outside of it
  have cls : ∀ {b x}, G b = some x → g' b = some x ∨ (g b = none ∧ h b = some x) := by
    intro b x e
    rw [h2] at e
    by_cases ht : t b = true
    · rw [if_pos ht] at e; exact .inl e
    · rw [if_neg ht] at e
      cases hgb : g b with
      | none => exact .inr ⟨rfl, e⟩
      | some y =>
        have := hg b y hgb
        rw [e] at this
        injection this with this
        subst this
        exact .inl (by rw [h1 b (by simpa using ht), hgb])
  have out : ∀ {b x mb}, g b = none → h b = some x → m b = some mb → ¬ Own Z g m mb.rb := by
    rintro b x mb e1 e2 e3 ⟨b', o, mb', f1, f2, f3, f4⟩
    have := hr.inj b' b o x mb' mb (hg _ _ f1) e2 f2 e3 f3 (by rw [f3]; exact f4)
    rw [this, e1] at f1
    cases f1
  have keep : ∀ {b x mb}, g b = none → h b = some x → m b = some mb → w'.heap[mb.rb]? = w.heap[mb.rb]? := fun e1 e2 e3 => s.frame _ (hr.lt e2 e3) (out e1 e2 e3)
  have zback : ∀ {b x mb}, g b = none → h b = some x → m b = some mb → Z' mb.rb → Z mb.rb := by
    intro b x mb e1 e2 e3 e4
    rcases s.znew _ e4 with e | e | e
    · exact e
    · have := hr.lt e2 e3; omega
    · exact absurd e (out e1 e2 e3)
  refine ⟨⟨fun b cs es fz e => ?_, fun b L e => ?_, fun b1 b2 o1 o2 m1 m2 e1 e2 e3 e4 e5 hzz => ?_, s.hr.zlt, s.hr.glob⟩, s.mext, fun b e => (s.mnew b e).imp id fun e => ⟨Nat.le_trans hq e.1, Nat.lt_of_lt_of_le e.2 hq'⟩, s.zext, fun r e => (s.znew r e).imp id fun e => e.imp id own,
    Nat.le_trans hq (Nat.le_trans s.nle hq'), s.size, fun r hr' hno => s.frame r hr' fun e => hno (own e), fun r hr' ⟨b, o, mb, e1, e2, e3, e4⟩ => ?_, s.os, s.tape, s.output⟩
  · rcases cls e with e | ⟨e1, e2⟩
    · exact s.hr.cells b cs es fz e
    · obtain ⟨mb, c, e', us, q1, q2, q3, q4, q5, q6, q7⟩ := hr.cells b cs es fz e2
      exact ⟨mb, c, e', us, s.mext _ _ q1, q2, q3, by rw [keep e1 e2 q1]; exact q4, q5, RVs_mono s.zext hz _ s.mext q6, ⟨fun h => s.zext _ (q7.1 h), fun h => q7.2 (zback e1 e2 q1 h)⟩⟩
  · rcases cls e with e | ⟨e1, e2⟩
    · exact s.hr.loops b L e
    · obtain ⟨mb, r, q1, q2, q3, q4, q5, q6, q7, q8⟩ := hr.loops b L e2
      exact ⟨mb, r, s.mext _ _ q1, by rw [keep e1 e2 q1]; exact q2, fun h => q3 (zback e1 e2 q1 h), q4, q5, q6, RT_mono s.zext hz s.mext q7, q8⟩
  · have mof : ∀ {b x mb}, h b = some x → m' b = some mb → m b = some mb := by
      intro b x mb e e'
      have : ∃ mb', m b = some mb' := by
        cases x with
        | cells cs es fz => obtain ⟨mb', _, _, _, q1, _⟩ := hr.cells b cs es fz e; exact ⟨mb', q1⟩
        | loop L => obtain ⟨mb', _, q1, _⟩ := hr.loops b L e; exact ⟨mb', q1⟩
      obtain ⟨mb', q⟩ := this
      have := s.mext _ _ q
      rw [e'] at this
      injection this with this
      rw [this]; exact q
    have mixed : ∀ {b1 b2 o1 o2 m1 m2}, g b1 = none → h b1 = some o1 → g' b2 = some o2 → m' b1 = some m1 → m' b2 = some m2 → m1.rb = m2.rb → ¬ Z' m1.rb → False := by
      intro b1 b2 o1 o2 m1 m2 f1 f2 f3 f4 f5 f6 f7
      have f8 := mof f2 f4
      have f9 := hr.lt f2 f8
      exact out f1 f2 f8 (s.dom _ f9 ⟨b2, o2, m2, f3, f5, f6.symm, f7⟩)
    rcases cls e1 with e1 | ⟨f1, f2⟩
    · rcases cls e2 with e2 | ⟨f1, f2⟩
      · exact s.hr.inj b1 b2 o1 o2 m1 m2 e1 e2 e3 e4 e5 hzz
      · exact (mixed f1 f2 e1 e4 e3 e5.symm (by rw [← e5]; exact hzz)).elim
    · rcases cls e2 with e2 | ⟨f3, f4⟩
      · exact (mixed f1 f2 e2 e3 e4 e5 hzz).elim
      · exact hr.inj b1 b2 o1 o2 m1 m2 f2 f4 (mof f2 e3) (mof f4 e4) e5 fun e => hzz (s.zext _ e)
  · rcases cls e1 with e1 | ⟨f1, f2⟩
    · exact own (s.dom r hr' ⟨b, o, mb, e1, e2, e3, e4⟩)
    · have : ∃ mb', m b = some mb' := by
        cases o with
        | cells cs es fz => obtain ⟨mb', _, _, _, q1, _⟩ := hr.cells b cs es fz f2; exact ⟨mb', q1⟩
        | loop L => obtain ⟨mb', _, q1, _⟩ := hr.loops b L f2; exact ⟨mb', q1⟩
      obtain ⟨mb', q⟩ := this
      have hq := s.mext _ _ q
      rw [e2] at hq
      injection hq with hq
      subst hq
      exact ⟨b, o, mb, f2, q, e3, fun e => e4 (s.zext _ e)⟩
theorem touch_new {x : Blk} {v v' : AV} (e : some (v', upd h n (some x), n + 1) = some (v, h', n')) : ∀ b, b ∉ List.range' n (n' - n) → h' b = h b := by
  intro b hb
  obtain ⟨_, rfl, rfl⟩ := out_inj e
  refine upd_ne _ _ fun e => hb ?_
  subst e
  rw [show b + 1 - b = 1 from by omega]
  simp
theorem touch_same {v v' : AV} {l : List Nat} (e : some (v', h, n) = some (v, h', n')) : ∀ b, b ∉ l → h' b = h b := by
  intro b _
  obtain ⟨_, rfl, _⟩ := out_inj e
  rfl
theorem vbuiltin_touch {b : Builtin} {ts : List TypeId} {args : List AV} {v : AV} (hv : vbuiltin P b ts args h n = some (v, h', n')) :
    ∀ x, x ∉ touchB n n' b args → h' x = h x := by
  unfold vbuiltin at hv
  split at hv
  · repeat' (first | (cases hv; done) | exact touch_same hv | split at hv)
  · rename_i t xt s x
    split at hv <;> try (cases hv; done)
    split at hv <;> try (cases hv; done)
    split at hv <;> try (cases hv; done)
    split at hv
    · split at hv <;> try (cases hv; done)
      split at hv
      · exact touch_same hv
      · exact touch_new hv
    · rename_i b off len
      split at hv <;> try (cases hv; done)
      split at hv <;> try (cases hv; done)
      obtain ⟨_, rfl, rfl⟩ := out_inj hv
      intro x hx
      simp only [touchB, List.mem_cons, not_or] at hx
      have h1 : x ≠ n := fun e => hx.2 (by subst e; rw [show x + 1 - x = 1 from by omega]; simp)
      rw [upd_ne _ _ h1, upd_ne _ _ hx.1]
    · cases hv
  · split at hv <;> try (cases hv; done)
    split at hv <;> try (cases hv; done)
    split at hv <;> try (cases hv; done)
    obtain ⟨_, rfl, rfl⟩ := out_inj hv
    intro x hx
    simp only [touchB, List.mem_singleton] at hx
    exact upd_ne _ _ hx
  · simp only [Option.map_eq_some_iff] at hv
    obtain ⟨_, _, hv⟩ := hv
    exact touch_same (congrArg some hv)
  · simp only [Option.map_eq_some_iff] at hv
    obtain ⟨_, _, hv⟩ := hv
    exact touch_same (congrArg some hv)
  · cases hv
theorem vop_touch {ρ : Operand → AV} {op : Op} {v : AV} (hv : vop P ρ h n op = some (v, h', n')) : ∀ b, b ∉ touch ρ n n' op → h' b = h b := by
  cases op
  case store t x y =>
    simp only [vop] at hv
    split at hv <;> try (cases hv; done)
    rename_i b off s hx hs
    split at hv <;> try (cases hv; done)
    split at hv <;> try (cases hv; done)
    obtain ⟨_, rfl, rfl⟩ := out_inj hv
    intro b' hb
    simp only [touch, hx, List.mem_singleton] at hb
    exact upd_ne _ _ hb
  case call c =>
    obtain ⟨callee, args, argTypes⟩ := c
    cases callee <;> simp only [vop] at hv <;> try (cases hv; done)
    exact vbuiltin_touch hv
  all_goals simp only [vop] at hv
  all_goals simp only [touch]
  all_goals try (cases hv; done)
  all_goals (repeat' (first
    | exact touch_same hv
    | exact touch_new hv
    | (cases hv; done)
    | (obtain ⟨_, _, hv⟩ := Option.map_eq_some_iff.1 hv; exact touch_same (congrArg some hv))
    | (obtain ⟨_, _, hv⟩ := Option.map_eq_some_iff.1 hv; exact touch_new (congrArg some hv))
    | split at hv))
end
end Go.Proofs.Bv
