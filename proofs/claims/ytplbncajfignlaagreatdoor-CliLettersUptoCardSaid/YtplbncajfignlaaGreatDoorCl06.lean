/-
  A part of the proof of CliLettersUptoCardSaid: BvAll, BvDraw1.
  Conditions: those that each part names.
-/
import Derived.Test.YtplbncajfignlaaGreatDoorCl05
set_option linter.unusedSimpArgs false
set_option linter.unusedVariables false
namespace Go.Proofs.Bv
open Go
section
variable {C : Cfg} {m m' : AMap} {Z Z' : Nat → Prop} {h h' : Heap} {n n' nt w0 : Nat} {w w' : World}
def OrcOk (C : Cfg) : Prop :=
  ∀ (f : FuncId) (g : List AV → Option AV) (as : List AV) (v : AV), C.orc f = some g → g as = some v → ∀ (Z : Nat → Prop) (w : World) (us : List Value), HR C noMap Z noHeap w → RVl Z w as noMap us →
    ∀ (r : Option Nat) (o : Oper) (a : Act) (next : Act → World → Prop) (Q : Exit → Act → World → Prop),
      (∀ u w1 m1 Z1 h1 n1, Step C noMap Z noHeap 0 w m1 Z1 h1 n1 w1 → RV Z1 w1 v noMap u → next (a.put o.dst u) w1) →
      o.uponIn (Fw r) 0 C.P a next Q ((callFunc f us.toArray).run C.P w)
theorem upon_fc {fc : FcF} (hfc : FcOk C fc) {f : FuncId} {args : List AV} {v : AV} (hv : fc f args h n = some (v, h', n')) (hle : n ≤ n') {us : List Value} (hr : HR C m Z h w) (hus : RVl Z w args m us) (hf : ∀ b, n ≤ b → b < n' → m b = none)
    (r : Option Nat) (o : Oper) (a : Act) (next : Act → World → Prop) (Q : Exit → Act → World → Prop) (hn : ∀ u w' m' Z', Step C m Z h n w m' Z' h' n' w' → RV Z' w' v m' u → next (a.put o.dst u) w') :
    o.uponIn (Fw r) 0 C.P a next Q ((callFunc f us.toArray).run C.P w) := by
  obtain ⟨h1, h2⟩ := hfc f args h n v h' n' hv hle m Z w us hr hus hf
  rw [h1, Oper.uponIn_enter]
  refine ⟨fun h => by simp [Fw, Fence.wide] at h, CallsIn.mono h2 ?_⟩
  rintro e w1 ⟨u, m1, Z1, rfl, s, hu⟩
  exact hn u w1 m1 Z1 s hu
theorem lone_post (hr : HR C m Z h w) {ids : List Nat} (hd : ∀ b ∈ ids, ∃ cs es fz, h b = some (.cells cs es fz)) {m1 : AMap} {Z1 : Nat → Prop} {h1 : Heap} {n1 : Nat} {w1 : World} {ids1 : List Nat}
    (s : Step C noMap (Zof Z m ids) noHeap 0 w m1 Z1 h1 n1 w1) (hd1 : ∀ b ∈ ids1, ∃ cs es fz, h1 b = some (.cells cs es fz)) {v : AV} {u : Value} (hu : RV (Zof Z1 m1 ids1) w1 v noMap u) :
    ∃ m' Z', Step C m Z h n w m' Z' (if v.flat then h else shutIds h ids) n w1 ∧ RV Z' w1 v m' u := by
  have hk : ∀ r, r < w.heap.size → w1.heap[r]? = w.heap[r]? := fun r hr' => s.frame r hr' no_own
  have hmm : ∀ b x, noMap b = some x → m b = some x := fun b x e => by simp [noMap] at e
  by_cases hfl : v.flat = true
  · rw [if_pos hfl]
    exact ⟨m, Z, Step.quiet hr s.size hk s.os s.tape s.output, RV_flat w1 Z v m hfl hu⟩
  · rw [if_neg hfl]
    refine ⟨m, Zof Z1 m1 ids1, Step.shut hr hd s.size hk (fun r e => .inl (s.zext r e)) (fun r e => ?_) (fun r e => ?_) s.os s.tape s.output, RV_mono (fun _ h => h) (fun _ _ => rfl) _ hmm hu⟩
    · have key : Z1 r → Zof Z m ids r ∨ w.heap.size ≤ r := fun e => by
        rcases s.znew r e with e | e | e
        · exact .inl e
        · exact .inr e
        · exact absurd e no_own
      rcases e with e | ⟨b, hb, mb, e1, e2⟩
      · exact key e
      · by_cases hz : Z1 r
        · exact key hz
        · rcases Nat.lt_or_ge r w.heap.size with hlt | hge
          · obtain ⟨cs, es, fz, e3⟩ := hd1 b hb
            exact absurd (s.dom r hlt ⟨b, _, mb, e3, e1, e2, hz⟩) no_own
          · exact .inr hge
    · rcases e with e | ⟨b, hb, mb, e1, e2⟩
      · exact s.hr.zlt r e
      · obtain ⟨cs, es, fz, e3⟩ := hd1 b hb
        rw [← e2]
        exact s.hr.lt e3 e1
theorem anycall_sound {fc : FcF} (hfc : FcOk C fc) (horc : OrcOk C) {f : FuncId} {args : List AV} {v : AV} (hv : anycall C fc f args h n = some (v, h', n')) (hle : n ≤ n') {us : List Value} (hr : HR C m Z h w) (hus : RVl Z w args m us) (hf : ∀ b, n ≤ b → b < n' → m b = none)
    (r : Option Nat) (o : Oper) (a : Act) (next : Act → World → Prop) (Q : Exit → Act → World → Prop) (hn : ∀ u w' m' Z', Step C m Z h n w m' Z' h' n' w' → RV Z' w' v m' u → next (a.put o.dst u) w') :
    o.uponIn (Fw r) 0 C.P a next Q ((callFunc f us.toArray).run C.P w) := by
  unfold anycall at hv
  split at hv
  · rename_i pv ids htry
    injection hv with hv; injection hv with e1 hv; injection hv with e2 e3; subst e1; subst e2; subst e3
    unfold orcTry at htry
    split at htry <;> try (cases htry; done)
    rename_i g hg
    split at htry <;> try (cases htry; done)
    split at htry <;> try (cases htry; done)
    rename_i as ids' hmf
    simp only [Option.map_eq_some_iff] at htry
    obtain ⟨pv', hpv, he⟩ := htry
    injection he with he1 he2; subst he1; subst he2
    have hmf' : mapF (frz h 64) args = some (as, ids') := by
      split at hmf
      · exact hmf
      · cases hmf
    have hd := mapF_dom h 64 args hmf'
    have hB : ∀ x y : List Nat, (∀ b ∈ x ++ y, ∀ mb, m b = some mb → Zof Z m ids' mb.rb) → (∀ b ∈ x, ∀ mb, m b = some mb → Zof Z m ids' mb.rb) ∧ (∀ b ∈ y, ∀ mb, m b = some mb → Zof Z m ids' mb.rb) :=
      fun x y h => ⟨fun b hb => h b (List.mem_append.2 (.inl hb)), fun b hb => h b (List.mem_append.2 (.inr hb))⟩
    have hus' : RVl (Zof Z m ids') w as noMap us := mapF_l (B := fun l => ∀ b ∈ l, ∀ mb, m b = some mb → Zof Z m ids' mb.rb) hB (fun a r v e1 e2 e3 => frz_sound hr (fun _ h => .inl h) 64 e1 e2 e3) args hmf'
      (fun b hb mb e => .inr ⟨b, hb, mb, e, rfl⟩) hus
    have hlone := hr.lone hd
    refine horc f g as pv' hg hpv _ w us hlone hus' r o a next Q fun u w1 m1 Z1 h1 n1 s hu => ?_
    obtain ⟨m2, Z2, s2, hu2⟩ := lone_post (n := n) (ids1 := []) hr hd s (by simp) (RV_mono (fun _ h => .inl h) (fun _ _ => rfl) _ (fun _ _ h => h) hu)
    exact hn u w1 m2 Z2 s2 hu2
  · split at hv
    · exact upon_fc hfc hv hle hr hus hf r o a next Q hn
    · split at hv
      · rename_i as ids hmf
        have hmf' : mapF (frz h 64) args = some (as, ids) := by
          split at hmf
          · exact hmf
          · cases hmf
        have hd := mapF_dom h 64 args hmf'
        have hB : ∀ x y : List Nat, (∀ b ∈ x ++ y, ∀ mb, m b = some mb → Zof Z m ids mb.rb) → (∀ b ∈ x, ∀ mb, m b = some mb → Zof Z m ids mb.rb) ∧ (∀ b ∈ y, ∀ mb, m b = some mb → Zof Z m ids mb.rb) :=
          fun x y h => ⟨fun b hb => h b (List.mem_append.2 (.inl hb)), fun b hb => h b (List.mem_append.2 (.inr hb))⟩
        have hus' : RVl (Zof Z m ids) w as noMap us := mapF_l (B := fun l => ∀ b ∈ l, ∀ mb, m b = some mb → Zof Z m ids mb.rb) hB (fun a r v e1 e2 e3 => frz_sound hr (fun _ h => .inl h) 64 e1 e2 e3) args hmf'
          (fun b hb mb e => .inr ⟨b, hb, mb, e, rfl⟩) hus
        have hlone := hr.lone hd
        split at hv
        · split at hv <;> try (cases hv; done)
          rename_i r1 h1 n1 hc
          injection hv with hv; injection hv with e1 hv; injection hv with e2 e3; subst e1; subst e2; subst e3
          refine upon_fc hfc hc (Nat.zero_le _) hlone hus' (fun _ _ _ => rfl) r o a next Q fun u w1 m1 Z1 s hu => ?_
          obtain ⟨m2, Z2, s2, hu2⟩ := own_post hr hd hf s hu
          exact hn u w1 m2 Z2 s2 hu2
        split at hv <;> try (cases hv; done)
        rename_i pv hpv
        injection hv with hv; injection hv with e1 hv; injection hv with e2 e3; subst e1; subst e2; subst e3
        unfold pcall at hpv
        split at hpv <;> try (cases hpv; done)
        rename_i r1 h1 n1 hc
        simp only [Option.map_eq_some_iff] at hpv
        obtain ⟨⟨pr, ids1⟩, hfz, rfl⟩ := hpv
        refine upon_fc hfc hc (Nat.zero_le _) hlone hus' (fun _ _ _ => rfl) r o a next Q fun u w1 m1 Z1 s hu => ?_
        have hd1 := frz_dom h1 64 hfz
        have hu1 := frz_sound s.hr (Z' := Zof Z1 m1 ids1) (fun _ h => .inl h) 64 hfz (fun b hb mb e => .inr ⟨b, hb, mb, e, rfl⟩) hu
        obtain ⟨m2, Z2, s2, hu2⟩ := lone_post (n := n) hr hd s hd1 hu1
        exact hn u w1 m2 Z2 s2 hu2
      · exact upon_fc hfc hv hle hr hus hf r o a next Q hn
theorem callOf_ok {L : Lv} (hfc : FcOk C L.fc) (hfy : FyOk C L.fy) (horc : OrcOk C) : CallOk C (callOf C L) := by
  intro f args h n v h' n' hv m Z w fv us hr hfv hus hf hle r o a next Q hn
  unfold callOf at hv
  split at hv
  · rename_i f caps
    simp only [RV] at hfv
    obtain ⟨cs, rfl, hcs⟩ := hfv
    have h1 := anycall_sound hfc horc hv hle hr (RVl_append hus hcs) hf r o a next Q hn
    have e : (do let d ← Deferred.ofValue (.func (.func f) #[] cs.toArray) us.toArray; invoke d.target d.args : Sem Next) = callFunc f (us ++ cs).toArray := by
      have e0 : (#[] ++ us.toArray ++ cs.toArray : Array Value) = (us ++ cs).toArray := by
        apply Array.ext'
        simp
      rw [← e0]
      rfl
    rw [e]
    exact h1
  · rename_i l caps
    simp only [RV] at hfv
    obtain ⟨mb, hm, rfl⟩ := hfv
    obtain ⟨fnid, tm, as, bd, h1, h2⟩ := hfy l args h n v h' n' hv hle m Z w mb us hr hm hus hf
    have e : (do let d ← Deferred.ofValue (.func (.yield mb.rb) #[] #[]) us.toArray; invoke d.target d.args : Sem Next) = Instr.yield mb.rb us.toArray := by
      have e0 : (#[] ++ us.toArray : Array Value) = us.toArray := by
        apply Array.ext'
        simp
      show Instr.yield mb.rb (#[] ++ us.toArray) = _
      rw [e0]
    rw [e, h1, Oper.uponIn_round]
    refine ⟨fun h => by simp [Fw, Fence.wide] at h, RoundIn.mono h2 ?_⟩
    rintro e w1 ⟨u, m1, Z1, rfl, s, hu⟩
    exact hn u w1 m1 Z1 s hu
  · cases hv
end
end Go.Proofs.Bv
namespace Go.Proofs.Bv
open Go
section
variable {C : Cfg} {P : Program} {m m' : AMap} {Z Z' : Nat → Prop} {h h' : Heap} {n n' nt w0 : Nat} {w w' : World}
theorem HR.sub (hr : HR C m Z h w) {g : Heap} (hg : ∀ b x, g b = some x → h b = some x) : HR C m Z g w :=
  ⟨fun b cs es fz e => hr.cells b cs es fz (hg _ _ e), fun b L e => hr.loops b L (hg _ _ e), fun b1 b2 o1 o2 m1 m2 e1 e2 => hr.inj b1 b2 o1 o2 m1 m2 (hg _ _ e1) (hg _ _ e2), hr.zlt, hr.glob⟩
theorem Step.sub (s : Step C m Z h n w m' Z' h' n' w') {g : Heap} (hg : ∀ b x, g b = some x → h' b = some x) : Step C m Z h n w m' Z' g n' w' :=
  ⟨s.hr.sub hg, s.mext, s.mnew, s.zext, s.znew, s.nle, s.size, s.frame, fun r hr ⟨b, o, mb, e1, e2, e3, e4⟩ => s.dom r hr ⟨b, o, mb, hg _ _ e1, e2, e3, e4⟩, s.os, s.tape, s.output⟩
theorem Step.whole (hr : HR C m Z h w) {g g' G : Heap} (hg : ∀ b x, g b = some x → h b = some x) (s : Step C m Z g n w m' Z' g' n' w') (t : Nat → Bool) (h1 : ∀ b, t b = false → g' b = g b) (h2 : ∀ b, G b = if t b then g' b else h b)
    {q q' : Nat} (hq : q ≤ n) (hq' : n' ≤ q') : Step C m Z h q w m' Z' G q' w' := by
  have own : ∀ {r}, Own Z g m r → Own Z h m r := fun ⟨b, o, mb, e1, e2, e3, e4⟩ => ⟨b, o, mb, hg _ _ e1, e2, e3, e4⟩
  have hz : ∀ r, Z r → w'.heap[r]? = w.heap[r]? := s.zkeep (hr.sub hg)
  -- a name is the part's, or lies outside of it
  have cls : ∀ {b x}, G b = some x → g' b = some x ∨ (g b = none ∧ h b = some x) := by
    intro b x e
    rw [h2] at e
    by_cases ht : t b = true
    · rw [if_pos ht] at e; exact .inl e
    · rw [if_neg ht] at e
      cases hgb : g b with
      | none => exact .inr ⟨rfl, e⟩
      | some y =>
        have := hg b y hgb
        rw [e] at this
        injection this with this
        subst this
        exact .inl (by rw [h1 b (by simpa using ht), hgb])
  have out : ∀ {b x mb}, g b = none → h b = some x → m b = some mb → ¬ Own Z g m mb.rb := by
    rintro b x mb e1 e2 e3 ⟨b', o, mb', f1, f2, f3, f4⟩
    have := hr.inj b' b o x mb' mb (hg _ _ f1) e2 f2 e3 f3 (by rw [f3]; exact f4)
    rw [this, e1] at f1
    cases f1
  have keep : ∀ {b x mb}, g b = none → h b = some x → m b = some mb → w'.heap[mb.rb]? = w.heap[mb.rb]? := fun e1 e2 e3 => s.frame _ (hr.lt e2 e3) (out e1 e2 e3)
  have zback : ∀ {b x mb}, g b = none → h b = some x → m b = some mb → Z' mb.rb → Z mb.rb := by
    intro b x mb e1 e2 e3 e4
    rcases s.znew _ e4 with e | e | e
    · exact e
    · have := hr.lt e2 e3; omega
    · exact absurd e (out e1 e2 e3)
  refine ⟨⟨fun b cs es fz e => ?_, fun b L e => ?_, fun b1 b2 o1 o2 m1 m2 e1 e2 e3 e4 e5 hzz => ?_, s.hr.zlt, s.hr.glob⟩, s.mext, fun b e => (s.mnew b e).imp id fun e => ⟨Nat.le_trans hq e.1, Nat.lt_of_lt_of_le e.2 hq'⟩, s.zext, fun r e => (s.znew r e).imp id fun e => e.imp id own,
    Nat.le_trans hq (Nat.le_trans s.nle hq'), s.size, fun r hr' hno => s.frame r hr' fun e => hno (own e), fun r hr' ⟨b, o, mb, e1, e2, e3, e4⟩ => ?_, s.os, s.tape, s.output⟩
  · rcases cls e with e | ⟨e1, e2⟩
    · exact s.hr.cells b cs es fz e
    · obtain ⟨mb, c, e', us, q1, q2, q3, q4, q5, q6, q7⟩ := hr.cells b cs es fz e2
      exact ⟨mb, c, e', us, s.mext _ _ q1, q2, q3, by rw [keep e1 e2 q1]; exact q4, q5, RVs_mono s.zext hz _ s.mext q6, ⟨fun h => s.zext _ (q7.1 h), fun h => q7.2 (zback e1 e2 q1 h)⟩⟩
  · rcases cls e with e | ⟨e1, e2⟩
    · exact s.hr.loops b L e
    · obtain ⟨mb, r, q1, q2, q3, q4, q5, q6, q7, q8⟩ := hr.loops b L e2
      exact ⟨mb, r, s.mext _ _ q1, by rw [keep e1 e2 q1]; exact q2, fun h => q3 (zback e1 e2 q1 h), q4, q5, q6, RT_mono s.zext hz s.mext q7, q8⟩
  · have mof : ∀ {b x mb}, h b = some x → m' b = some mb → m b = some mb := by
      intro b x mb e e'
      have : ∃ mb', m b = some mb' := by
        cases x with
        | cells cs es fz => obtain ⟨mb', _, _, _, q1, _⟩ := hr.cells b cs es fz e; exact ⟨mb', q1⟩
        | loop L => obtain ⟨mb', _, q1, _⟩ := hr.loops b L e; exact ⟨mb', q1⟩
      obtain ⟨mb', q⟩ := this
      have := s.mext _ _ q
      rw [e'] at this
      injection this with this
      rw [this]; exact q
    have mixed : ∀ {b1 b2 o1 o2 m1 m2}, g b1 = none → h b1 = some o1 → g' b2 = some o2 → m' b1 = some m1 → m' b2 = some m2 → m1.rb = m2.rb → ¬ Z' m1.rb → False := by
      intro b1 b2 o1 o2 m1 m2 f1 f2 f3 f4 f5 f6 f7
      have f8 := mof f2 f4
      have f9 := hr.lt f2 f8
      exact out f1 f2 f8 (s.dom _ f9 ⟨b2, o2, m2, f3, f5, f6.symm, f7⟩)
    rcases cls e1 with e1 | ⟨f1, f2⟩
    · rcases cls e2 with e2 | ⟨f1, f2⟩
      · exact s.hr.inj b1 b2 o1 o2 m1 m2 e1 e2 e3 e4 e5 hzz
      · exact (mixed f1 f2 e1 e4 e3 e5.symm (by rw [← e5]; exact hzz)).elim
    · rcases cls e2 with e2 | ⟨f3, f4⟩
      · exact (mixed f1 f2 e2 e3 e4 e5 hzz).elim
      · exact hr.inj b1 b2 o1 o2 m1 m2 f2 f4 (mof f2 e3) (mof f4 e4) e5 fun e => hzz (s.zext _ e)
  · rcases cls e1 with e1 | ⟨f1, f2⟩
    · exact own (s.dom r hr' ⟨b, o, mb, e1, e2, e3, e4⟩)
    · have : ∃ mb', m b = some mb' := by
        cases o with
        | cells cs es fz => obtain ⟨mb', _, _, _, q1, _⟩ := hr.cells b cs es fz f2; exact ⟨mb', q1⟩
        | loop L => obtain ⟨mb', _, q1, _⟩ := hr.loops b L f2; exact ⟨mb', q1⟩
      obtain ⟨mb', q⟩ := this
      have hq := s.mext _ _ q
      rw [e2] at hq
      injection hq with hq
      subst hq
      exact ⟨b, o, mb, f2, q, e3, fun e => e4 (s.zext _ e)⟩
theorem touch_new {x : Blk} {v v' : AV} (e : some (v', upd h n (some x), n + 1) = some (v, h', n')) : ∀ b, b ∉ List.range' n (n' - n) → h' b = h b := by
  intro b hb
  obtain ⟨_, rfl, rfl⟩ := out_inj e
  refine upd_ne _ _ fun e => hb ?_
  subst e
  rw [show b + 1 - b = 1 from by omega]
  simp
theorem touch_same {v v' : AV} {l : List Nat} (e : some (v', h, n) = some (v, h', n')) : ∀ b, b ∉ l → h' b = h b := by
  intro b _
  obtain ⟨_, rfl, _⟩ := out_inj e
  rfl
theorem vbuiltin_touch {b : Builtin} {ts : List TypeId} {args : List AV} {v : AV} (hv : vbuiltin P b ts args h n = some (v, h', n')) :
    ∀ x, x ∉ touchB n n' b args → h' x = h x := by
  unfold vbuiltin at hv
  split at hv
  · repeat' (first | (cases hv; done) | exact touch_same hv | split at hv)
  · rename_i t xt s x
    split at hv <;> try (cases hv; done)
    split at hv <;> try (cases hv; done)
    split at hv <;> try (cases hv; done)
    split at hv
    · split at hv <;> try (cases hv; done)
      split at hv
      · exact touch_same hv
      · exact touch_new hv
    · rename_i b off len
      split at hv <;> try (cases hv; done)
      split at hv <;> try (cases hv; done)
      obtain ⟨_, rfl, rfl⟩ := out_inj hv
      intro x hx
      simp only [touchB, List.mem_cons, not_or] at hx
      have h1 : x ≠ n := fun e => hx.2 (by subst e; rw [show x + 1 - x = 1 from by omega]; simp)
      rw [upd_ne _ _ h1, upd_ne _ _ hx.1]
    · cases hv
  · split at hv <;> try (cases hv; done)
    split at hv <;> try (cases hv; done)
    split at hv <;> try (cases hv; done)
    obtain ⟨_, rfl, rfl⟩ := out_inj hv
    intro x hx
    simp only [touchB, List.mem_singleton] at hx
    exact upd_ne _ _ hx
  · simp only [Option.map_eq_some_iff] at hv
    obtain ⟨_, _, hv⟩ := hv
    exact touch_same (congrArg some hv)
  · simp only [Option.map_eq_some_iff] at hv
    obtain ⟨_, _, hv⟩ := hv
    exact touch_same (congrArg some hv)
  · cases hv
theorem vop_touch {ρ : Operand → AV} {op : Op} {v : AV} (hv : vop P ρ h n op = some (v, h', n')) : ∀ b, b ∉ touch ρ n n' op → h' b = h b := by
  cases op
  case store t x y =>
    simp only [vop] at hv
    split at hv <;> try (cases hv; done)
    rename_i b off s hx hs
    split at hv <;> try (cases hv; done)
    split at hv <;> try (cases hv; done)
    obtain ⟨_, rfl, rfl⟩ := out_inj hv
    intro b' hb
    simp only [touch, hx, List.mem_singleton] at hb
    exact upd_ne _ _ hb
  case call c =>
    obtain ⟨callee, args, argTypes⟩ := c
    cases callee <;> simp only [vop] at hv <;> try (cases hv; done)
    exact vbuiltin_touch hv
  all_goals simp only [vop] at hv
  all_goals simp only [touch]
  all_goals try (cases hv; done)
  all_goals (repeat' (first
    | exact touch_same hv
    | exact touch_new hv
    | (cases hv; done)
    | (obtain ⟨_, _, hv⟩ := Option.map_eq_some_iff.1 hv; exact touch_same (congrArg some hv))
    | (obtain ⟨_, _, hv⟩ := Option.map_eq_some_iff.1 hv; exact touch_new (congrArg some hv))
    | split at hv))
end
end Go.Proofs.Bv
