/- Message queue: the program and its reference, in plain Lean: the other calls. Conditions: none. -/
import Derived.Test.YthcekppbbanfeaaGreatMrF
set_option linter.unusedVariables false
set_option linter.unusedSimpArgs false
set_option maxRecDepth 8000
set_option maxHeartbeats 1000000
namespace Go.Proofs.YthcekppbbanfeaaGreat.Den
open Go Go.RowKit
theorem eraTh_filter {th : Int} : ∀ {xs : List Wt}, (xs.map Wt.th).Nodup → eraTh th xs = xs.filter fun x => !decide (x.th = th)
  | [], _ => rfl
  | x :: xs, h => by
    rw [List.map_cons, List.nodup_cons] at h
    have ih := eraTh_filter (th := th) h.2
    unfold eraTh at ih ⊢
    by_cases e : x.th = th
    · have h1 : (x :: xs).findIdx? (fun x => decide (x.th = th)) = some 0 := by simp [List.findIdx?_cons, e]
      rw [h1]
      simp only [List.eraseIdx_zero, List.tail_cons]
      rw [List.filter_cons]
      simp only [e, decide_true, Bool.not_true, Bool.false_eq_true, if_false]
      symm
      rw [List.filter_eq_self]
      intro y hy
      have : y.th ≠ th := fun e2 => h.1 (by rw [e, ← e2]; exact List.mem_map_of_mem hy)
      simp [this]
    · rw [List.findIdx?_cons]
      simp only [e, decide_false, Bool.false_eq_true, if_false]
      rw [List.filter_cons]
      simp only [e, decide_false, Bool.not_false, if_true]
      cases hf : xs.findIdx? (fun x => decide (x.th = th)) with
      | none => rw [hf] at ih; simp only [Option.map_none]; simp only at ih; rw [← ih]
      | some k => rw [hf] at ih; simp only [Option.map_some, List.eraseIdx_cons_succ]; simp only at ih; rw [← ih]
theorem filter_map_eq {α β γ : Type} {f : α → γ} {g : β → γ} {p : γ → Bool} {pa : α → Bool} {pb : β → Bool} {l : List α} {l' : List β} (h : l.map f = l'.map g) (ha : ∀ x, pa x = p (f x)) (hb : ∀ x, pb x = p (g x)) : (l.filter pa).map f = (l'.filter pb).map g := by
  have e1 : (l.filter pa).map f = (l.map f).filter p := by rw [List.filter_map]; congr 1; exact List.filter_congr fun x _ => ha x
  have e2 : (l'.filter pb).map g = (l'.map g).filter p := by rw [List.filter_map]; congr 1; exact List.filter_congr fun x _ => hb x
  rw [e1, e2, h]
section
variable {q : Q25} {r : RQ} {S : List Kp} {N th dl now : Int} {m1 m2 : Ms} {k : Nat} {wait : Bool}
theorem PR.cancel (h : PR q r S N) : Agree (q.cancel th) (r.cancel th) (N + 1) := by
  unfold Q25.cancel RQ.cancel
  rw [h.toPR0.ths, h.toPR0.thr]
  have hn := h.num
  have nd := h.nd
  rw [List.nodup_append] at nd
  have nd1 : (r.sn.map Wt.th).Nodup := by rw [← h.toPR0.ths]; exact nd.1
  have nd2 : (r.rc.map Wt.th).Nodup := by rw [← h.toPR0.thr]; exact nd.2.1
  have sub1 : ((q.sn.filter fun x => !decide (x.th = th)).map Sw.th).Sublist (q.sn.map Sw.th) := (List.filter_sublist).map _
  have sub2 : ((q.rc.filter fun x => !decide (x.th = th)).map Rw.th).Sublist (q.rc.map Rw.th) := (List.filter_sublist).map _
  by_cases c1 : th ∈ r.sn.map Wt.th
  · rw [if_pos c1, if_pos c1]
    refine ⟨rfl, rfl, rfl, rfl, S, ⟨h.ord, h.le, ⟨hn.1, by show q.num ≤ _; omega⟩, h.mx, h.emx, h.esz, h.ems, ?_, h.erc, h.enow, h.ent, h.fit, ?_, h.dS, fun z hz => h.dN z (List.mem_filter.1 hz).1, ?_⟩, fun hne => h.full fun e => hne (by show q.sn.filter _ = []; rw [e]; rfl)⟩
    · show (q.sn.filter _).map fS = (eraTh th r.sn).map fW
      rw [eraTh_filter nd1]
      exact filter_map_eq (p := fun t => !decide (t.1 = th)) h.esn (fun x => rfl) (fun x => rfl)
    · rcases h.idle with h0 | h0
      · exact .inl h0
      · exact .inr ⟨h0.1, by show q.sn.filter _ = []; rw [h0.2]; rfl⟩
    · exact List.nodup_append.2 ⟨nd.1.sublist sub1, nd.2.1, fun a ha b hb => nd.2.2 a (sub1.subset ha) b hb⟩
  rw [if_neg c1, if_neg c1]
  by_cases c2 : th ∈ r.rc.map Wt.th
  · rw [if_pos c2, if_pos c2]
    refine ⟨rfl, rfl, rfl, rfl, S, ⟨h.ord, h.le, ⟨hn.1, by show q.num ≤ _; omega⟩, h.mx, h.emx, h.esz, h.ems, h.esn, ?_, h.enow, h.ent, h.fit, ?_, h.dS, h.dN, ?_⟩, h.full⟩
    · show (q.rc.filter _).map fR = (eraTh th r.rc).map prW
      rw [eraTh_filter nd2]
      exact filter_map_eq (p := fun t => !decide (t.1 = th)) h.erc (fun x => rfl) (fun x => rfl)
    · rcases h.idle with h0 | h0
      · exact .inl (by show q.rc.filter _ = []; rw [h0]; rfl)
      · exact .inr h0
    · exact List.nodup_append.2 ⟨nd.1, nd.2.1.sublist sub2, fun a ha b hb => nd.2.2 a ha b (sub2.subset hb)⟩
  rw [if_neg c2, if_neg c2]
  exact h.quiet
theorem PR0.lates (h : PR0 q r S N) : q.lates now = r.lates now := by
  unfold Q25.lates RQ.lates latW
  have e1 : (q.sn.filter fun x => passed now x.dl).map (fun x => (x.th, x.dl)) = (r.sn.filter fun x => passed now x.dl).map prW := by
    have := filter_map_eq (p := fun t : Int × Int × Int × List Int => passed now t.2.1) (pa := fun x => passed now x.dl) (pb := fun x => passed now x.dl) h.esn (fun x => rfl) (fun x => rfl)
    have := congrArg (List.map fun t : Int × Int × Int × List Int => (t.1, t.2.1)) this
    simp only [List.map_map, Function.comp_def, fS, fW] at this
    exact this
  have e2 : (q.rc.filter fun x => passed now x.dl).map (fun x => (x.th, x.dl)) = (r.rc.filter fun x => passed now x.dl).map prW :=
    filter_map_eq (f := fun x : Rw => (x.th, x.dl)) (p := fun t : Pr => passed now t.2) h.erc (fun x => rfl) (fun x => rfl)
  rw [e1, e2]
theorem PR.adv {a : SRes} {b : RRs} (h : PR q r S N) (ha : AdvOK q now a) (hb : RAdvOK r now b) : Agree a b (N + 1) := by
  unfold AdvOK at ha
  unfold RAdvOK at hb
  rw [h.enow] at hb
  have hn := h.num
  by_cases c1 : now < 0 ∨ 1099511627776 < now
  · rw [if_pos c1] at ha hb; subst ha hb; exact h.quiet
  rw [if_neg c1] at ha hb
  by_cases c2 : now < q.now
  · rw [if_pos c2] at ha hb; subst ha hb; exact h.quiet
  rw [if_neg c2] at ha hb
  obtain ⟨C1, s1, t1, rfl⟩ := ha
  obtain ⟨C2, s2, t2, rfl⟩ := hb
  have hC : C1 = C2 := srt_uniq2 s1 s2 fun k => by rw [t1.fil, t2.fil, h.toPR0.lates]
  subst hC
  have nd := h.nd
  rw [List.nodup_append] at nd
  have sub1 : ((q.sn.filter fun x => !passed now x.dl).map Sw.th).Sublist (q.sn.map Sw.th) := (List.filter_sublist).map _
  have sub2 : ((q.rc.filter fun x => !passed now x.dl).map Rw.th).Sublist (q.rc.map Rw.th) := (List.filter_sublist).map _
  refine ⟨rfl, rfl, rfl, rfl, S, ⟨h.ord, h.le, ⟨hn.1, by show q.num ≤ _; omega⟩, h.mx, h.emx, h.esz, h.ems, ?_, ?_, rfl, h.ent, h.fit, ?_, h.dS, fun z hz => h.dN z (List.mem_filter.1 hz).1, ?_⟩, fun hne => h.full fun e => hne (by show q.sn.filter _ = []; rw [e]; rfl)⟩
  · exact filter_map_eq (p := fun t : Int × Int × Int × List Int => !passed now t.2.1) h.esn (fun x => rfl) (fun x => rfl)
  · exact filter_map_eq (p := fun t : Pr => !passed now t.2) h.erc (fun x => rfl) (fun x => rfl)
  · rcases h.idle with h0 | h0
    · exact .inl (by show q.rc.filter _ = []; rw [h0]; rfl)
    · exact .inr ⟨h0.1, by show q.sn.filter _ = []; rw [h0.2]; rfl⟩
  · exact List.nodup_append.2 ⟨nd.1.sublist sub1, nd.2.1.sublist sub2, fun a ha b hb => nd.2.2 a (sub1.subset ha) b (sub2.subset hb)⟩
theorem PR.reg {n : Nc} {b : Nat} (h : PR q r S N) : regE q n = rregE r n ∧ PR (if regE q n = 0 then { q with nt := some (b, n) } else q) (if rregE r n = 0 then { r with nt := n, reg := true } else r) S (N + 1) := by
  have hs : q.nt.isSome = r.reg := by
    have := h.ent
    cases hq : q.nt <;> cases hr : r.reg <;> rw [hq, hr] at this <;> simp at this ⊢
  have he : regE q n = rregE r n := by unfold regE rregE; rw [hs]
  refine ⟨he, ?_⟩
  rw [← he]
  have h' := h.mono (N' := N + 1) (by omega)
  by_cases c : regE q n = 0
  · rw [if_pos c, if_pos c]
    exact ⟨⟨h'.ord, h'.le, h'.num, h'.mx, h'.emx, h'.esz, h'.ems, h'.esn, h'.erc, h'.enow, by simp, h'.fit, h'.idle, h'.dS, h'.dN, h'.nd⟩, h'.full⟩
  · rw [if_neg c, if_neg c]; exact h'
theorem PR.unreg {ow : Int} (h : PR q r S N) : unregE q ow = runregE r ow ∧ PR (if unregE q ow = 0 then { q with nt := none } else q) (if runregE r ow = 0 then { r with reg := false } else r) S (N + 1) := by
  have he : unregE q ow = runregE r ow := by
    have := h.ent
    unfold unregE runregE
    cases hq : q.nt with
    | none =>
      cases hr : r.reg with
      | false => simp
      | true => rw [hq, hr] at this; simp at this
    | some x =>
      cases hr : r.reg with
      | false => rw [hq, hr] at this; simp at this
      | true =>
        rw [hq, hr] at this
        simp only [Option.map_some, if_true, Option.some.injEq] at this
        simp only [this, Bool.true_eq_false, false_or]
  refine ⟨he, ?_⟩
  rw [← he]
  have h' := h.mono (N' := N + 1) (by omega)
  by_cases c : unregE q ow = 0
  · rw [if_pos c, if_pos c]
    exact ⟨⟨h'.ord, h'.le, h'.num, h'.mx, h'.emx, h'.esz, h'.ems, h'.esn, h'.erc, h'.enow, by simp, h'.fit, h'.idle, h'.dS, h'.dN, h'.nd⟩, h'.full⟩
  · rw [if_neg c, if_neg c]; exact h'
theorem PR.start {mx sz : Int} (h : ¬ badNew mx sz) : PR (q0 mx sz) (r0 mx sz) [] 0 := by
  unfold badNew at h
  exact ⟨⟨Ord.nil, by simp, by simp [q0], by show 1 ≤ mx ∧ mx ≤ 64; omega, rfl, rfl, rfl, rfl, rfl, rfl, rfl, by show ((0 : Nat) : Int) ≤ mx; omega, .inl rfl, by simp, by simp [q0], by simp [q0]⟩, fun h => absurd rfl h⟩
end
end Go.Proofs.YthcekppbbanfeaaGreat.Den
