/- Message queue: the program and its reference, in plain Lean. Conditions: none. -/
import Derived.Test.YthcekppbbanfeaaGreatMrE
set_option linter.unusedVariables false
set_option linter.unusedSimpArgs false
set_option maxRecDepth 8000
set_option maxHeartbeats 1000000
namespace Go.Proofs.YthcekppbbanfeaaGreat.Den
open Go Go.RowKit
theorem srt_uniq2 {key : Pr → Int} : ∀ {l1 l2 : List Pr}, Srt key l1 → Srt key l2 → (∀ k, l1.filter (fun x => decide (key x = k)) = l2.filter (fun x => decide (key x = k))) → l1 = l2
  | [], [], _, _, _ => rfl
  | [], b :: l2, _, _, h => by have := h (key b); simp at this
  | a :: l1, [], _, _, h => by have := h (key a); simp at this
  | a :: l1, b :: l2, s1, s2, h => by
    have m1 : a ∈ b :: l2 := by
      have : a ∈ (b :: l2).filter (fun x => decide (key x = key a)) := by rw [← h]; simp
      exact (List.mem_filter.1 this).1
    have m2 : b ∈ a :: l1 := by
      have : b ∈ (a :: l1).filter (fun x => decide (key x = key b)) := by rw [h]; simp
      exact (List.mem_filter.1 this).1
    obtain ⟨p1, t1⟩ := List.pairwise_cons.1 s1
    obtain ⟨p2, t2⟩ := List.pairwise_cons.1 s2
    have e : key a = key b := by
      have h1 : key b ≤ key a := by
        rcases List.mem_cons.1 m1 with e | e
        · rw [e]; exact Int.le_refl _
        · exact p2 a e
      have h2 : key a ≤ key b := by
        rcases List.mem_cons.1 m2 with e | e
        · rw [e]; exact Int.le_refl _
        · exact p1 b e
      omega
    have hk := h (key a)
    rw [List.filter_cons_of_pos (by simp), List.filter_cons_of_pos (by simp [e])] at hk
    injection hk with hab hk
    subst hab
    rw [srt_uniq2 t1 t2 fun k => ?_]
    by_cases ek : key a = k
    · subst ek; exact hk
    · have := h k
      rwa [List.filter_cons_of_neg (by simp [ek]), List.filter_cons_of_neg (by simp [ek])] at this

def fS (k : Sw) : Int × Int × Int × List Int := (k.th, k.dl, k.m.say)
def fW (k : Wt) : Int × Int × Int × List Int := (k.th, k.dl, k.m.say)
def fR (k : Rw) : Pr := (k.th, k.dl)
def En.says (e : En) : Int × (Int × List Int) × Int := (e.th, e.m.say, e.err)
structure PR0 (q : Q25) (r : RQ) (S : List Kp) (N : Int) : Prop where
  ord : Ord q.ms S
  le : ∀ k ∈ S, k.num ≤ q.num
  num : 0 ≤ q.num ∧ q.num ≤ N
  mx : 1 ≤ q.max ∧ q.max ≤ 64
  emx : r.max = q.max
  esz : r.size = q.size
  ems : S.map (fun k => k.m.say) = r.ms.map Ms.say
  esn : q.sn.map fS = r.sn.map fW
  erc : q.rc.map fR = r.rc.map prW
  enow : r.now = q.now
  ent : q.nt.map (fun x => x.2) = if r.reg = true then some r.nt else none
  fit : (S.length : Int) ≤ q.max
  idle : q.rc = [] ∨ (S = [] ∧ q.sn = [])
  dS : ∀ k ∈ S, (k.m.bs.length : Int) ≤ q.size
  dN : ∀ k ∈ q.sn, (k.m.bs.length : Int) ≤ q.size
  nd : (q.sn.map Sw.th ++ q.rc.map Rw.th).Nodup
structure PR (q : Q25) (r : RQ) (S : List Kp) (N : Int) : Prop extends PR0 q r S N where
  full : q.sn ≠ [] → (S.length : Int) = q.max
theorem insK_split2 {x : Kp} : ∀ {S : List Kp}, S.Pairwise (fun a b => lessK a b = true) → ∃ A B, S = A ++ B ∧ insK x S = A ++ x :: B ∧ (∀ b ∈ B, b.m.pri < x.m.pri) ∧ ∀ a ∈ A, ¬ a.m.pri < x.m.pri
  | [], _ => ⟨[], [], rfl, rfl, by simp, by simp⟩
  | a :: S, h => by
    obtain ⟨h1, h2⟩ := List.pairwise_cons.1 h
    unfold insK
    split
    · rename_i hlt
      refine ⟨[], a :: S, rfl, rfl, fun b hb => ?_, by simp⟩
      rcases List.mem_cons.1 hb with rfl | hb
      · exact hlt
      · have := h1 b hb
        unfold lessK at this; rw [decide_eq_true_eq] at this; omega
    · rename_i hge
      obtain ⟨A, B, e1, e2, e3, e4⟩ := insK_split2 h2
      refine ⟨a :: A, B, by rw [e1]; rfl, by rw [e2]; rfl, e3, fun z hz => ?_⟩
      rcases List.mem_cons.1 hz with rfl | hz
      · exact hge
      · exact e4 z hz
theorem ins_say {x : Kp} {S : List Kp} {ms : List Ms} {m2 : Ms} {k : Nat} (h : S.Pairwise fun a b => lessK a b = true) (he : S.map (fun (k : Kp) => k.m.say) = ms.map Ms.say) (hm : x.m.say = m2.say) (hp : PosM ms m2 k) :
    (insK x S).map (fun (k : Kp) => k.m.say) = (insM ms m2 k).map Ms.say := by
  obtain ⟨A, B, rfl, e2, e3, e4⟩ := insK_split2 (x := x) h
  have hpri : x.m.pri = m2.pri := congrArg Prod.fst hm
  have hlen := congrArg List.length he
  rw [List.length_map, List.length_map, List.length_append] at hlen
  have hget : ∀ i : Nat, (A ++ B)[i]?.map (fun (k : Kp) => k.m.pri) = ms[i]?.map Ms.pri := by
    intro i
    have := congrArg (fun l : List (Int × List Int) => (l[i]?).map Prod.fst) he
    simp only [List.getElem?_map, Option.map_map, Function.comp_def, Ms.say] at this
    exact this
  have hk : k = A.length := by
    have h1 : k ≤ A.length := by
      rcases hp.up with h0 | ⟨y, hy, hl⟩
      · omega
      · refine Nat.le_of_not_lt fun hlt => ?_
        have hg := hget (k - 1)
        rw [hy, List.getElem?_append_right (by omega)] at hg
        cases hb : B[k - 1 - A.length]? with
        | none => rw [hb] at hg; cases hg
        | some b =>
          rw [hb] at hg
          simp only [Option.map_some, Option.some.injEq] at hg
          have := e3 b (List.mem_of_getElem? hb)
          omega
    refine Nat.le_antisymm h1 (Nat.le_of_not_lt fun hlt => ?_)
    have ha : A[k]? = some A[k] := List.getElem?_eq_getElem hlt
    have hg := hget k
    rw [List.getElem?_append_left hlt, ha] at hg
    cases hy : ms[k]? with
    | none => rw [hy] at hg; cases hg
    | some y =>
      rw [hy] at hg
      simp only [Option.map_some, Option.some.injEq] at hg
      have hyd : y ∈ ms.drop k := by
        obtain ⟨hlt2, e⟩ := List.getElem?_eq_some_iff.1 hy
        rw [List.drop_eq_getElem_cons hlt2, e]; exact List.mem_cons_self ..
      have := hp.dn y hyd
      have := e4 A[k] (List.getElem_mem _)
      omega
  subst hk
  rw [e2]
  unfold insM
  rw [List.map_append, List.map_cons, List.map_append, List.map_cons, ← hm, List.map_take, List.map_drop, ← he, List.map_append, List.take_left' (List.length_map ..), List.drop_left' (List.length_map ..)]
section
variable {q : Q25} {r : RQ} {S : List Kp} {N th dl now : Int} {m1 m2 : Ms} {k : Nat} {wait : Bool}
theorem map_len {α β γ : Type} {f : α → γ} {g : β → γ} {l : List α} {l' : List β} (h : l.map f = l'.map g) : l.length = l'.length := by
  have := congrArg List.length h
  rwa [List.length_map, List.length_map] at this
theorem PR0.ths (h : PR0 q r S N) : q.sn.map Sw.th = r.sn.map Wt.th := by
  have := congrArg (List.map Prod.fst) h.esn
  simpa [List.map_map, Function.comp_def, fS, fW] using this
theorem PR0.thr (h : PR0 q r S N) : q.rc.map Rw.th = r.rc.map Wt.th := by
  have := congrArg (List.map Prod.fst) h.erc
  simpa [List.map_map, Function.comp_def, fR, prW] using this
theorem PR0.blk (h : PR0 q r S N) : q.blocked th = r.blocked th := by unfold Q25.blocked RQ.blocked; rw [h.ths, h.thr]
theorem PR0.len (h : PR0 q r S N) : q.ms.length = S.length := h.ord.perm.length_eq
theorem PR0.rlen (h : PR0 q r S N) : S.length = r.ms.length := map_len h.ems
theorem PR0.put (h : PR0 q r S N) (hm : m1.say = m2.say) (hd : (m1.bs.length : Int) ≤ q.size) (hr : q.rc ≠ [] ∨ (S.length : Int) < q.max) (hp : r.rc = [] → PosM r.ms m2 k) :
    ∃ S', PR0 (q.put m1).2 (r.put m2 k).2 S' (N + 1) ∧ (q.put m1).1.1.map En.says = (r.put m2 k).1.1.map En.says ∧ (q.put m1).1.2 = (r.put m2 k).1.2 ∧ (q.put m1).2.sn = q.sn ∧ (q.put m1).2.max = q.max ∧ (q.rc = [] → S'.length = S.length + 1) ∧ (q.rc ≠ [] → S' = S) := by
  have hn := h.num
  cases hrc : q.rc with
  | cons x xs =>
    obtain ⟨y, ys, hry⟩ : ∃ y ys, r.rc = y :: ys := by
      cases hr2 : r.rc with
      | nil => have := map_len h.erc; rw [hrc, hr2] at this; simp at this
      | cons y ys => exact ⟨y, ys, rfl⟩
    have he := h.erc
    rw [hrc, hry, List.map_cons, List.map_cons] at he
    injection he with he1 he2
    have e1 : q.put m1 = (([⟨x.th, m1, 0⟩], []), { q with rc := xs }) := by unfold Q25.put; rw [hrc]
    have e2 : r.put m2 k = (([⟨y.th, m2, 0⟩], []), { r with rc := ys }) := by unfold RQ.put; rw [hry]
    rw [e1, e2]
    have hi : S = [] ∧ q.sn = [] := by
      rcases h.idle with h0 | h0
      · rw [hrc] at h0; cases h0
      · exact h0
    refine ⟨S, ⟨h.ord, h.le, ⟨hn.1, by show q.num ≤ _; omega⟩, h.mx, h.emx, h.esz, h.ems, h.esn, he2, h.enow, h.ent, h.fit, .inr hi, h.dS, h.dN, ?_⟩, ?_, rfl, rfl, rfl, fun h0 => (by cases h0), fun _ => rfl⟩
    · have := h.nd
      rw [hrc, hi.2] at this
      show (q.sn.map Sw.th ++ xs.map Rw.th).Nodup
      rw [hi.2]
      simp only [List.map_nil, List.nil_append, List.map_cons] at this ⊢
      exact (List.nodup_cons.1 this).2
    · have : x.th = y.th := congrArg Prod.fst he1
      show [En.says ⟨x.th, m1, 0⟩] = [En.says ⟨y.th, m2, 0⟩]
      unfold En.says; rw [this]; simp only [hm]
  | nil =>
    have hry : r.rc = [] := by
      have := map_len h.erc; rw [hrc] at this
      exact List.length_eq_zero_iff.1 this.symm
    have hpos := hp hry
    have hlt : (S.length : Int) < q.max := by
      rcases hr with h0 | h0
      · exact absurd hrc h0
      · exact h0
    have hil : (insK ⟨m1, q.num + 1⟩ S).length = S.length + 1 := (insK_perm _ _).length_eq
    have hems : q.ms = [] ↔ r.ms = [] := by
      have h1 := h.len; have h2 := h.rlen
      constructor
      · intro e; rw [e] at h1; exact List.length_eq_zero_iff.1 (h2.symm.trans h1.symm)
      · intro e; rw [e] at h2; exact List.length_eq_zero_iff.1 (h1.trans h2)
    have key : ∀ (nt : Option (Nat × Nc)) (rnt : Nc) (g : Bool), (nt.map (fun x => x.2) = if g = true then some rnt else none) → PR0 { q with num := q.num + 1, ms := pushK q.ms ⟨m1, q.num + 1⟩, nt := nt } { r with ms := insM r.ms m2 k, nt := rnt, reg := g } (insK ⟨m1, q.num + 1⟩ S) (N + 1) := by
      intro nt rnt g hg
      refine ⟨h.ord.push fun a ha => by have := h.le a ha; show a.num < q.num + 1; omega, fun z hz => ?_, ⟨by show 0 ≤ q.num + 1; omega, by show q.num + 1 ≤ _; omega⟩, h.mx, h.emx, h.esz, ins_say h.ord.srt h.ems hm hpos, h.esn, h.erc, h.enow, hg, by show _ ≤ q.max; omega, .inl hrc, fun z hz => ?_, h.dN, h.nd⟩
      · show z.num ≤ q.num + 1
        rcases List.mem_cons.1 ((insK_perm _ _).mem_iff.1 hz) with rfl | hz
        · exact Int.le_refl _
        · have := h.le z hz; omega
      · rcases List.mem_cons.1 ((insK_perm _ _).mem_iff.1 hz) with rfl | hz
        · exact hd
        · exact h.dS z hz
    have hent := h.ent
    cases hnt : q.nt with
    | none =>
      have e1 : q.put m1 = (([], []), { q with num := q.num + 1, ms := pushK q.ms ⟨m1, q.num + 1⟩ }) := by unfold Q25.put; rw [hrc]; simp only; rw [hnt]
      have hrg : r.reg = false := by
        rw [hnt] at hent
        cases hg : r.reg with
        | false => rfl
        | true => rw [hg] at hent; simp at hent
      have e2 : r.put m2 k = (([], []), { r with ms := insM r.ms m2 k }) := by unfold RQ.put; rw [hry]; simp only; rw [if_neg (by rw [hrg]; simp)]
      rw [e1, e2]
      exact ⟨_, key q.nt r.nt r.reg hent, rfl, rfl, rfl, rfl, fun _ => hil, fun h0 => absurd rfl h0⟩
    | some x =>
      have hrg : r.reg = true ∧ r.nt = x.2 := by
        rw [hnt] at hent
        cases hg : r.reg with
        | false => rw [hg] at hent; simp at hent
        | true => rw [hg] at hent; simp at hent; exact ⟨rfl, hent.symm⟩
      by_cases hms : q.ms = []
      · have e1 : q.put m1 = (([], [x.2]), { q with num := q.num + 1, ms := pushK q.ms ⟨m1, q.num + 1⟩, nt := none }) := by unfold Q25.put; rw [hrc]; simp only; rw [hnt]; simp only; rw [if_pos hms]
        have e2 : r.put m2 k = (([], [r.nt]), { r with ms := insM r.ms m2 k, reg := false }) := by unfold RQ.put; rw [hry]; simp only; rw [if_pos ⟨hems.1 hms, hrg.1⟩]
        rw [e1, e2]
        exact ⟨_, key none r.nt false (by simp), rfl, by rw [hrg.2], rfl, rfl, fun _ => hil, fun h0 => absurd rfl h0⟩
      · have e1 : q.put m1 = (([], []), { q with num := q.num + 1, ms := pushK q.ms ⟨m1, q.num + 1⟩ }) := by unfold Q25.put; rw [hrc]; simp only; rw [hnt]; simp only; rw [if_neg hms]
        have e2 : r.put m2 k = (([], []), { r with ms := insM r.ms m2 k }) := by unfold RQ.put; rw [hry]; simp only; rw [if_neg (fun hh => hms (hems.2 hh.1))]
        rw [e1, e2]
        exact ⟨_, key q.nt r.nt r.reg hent, rfl, rfl, rfl, rfl, fun _ => hil, fun h0 => absurd rfl h0⟩
/-- The same answers, and queues that agree. -/
structure Agree (a : SRes) (b : RRs) (N : Int) : Prop where
  blk : a.blk = b.blk
  err : a.err = b.err
  es : a.es.map En.says = b.es.map En.says
  ns : a.ns = b.ns
  pr : ∃ S, PR a.q b.r S N
theorem PR.mono {N' : Int} (h : PR q r S N) (hN : N ≤ N') : PR q r S N' := ⟨⟨h.ord, h.le, ⟨h.num.1, Int.le_trans h.num.2 hN⟩, h.mx, h.emx, h.esz, h.ems, h.esn, h.erc, h.enow, h.ent, h.fit, h.idle, h.dS, h.dN, h.nd⟩, h.full⟩
theorem PR.quiet {err : Int} (h : PR q r S N) : Agree ⟨false, [], [], err, q⟩ ⟨false, [], [], err, r⟩ (N + 1) := ⟨rfl, rfl, rfl, rfl, S, h.mono (by omega)⟩
theorem block_eq (h : PR0 q r S N) {n : Int} : waitsE r.now wait dl n = blockE q wait dl n := by unfold waitsE blockE; rw [h.enow]
theorem unblocked (h : q.blocked th = false) : th ∉ q.sn.map Sw.th ∧ th ∉ q.rc.map Rw.th := by
  unfold Q25.blocked at h
  simpa using h
theorem PR.send (h : PR q r S N) (hm : m1.say = m2.say) (hp : r.rc = [] → PosM r.ms m2 k) : Agree (q.send th m1 wait dl) (r.send th m2 wait dl k) (N + 1) := by
  have hpri : m1.pri = m2.pri := congrArg Prod.fst hm
  have hbs : m1.bs = m2.bs := congrArg Prod.snd hm
  unfold Q25.send RQ.send
  rw [hpri, hbs, h.esz, ← h.toPR0.blk, h.emx, ← h.toPR0.rlen, ← h.toPR0.len, block_eq h.toPR0, ← map_len h.esn]
  by_cases c1 : validT th dl = false ∨ m2.pri < 0 ∨ 31 < m2.pri
  · rw [if_pos c1, if_pos c1]; exact h.quiet
  rw [if_neg c1, if_neg c1]
  by_cases c2 : q.size < (m2.bs.length : Int)
  · rw [if_pos c2, if_pos c2]; exact h.quiet
  rw [if_neg c2, if_neg c2]
  by_cases c3 : q.blocked th = true
  · rw [if_pos c3, if_pos c3]; exact h.quiet
  rw [if_neg c3, if_neg c3]
  have hlen := h.toPR0.len
  by_cases c4 : (q.ms.length : Int) < q.max
  · rw [if_pos c4, if_pos c4]
    obtain ⟨S', h1, h2, h3, h4, h5, h6, h7⟩ := h.toPR0.put hm (by rw [hbs]; omega) (.inr (by omega)) hp
    refine ⟨rfl, rfl, h2, h3, S', h1, fun hne => ?_⟩
    rw [h4] at hne
    have := h.full hne
    omega
  rw [if_neg c4, if_neg c4]
  by_cases c5 : blockE q wait dl (q.sn.length : Int) ≠ 0
  · rw [if_pos c5, if_pos c5]; exact h.quiet
  rw [if_neg c5, if_neg c5]
  have hf : (S.length : Int) = q.max := by have := h.fit; omega
  have hrc : q.rc = [] := by
    rcases h.idle with h0 | h0
    · exact h0
    · have := h.mx; rw [h0.1] at hf; simp at hf; omega
  have hub := unblocked (by simpa using c3)
  have hn := h.num
  refine ⟨rfl, rfl, rfl, rfl, S, ⟨h.ord, h.le, ⟨hn.1, by show q.num ≤ _; omega⟩, h.mx, by first | exact h.emx | rfl, by first | exact h.esz | rfl, h.ems, ?_, h.erc, h.enow, h.ent, h.fit, .inl hrc, h.dS, fun z hz => ?_, ?_⟩, fun _ => hf⟩
  · show (q.sn ++ [_]).map fS = (r.sn ++ [_]).map fW
    rw [List.map_append, List.map_append, h.esn]
    congr 1
    show [fS ⟨th, dl, m1⟩] = [fW ⟨th, m2, dl⟩]
    unfold fS fW; rw [hm]
  · rcases List.mem_append.1 hz with hz | hz
    · exact h.dN z hz
    · rw [List.mem_singleton.1 hz]; show (m1.bs.length : Int) ≤ q.size; rw [hbs]; omega
  · show ((q.sn ++ [_]).map Sw.th ++ q.rc.map Rw.th).Nodup
    rw [hrc, List.map_append]
    have := h.nd
    rw [hrc] at this
    simp only [List.map_nil, List.append_nil, List.map_cons] at this ⊢
    exact List.nodup_append.2 ⟨this, by simp, fun a ha b hb => by rw [List.mem_singleton.1 hb]; exact fun e => hub.1 (e ▸ ha)⟩
theorem PR.recv {cp : Ms → Ms} (h : PR q r S N) (hcp : ∀ m, (cp m).pri = m.pri ∧ (cp m).bs = m.bs) (hp : ∀ y ys, r.sn = y :: ys → r.rc = [] → PosM r.ms.tail y.m k) :
    Agree (q.recv th wait dl cp).r (r.recv th wait dl k).r (N + 1) ∧ (q.recv th wait dl cp).m.say = (r.recv th wait dl k).m.say := by
  unfold Q25.recv RQ.recv
  rw [← h.toPR0.blk]
  by_cases c1 : validT th dl = false
  · rw [if_pos c1, if_pos c1]; exact ⟨h.quiet, rfl⟩
  rw [if_neg c1, if_neg c1]
  by_cases c3 : q.blocked th = true
  · rw [if_pos c3, if_pos c3]; exact ⟨h.quiet, rfl⟩
  rw [if_neg c3, if_neg c3]
  have hn := h.num
  have hlen := h.toPR0.len
  have hrl := h.toPR0.rlen
  cases hS : S with
  | nil =>
    subst hS
    have hms : q.ms = [] := List.length_eq_zero_iff.1 (by simpa using hlen)
    have hrms : r.ms = [] := List.length_eq_zero_iff.1 (by simpa using hrl.symm)
    have hpk : (popK q.ms)[q.ms.length - 1]? = none := by rw [hms]; rfl
    rw [hpk, hrms]
    simp only
    rw [block_eq h.toPR0, ← map_len h.erc]
    by_cases c5 : blockE q wait dl (q.rc.length : Int) ≠ 0
    · rw [if_pos c5, if_pos c5]; exact ⟨h.quiet, rfl⟩
    rw [if_neg c5, if_neg c5]
    have hub := unblocked (by simpa using c3)
    have hsn : q.sn = [] := by
      by_cases e : q.sn = []
      · exact e
      · have h1 := h.full e; have h2 := h.mx; simp at h1; omega
    refine ⟨⟨rfl, rfl, rfl, rfl, [], ⟨h.ord, h.le, ⟨hn.1, by show q.num ≤ _; omega⟩, h.mx, h.emx, h.esz, rfl, h.esn, ?_, h.enow, h.ent, h.fit, .inr ⟨rfl, hsn⟩, h.dS, h.dN, ?_⟩, h.full⟩, rfl⟩
    · show (q.rc ++ [_]).map fR = (r.rc ++ [_]).map prW
      rw [List.map_append, List.map_append, h.erc]; rfl
    · show (q.sn.map Sw.th ++ (q.rc ++ [_]).map Rw.th).Nodup
      have := h.nd
      rw [List.map_append, ← List.append_assoc]
      refine List.nodup_append.2 ⟨this, by simp, fun a ha b hb => ?_⟩
      simp only [List.map_cons, List.map_nil] at hb
      rw [List.mem_singleton.1 hb]
      rcases List.mem_append.1 ha with ha | ha
      · exact fun e => hub.1 (e ▸ ha)
      · exact fun e => hub.2 (e ▸ ha)
  | cons a S' =>
    subst hS
    obtain ⟨h1, h2⟩ := h.ord.pop
    obtain ⟨x, xs, hrms⟩ : ∃ x xs, r.ms = x :: xs := by
      cases hc : r.ms with
      | nil => rw [hc] at hrl; simp at hrl
      | cons x xs => exact ⟨x, xs, rfl⟩
    have hems := h.ems
    rw [hrms, List.map_cons, List.map_cons] at hems
    injection hems with hx hxs
    have htl : r.ms.tail = xs := by rw [hrms]; rfl
    rw [h1]
    have hrc : q.rc = [] := by
      rcases h.idle with h0 | h0
      · exact h0
      · cases h0.1
    have hrrc : r.rc = [] := by
      have := map_len h.erc; rw [hrc] at this
      exact List.length_eq_zero_iff.1 this.symm
    have hfit := h.fit
    rw [List.length_cons] at hfit
    -- the state between
    have mid : ∀ (sn : List Sw) (rsn : List Wt), sn.map fS = rsn.map fW → (∀ z ∈ sn, z ∈ q.sn) → (sn.map Sw.th).Nodup → PR0 { q with ms := (popK q.ms).take (q.ms.length - 1), sn := sn } { r with ms := xs, sn := rsn } S' N := by
      intro sn rsn e1 e2 e3
      refine ⟨h2, fun z hz => h.le z (by simp [hz]), hn, h.mx, h.emx, h.esz, hxs, e1, h.erc, h.enow, h.ent, by show _ ≤ q.max; omega, .inl hrc, fun z hz => h.dS z (by simp [hz]), fun z hz => h.dN z (e2 z hz), ?_⟩
      show (sn.map Sw.th ++ q.rc.map Rw.th).Nodup
      rw [hrc]; simpa using e3
    have hndS : (q.sn.map Sw.th).Nodup := (List.nodup_append.1 h.nd).1
    cases hsn : q.sn with
    | nil =>
      have hrsn : r.sn = [] := by
        have := map_len h.esn; rw [hsn] at this
        exact List.length_eq_zero_iff.1 this.symm
      rw [hrms]
      simp only
      rw [hrsn]
      simp only
      have hm := mid [] [] rfl (fun z hz => by cases hz) List.nodup_nil
      refine ⟨⟨rfl, rfl, rfl, rfl, S', ⟨hm.ord, hm.le, ⟨hn.1, by show q.num ≤ _; omega⟩, hm.mx, hm.emx, hm.esz, hm.ems, hm.esn, hm.erc, hm.enow, hm.ent, hm.fit, hm.idle, hm.dS, hm.dN, hm.nd⟩, fun hne => absurd rfl hne⟩, hx⟩
    | cons y ys =>
      obtain ⟨y2, ys2, hrsn⟩ : ∃ y ys, r.sn = y :: ys := by
        cases hc : r.sn with
        | nil => have := map_len h.esn; rw [hsn, hc] at this; simp at this
        | cons y ys => exact ⟨y, ys, rfl⟩
      have he := h.esn
      rw [hsn, hrsn, List.map_cons, List.map_cons] at he
      injection he with he1 he2
      have hth : y.th = y2.th := congrArg Prod.fst he1
      have hsay : y.m.say = y2.m.say := congrArg (fun t : Int × Int × Int × List Int => t.2.2) he1
      rw [hrms]
      simp only
      rw [hrsn]
      simp only
      have hnd2 : (ys.map Sw.th).Nodup := by rw [hsn, List.map_cons] at hndS; exact (List.nodup_cons.1 hndS).2
      have hm := mid ys ys2 he2 (fun z hz => by rw [hsn]; simp [hz]) hnd2
      have hpops : r.pops = { r with ms := xs, sn := ys2 } := by unfold RQ.pops; rw [htl, hrsn]; rfl
      rw [hpops]
      have hcs : (cp y.m).say = y2.m.say := by
        have := hcp y.m
        rw [← hsay]
        unfold Ms.say; rw [this.1, this.2]
      obtain ⟨S2, g1, g2, g3, g4, g5, g6, g7⟩ := hm.put (m1 := cp y.m) (m2 := y2.m) (k := k) hcs (by rw [(hcp y.m).2]; exact h.dN y (by rw [hsn]; simp)) (.inr (by show _ < q.max; omega)) (fun h0 => by have := hp y2 ys2 hrsn hrrc; rw [htl] at this; exact this)
      refine ⟨⟨rfl, rfl, ?_, g3, S2, g1, fun _ => ?_⟩, hx⟩
      · show [En.says ⟨y.th, ms0, 0⟩] = [En.says ⟨y2.th, ms0, 0⟩]
        rw [hth]
      · have h8 := g6 hrc
        have h9 := h.full (by rw [hsn]; simp)
        rw [List.length_cons] at h9
        show (S2.length : Int) = _
        rw [g5]
        show (S2.length : Int) = q.max
        omega
end
end Go.Proofs.YthcekppbbanfeaaGreat.Den
