/- Message queue: the law Once, walked. Conditions: none. -/
import Derived.Test.YthcekppbbanfeaaMqV
set_option linter.unusedVariables false
set_option linter.unusedSimpArgs false
set_option maxRecDepth 8000
set_option maxHeartbeats 4000000
namespace Go.Proofs.Ythcekppbbanfeaa.Den
open Go Go.RowKit
def kyV (k : Ky) : Value := .string ⟨⟨[k.1, k.2]⟩⟩
theorem kyV_of {bs : List Int} (h : bs.length = 2) : Value.string (strOf bs) = kyV (kyOf bs) := by
  match bs, h with
  | [a, b], _ => rfl
theorem kyV_inj {x y : Ky} : kyV x = kyV y ↔ x = y := by
  obtain ⟨a, b⟩ := x
  obtain ⟨c, d⟩ := y
  constructor
  · intro h
    unfold kyV at h
    injection h with h
    injection h with h
    injection h with h
    injection h with h1 h2
    injection h2 with h2 _
    subst h1 h2; rfl
  · intro h; rw [h]
theorem ba_beq (x y : ByteArray) : (x == y) = decide (x = y) := by
  have e : (x == y) = (x.data == y.data) := rfl
  rw [e, Bool.eq_iff_iff, decide_eq_true_eq, beq_iff_eq]
  constructor
  · intro h; cases x; cases y; simp only at h; rw [h]
  · intro h; rw [h]
theorem run_eqS {kt : TypeId} (h : Pg.underlying kt = some .string) (n : Nat) (x y : ByteArray) (w : World) : (Op.equalIn (n + 1) kt (.string x) (.string y)).run Pg w = .ok (decide (x = y)) w := by
  simp [Op.equalIn, Sem.run_bind, run_underlying' h, Result.andThen, ba_beq]
theorem run_ckS {kt : TypeId} (h : Pg.underlying kt = some .string) (b : Bool) (n : Nat) (v : Value) (w : World) : (Instr.checkKey b (n + 1) kt v).run Pg w = .ok () w := by
  simp [Instr.checkKey, Sem.run_bind, run_underlying' h, Result.andThen]
theorem kyS : MapK (κ := Ky) 28 9 3 .string kyV I 0 := by
  refine ⟨by kernel_rfl, by kernel_rfl, by kernel_rfl, fun x y w => ?_, fun b x w => run_ckS undS b 9999 _ w, .inl fun x y => ?_, fun x => ?_⟩
  · have := run_eqS undS 9999 ⟨⟨[x.1, x.2]⟩⟩ ⟨⟨[y.1, y.2]⟩⟩ w
    refine this.trans ?_
    congr 1
    rw [decide_eq_decide, ← kyV_inj]
    unfold kyV
    simp
  · have e : Instr.sameNow .string (kyV x) (kyV y) = some ((⟨⟨[x.1, x.2]⟩⟩ : ByteArray) == ⟨⟨[y.1, y.2]⟩⟩) := rfl
    rw [e, ba_beq]
    congr 1
    rw [decide_eq_decide, ← kyV_inj]
    unfold kyV
    simp
  · have e : Instr.sameBits 10000 (kyV x) (kyV x) = ((⟨⟨[x.1, x.2]⟩⟩ : ByteArray) == ⟨⟨[x.1, x.2]⟩⟩) := rfl
    rw [e, ba_beq]; simp
/-- One of each. -/
def kcnt : List Ky → Nat → List (Ky × Int × Nat)
  | [], _ => []
  | k :: ks, n => (k, 1, n) :: kcnt ks (n + 1)
theorem kcnt_app : ∀ (ks : List Ky) (k : Ky) (n : Nat), kcnt (ks ++ [k]) n = kcnt ks n ++ [(k, 1, n + ks.length)]
  | [], k, n => rfl
  | a :: ks, k, n => by
    show (a, 1, n) :: kcnt (ks ++ [k]) (n + 1) = _
    rw [kcnt_app ks k (n + 1)]
    show _ = (a, 1, n) :: (kcnt ks (n + 1) ++ [(k, 1, n + (ks.length + 1))])
    rw [show n + 1 + ks.length = n + (ks.length + 1) from by omega]
theorem kcnt_keys : ∀ (ks : List Ky) (n : Nat), mkeys (kcnt ks n) = ks
  | [], _ => rfl
  | k :: ks, n => by
    show k :: mkeys (kcnt ks (n + 1)) = _
    rw [kcnt_keys]
theorem kcnt_len (ks : List Ky) (n : Nat) : (kcnt ks n).length = ks.length := by
  have := congrArg List.length (kcnt_keys ks n)
  unfold mkeys at this; rwa [List.length_map] at this
theorem kcnt_mem : ∀ {ks : List Ky} {n : Nat} {e : Ky × Int × Nat}, e ∈ kcnt ks n → e.1 ∈ ks ∧ e.2.1 = 1 ∧ n ≤ e.2.2 ∧ e.2.2 < n + ks.length
  | k :: ks, n, e, h => by
    rcases List.mem_cons.1 h with rfl | h
    · simp
    · obtain ⟨h1, h2, h3, h4⟩ := kcnt_mem h
      refine ⟨by simp [h1], h2, by omega, ?_⟩
      rw [List.length_cons]; omega
theorem kcnt_mw : ∀ {ks : List Ky} {n : Nat}, ks.Nodup → MW (kcnt ks n) (n + ks.length) := by
  intro ks n hnd
  refine ⟨by rw [kcnt_keys]; exact hnd, ?_, fun e he => (kcnt_mem he).2.2.2⟩
  clear hnd
  induction ks generalizing n with
  | nil => exact List.Pairwise.nil
  | cons k ks ih =>
    show ((n :: (kcnt ks (n + 1)).map (·.2.2)) : List Nat).Pairwise _
    refine List.pairwise_cons.2 ⟨fun b hb => ?_, ih⟩
    obtain ⟨e, he, rfl⟩ := List.mem_map.1 hb
    have := (kcnt_mem he).2.2.1; omega
theorem kcnt_get {ks : List Ky} {n : Nat} {k : Ky} (h : k ∈ ks) : mget k (kcnt ks n) = some 1 := by
  cases hg : mget k (kcnt ks n) with
  | none => exact absurd (by rw [kcnt_keys]; exact h) (mget_none.1 hg)
  | some v =>
    obtain ⟨b, hm⟩ := mget_some hg
    have := (kcnt_mem hm).2.1
    simp only at this
    rw [this]
abbrev cobj (ks : List Ky) : Obj := mobj kyV I (kcnt ks 0) ks.length
section
variable {w w' w0 : World} {L L' F cs cs2 A X Y cm cr D : List Chunk} {s s2 sm sr ss : Value} {K : VK} {R : ER} {b i j qb mb : Nat} {q : Q25} {m : Ms} {th dl now : Int} {wait : Bool}
/-- One more of a key that is not there yet. -/
theorem inc_h {ks : List Ky} {k : Ky} (hk : k ∉ ks) (H : Hp w0 w L) (hu : Upd L mb (.o (cobj ks)) [] (.o (cobj (ks ++ [k]))) [] L') (g : ∀ w', Hp w0 w' L' → K undef w') :
    valV Pg R (Instr.lookup 28 (.map (some mb)) (kyV k) false) (fun v => pv (bin .add v (.int .i64 1)) fun v2 => unitV Pg R (Instr.mapUpdate 28 (.map (some mb)) (kyV k) v2) K) w := by
  have hn : k ∉ mkeys (kcnt ks 0) := by rw [kcnt_keys]; exact hk
  have hm : Has L mb (.o (cobj ks)) [] := hu.has
  refine lookup_h kyS k (ents := kcnt ks 0) (clock := ks.length) H hm ?_
  rw [mget_none.2 hn]
  refine add_k (x := 0) (y := 1) (z := 1) (by decide) (by decide) (by decide) ?_
  obtain ⟨p1, p2⟩ := mput_new (v := (1 : Int)) (clock := ks.length) hn
  refine put_h kyS k (1 : Int) (ents := kcnt ks 0) (clock := ks.length) H ?_ g
  rw [p1, p2]
  have e : cobj (ks ++ [k]) = mobj kyV I (kcnt ks 0 ++ [(k, 1, ks.length)]) (ks.length + 1) := by
    unfold cobj
    rw [kcnt_app, List.length_append, Nat.zero_add]; rfl
  rw [← e]; exact hu
theorem take_spec {G : List Ky} {gb xb : Nat} {F1 F2 : List Chunk} (hk : m.ky ∉ G) (hl : m.bs.length = 2) (hm : TR cB w0 cs m.sh.val m.bs) (hs : ∀ c ∈ cs, c ∈ F1 ++ (⟨xb, .t 28, [.map (some gb)]⟩ :: ⟨gb, .o (cobj G), []⟩ :: F2))
    (H : Hp w0 w (F1 ++ (⟨xb, .t 28, [.map (some gb)]⟩ :: ⟨gb, .o (cobj G), []⟩ :: F2))) :
    Calls Pg 9 ⟨[.agg ⟨m.enc⟩, ptr xb 0]⟩ w fun e w' => e = .returned (.tuple ⟨[]⟩) ∧ Hp w0 w' (F1 ++ (⟨xb, .t 28, [.map (some gb)]⟩ :: ⟨gb, .o (cobj (G ++ [m.ky])), []⟩ :: F2)) := by
  apply F9_calls
  unfold F9
  refine bx_m (vs := m.enc) H fun w b1 H => ?_
  refine ld_m H (Has.cons (Has.app Has.here)) (o := 0) (v := .map (some gb)) rfl ?_
  (try simp only [W0])
  refine ld_m H Has.here (o := 1) (v := m.sh.val) rfl ?_
  refine conv_str_h undB und8 undS cBsz hm H (fun c hc => List.mem_cons_of_mem _ (hs c hc)) ?_
  rw [kyV_of hl]
  refine inc_h (k := m.ky) hk H (Upd.cons (Upd.app (Upd.cons Upd.here))) fun w H => ?_
  exact ⟨(by first | rfl | trivial), H.tail⟩
end
end Go.Proofs.Ythcekppbbanfeaa.Den
