/- CacheDoes: for every input the law returns true, and its arguments read afterwards as before; no condition. -/
import Derived.Test.YtfapgccnhonoiaaGreatMk
import Derived.WalkKit
import Derived.ProofKit
import Derived.ReadAgain
import Derived.Below
import Derived.JoinedOf
import Derived.Deep.Slices
import Derived.Test.YtfapgccnhonoiaaGreatRows

/- CacheDoes: for every size and every script the law returns true. -/
namespace Go.Proofs.YtfapgccnhonoiaaGreat

/-- The acts of a script, as the call finds them; each number is one of its kind. -/
def OpsIn (h : Heap) (sp : Option Addr) (l c : Nat) : Prop :=
  l ≤ c ∧ (l = 0 ∨ ∃ b o, sp = some ⟨b, o, none⟩ ∧ b < h.size ∧ ∀ i < l, ∃ d p cc n, rowAt h ⟨b, o + i * 4, none⟩ 4 = some [i64 d, i64 p, .int .u8 cc, i64 n] ∧ (0 ≤ cc ∧ cc < 256) ∧ n < 9223372036854775808)

theorem OpsIn.at {h h' : Heap} {sp : Option Addr} {l c : Nat} (s : OpsIn h sp l c) (k : Keep h h' []) {i : Nat} (hi : i < l) : ∃ a d p cc n, sp = some a ∧ rowAt h' (a.add (i * 4)) 4 = some [i64 d, i64 p, .int .u8 cc, i64 n] ∧ (0 ≤ cc ∧ cc < 256) ∧ n < 9223372036854775808 := by
  obtain ⟨b, o, rfl, hb, hr⟩ := s.2.resolve_left (by omega)
  obtain ⟨d, p, cc, n, hrow, h1, h2⟩ := hr i hi
  refine ⟨_, d, p, cc, n, rfl, ?_, h1, h2⟩
  rw [addr_add, rowAt_same (k.same b hb (by simp))]
  exact hrow

theorem rcNewBad_ok (h : Heap) (u : Nat) (n : Int) (hn : n < 2 ∨ 64 < n) : CallH Tryz.prog 8 ⟨[ptr u, i64 n]⟩ h fun v h' => v = .tuple ⟨[.pointer none, i64 1]⟩ ∧ h' = h := by
  refine rcNew_call u n ⟨nofun, fun _ => ⟨fun _ => ⟨rfl, rfl⟩, fun t1 => ⟨fun _ => ⟨rfl, rfl⟩, fun t2 => ?_⟩⟩⟩
  have := of_decide_eq_false t1
  have := of_decide_eq_false t2
  omega

theorem Sim.start (n : Int) (h2 : 2 ≤ n) : Sim (Dk.new 8) (Ck.new n) (RDk.new 8) ⟨n, [], 0, 0⟩ 0 := by
  have z : zeroPg = bytePg 0 := by kernel_rfl
  refine ⟨⟨?_, rfl, rfl, rfl, rfl, nofun, fun k => .inr ⟨rfl, nofun⟩⟩, ⟨rfl, rfl, rfl, ⟨[], List.Perm.refl _, List.Pairwise.nil, rfl⟩, by simp [Ck.new], nofun, ⟨by simp [Ck.new], by simp [Ck.new]⟩, nofun, nofun, by simp [Ck.new]; omega⟩, by simp [Dk.new], by simp [Dk.new]⟩
  simp only [RDk.new, Dk.new, z]

section
variable {h : Heap}

/-- Both disks are read: errors and bytes are alike. -/
theorem readBoth {h1 : Heap} {c da w u : Nat} {D : Dk} {K : Ck} {p : Pl} {q : Cp} {C : RCk} {rq : Rq} {E : RDk} {rp : Rp} {t : Nat} (cd : CD h1 c da D K p q) (rf : Ref h1 w u C rq E rp (cdFoot c da p q)) (s : Sim D K E C t) {n1 : Nat} {oD oP oC oN : Int} (hn1 : Blk h1 n1 [i64 oD, i64 oP, .int .u8 oC, i64 oN]) (hnF : n1 ∉ cdFoot c da p q)
    (PF P : Heap → Prop) (hP : ∀ h' p' q', CD h' c da D K p' q' → Ref h' w u C rq E rp (cdFoot c da p' q') → Fr h1 h' (cdFoot c da p q ++ (rq.mut w ++ rp.mut u)) (cdFoot c da p' q' ++ (rq.mut w ++ rp.mut u)) → P h') :
    ∃ i20, cellAt h1 ⟨n1, 1, none⟩ = some (i64 i20) ∧ entersB Tryz.prog 13 = true ∧ CallH Tryz.prog 13 ⟨[ptr da, i64 i20]⟩ h1 fun v12 h12 => ∃ p8 n6 n7 i21, v12 = .tuple ⟨[.slice p8 n6 n7, i64 i21]⟩ ∧
      ∃ i22, cellAt h12 ⟨n1, 1, none⟩ = some (i64 i22) ∧ entersB Tryz.prog 14 = true ∧ CallH Tryz.prog 14 ⟨[ptr u, i64 i22]⟩ h12 fun v13 h13 => ∃ p9 n8 n9 i23, v13 = .tuple ⟨[.slice p9 n8 n9, i64 i23]⟩ ∧
        entersB Tryz.prog 15 = true ∧ CallH Tryz.prog 15 ⟨[.slice p8 n6 n7, .slice p9 n8 n9]⟩ h13 fun v14 h14 => ∃ t4, v14 = .bool t4 ∧ ((!t4) = true → PF h14) ∧ ((!t4) = false → ((i21 != i23) = true → PF h14) ∧ ((i21 != i23) = false → P h14)) := by
  have hat := s.d.at oP 256
  have e8 : E.S.length = 8 := by rw [s.d.st]; exact s.eight
  refine ⟨_, hn1.cell rfl, by kernel_rfl, (dRead_ok cd.dk oP).mono ?_⟩
  rintro v12 h12 ⟨r1, r2⟩
  by_cases ha : D.at oP 256 = 0
  · obtain ⟨b, p1, rfl, hge, hb, hbn, rd, kd, sd⟩ := r1 ha
    obtain ⟨p2, q2, cd2, k2, s2⟩ := cd.disk ⟨p1, rd, kd, sd⟩
    obtain ⟨rf2, f2⟩ := progS (Y := []) rf cd2 k2 s2
    obtain ⟨g1, g2, _, g3⟩ := Dk.at_zero ha
    have ho : okPage (D.show oP) := Dk.show_ok cd.dk.ok g1 g2
    refine ⟨_, _, _, _, rfl, _, (hn1.keep k2 hnF).cell rfl, by kernel_rfl, (rdRead_ok rf2.d oP).mono ?_⟩
    rintro v13 h13 ⟨k13, _, _, r3⟩
    obtain ⟨pg, b3, cap3, x3, hsh, hok, rfl, hb3, hx3, hge3⟩ := r3 ⟨g1, by rw [s.d.st]; exact g2⟩ (by rw [s.d.off]; exact g3)
    have hpg := s.d.shown g1 hsh
    subst hpg
    have hb' : Blk h13 b (D.show oP ++ []) := by rw [List.append_nil]; exact hb.keep k13 (by simp)
    refine ⟨_, _, _, _, rfl, by kernel_rfl, (rSame_ok (hb'.slAt ho [] (by simp)) (hb3.slAt ho [] (by simp)) 256 cap3 (by omega)).mono ?_⟩
    rintro _ h14 ⟨t4, rfl, ht4, rfl⟩
    have : t4 = true := ht4.2 rfl
    subst this
    exact ⟨true, rfl, nofun, fun _ => ⟨fun t => by simp at t, fun _ => hP _ p2 q2 (cd2.keep k13 (by simp)) ((Ref.forget (Y := []) rf2).beside k13) (f2.beside k13)⟩⟩
  · obtain ⟨rfl, rfl⟩ := r2 ha
    refine ⟨_, _, _, _, rfl, _, hn1.cell rfl, by kernel_rfl, (rdRead_ok rf.d oP).mono ?_⟩
    rintro v13 h13 ⟨k13, r3, r4, _⟩
    have hv : v13 = .tuple ⟨[.slice none 0 0, i64 (D.at oP 256)]⟩ := by
      by_cases hin : 0 ≤ oP ∧ oP < E.S.length
      · have ho : E.off = true := by
          cases ho : E.off with
          | true => rfl
          | false =>
            rw [s.d.off] at ho
            rw [s.d.st] at hin
            refine absurd ?_ ha
            unfold Dk.at Dk.pow
            rw [if_neg (by omega), ho]
            rfl
        rw [r4 hin ho, ← hat]
        unfold RDk.at
        rw [if_neg (by omega), ho]
        rfl
      · rw [r3 hin, ← hat]
        unfold RDk.at
        rw [if_pos (by omega)]
    subst hv
    have sn : SlAt h13 none 0 [] [] := ⟨rfl, nofun, .inl rfl⟩
    refine ⟨_, _, _, _, rfl, by kernel_rfl, (rSame_ok sn sn 0 0 (by omega)).mono ?_⟩
    rintro _ h14 ⟨t4, rfl, ht4, rfl⟩
    have : t4 = true := ht4.2 rfl
    subst this
    have f13 : Fr h12 h14 (cdFoot c da p q ++ (rq.mut w ++ rp.mut u)) (cdFoot c da p q ++ (rq.mut w ++ rp.mut u)) := ⟨k13.mono (by simp), fun _ hb => .inl hb⟩
    exact ⟨true, rfl, nofun, fun _ => ⟨fun t => by simp at t, fun _ => hP _ p q (cd.keep k13 (by simp)) (rf.beside k13) f13⟩⟩

end

theorem CacheDoes_ok (h : Heap) (size : Int) (sp : Option Addr) (sl sc : Nat) (hops : OpsIn h sp sl sc) : CallH Tryz.prog 3 ⟨[i64 size, .slice sp sl sc]⟩ h fun v h' => v = .bool true ∧ Keep h h' [] := by
  refine CacheDoes_call size sp sl sc ⟨by kernel_rfl, (dNew_ok h 8).mono ?_⟩
  rintro _ h1 ⟨_, hv⟩
  obtain ⟨da, pl, rfl, rd, k1, hpl⟩ := hv ⟨by omega, by omega⟩
  refine ⟨_, _, rfl, by kernel_rfl, (live_ok h1).mono ?_⟩
  rintro _ h2 ⟨rfl, k2⟩
  refine ⟨_, rfl, nofun, fun _ => ⟨nofun, fun _ => ⟨nofun, fun _ => ⟨by kernel_rfl, (rdNew_ok h2 8 (by omega) (by omega) (pl.foot da) fun b hb => Nat.lt_of_lt_of_le (rd.lt b hb) k2.size).mono ?_⟩⟩⟩⟩
  rintro _ h3 ⟨u, rp, rfl, rr, k3, hrp⟩
  have rd3 : DiskR h3 da (Dk.new 8) pl := (rd.keep k2 (by simp)).keep k3 (by simp)
  have k13 := (k1.trans' k2).trans' k3
  have hs1 := k1.size
  have hs2 := k2.size
  have hs3 := k3.size
  refine ⟨_, _, rfl, by kernel_rfl, (cNew_ok rd3 size).mono ?_⟩
  rintro _ h4 ⟨hbad, hgood⟩
  by_cases hsz : size < 2 ∨ 64 < size
  · obtain ⟨rfl, rfl⟩ := hbad hsz
    refine ⟨_, _, rfl, by kernel_rfl, (rcNewBad_ok h4 u size hsz).mono ?_⟩
    rintro _ h5 ⟨rfl, rfl⟩
    exact ⟨_, _, rfl, nofun, fun _ => ⟨nofun, fun _ => ⟨fun _ => ⟨rfl, k13⟩, nofun⟩⟩⟩
  obtain ⟨c, q, rfl, cd4, k4, hq⟩ := hgood (by omega)
  have hs4 := k4.size
  -- the reference's disk, apart from the program's
  have rr4 : RdR h4 u (RDk.new 8) rp (cdFoot c da pl q) := rr.frame k4 (by simp) fun b hb => (List.mem_append.1 hb).elim (fun h => .inr (hq b h)) .inl
  refine ⟨_, _, rfl, by kernel_rfl, (rcNew_ok rr4 (fun b hb => cd4.lt b hb) size (by omega) (by omega)).mono ?_⟩
  rintro _ h5 ⟨w, rfl, hw, rf5, k5⟩
  have cd5 : CD h5 c da (Dk.new 8) (Ck.new size) pl q := cd4.keep k5 (by simp)
  have hs5 := k5.size
  refine ⟨_, _, rfl, nofun, fun _ => ⟨nofun, fun _ => ⟨nofun, fun _ => ?_⟩⟩⟩
  show (0 ≤ (if (50 : Int) < (sl : Int) then (50 : Int) else (sl : Int)) ∧ (if (50 : Int) < (sl : Int) then (50 : Int) else (sl : Int)) ≤ (sc : Int)) ∧ _
  have hlc := hops.1
  obtain ⟨m, hm, hm50, hml⟩ : ∃ m : Nat, (if (50 : Int) < (sl : Int) then (50 : Int) else (sl : Int)) = (m : Int) ∧ m ≤ 50 ∧ m ≤ sl := by
    by_cases h50 : (50 : Int) < (sl : Int)
    · exact ⟨50, by rw [if_pos h50]; rfl, by omega, by omega⟩
    · exact ⟨sl, by rw [if_neg h50], by omega, by omega⟩
  rw [hm, Int.toNat_natCast]
  refine ⟨⟨by omega, by omega⟩, fun i hh => ∃ (j : Nat) (D : Dk) (K : Ck) (p : Pl) (q : Cp) (C : RCk) (rq : Rq) (E : RDk) (rp : Rp), i = j ∧ j ≤ m ∧ CD hh c da D K p q ∧ Ref hh w u C rq E rp (cdFoot c da p q) ∧ Sim D K E C (2 * j) ∧ Keep h hh [] ∧ ∀ b ∈ cdFoot c da p q ++ (rq.mut w ++ rp.mut u), h.size ≤ b,
    fun i _ => (m - i).toNat, ⟨0, _, _, pl, q, _, _, _, rp, rfl, by omega, cd5, rf5, Sim.start size (by omega), (k13.trans' k4).trans' k5, fun b hb => ?_⟩, ?_⟩
  · rcases List.mem_append.1 hb with hb | hb
    · rcases List.mem_append.1 hb with hb | hb
      · have := hq b hb; omega
      · exact hpl b hb
    · rcases List.mem_append.1 hb with hb | hb
      · simp only [Rq.mut, blks, List.mem_singleton] at hb
        omega
      · have := hrp b hb; omega
  rintro _ h6 ⟨j, D, K, p, q, C, rq, E, rp, rfl, hj, cd, rf, s, k6, hnew⟩
  refine ⟨fun e => ?_, fun _ => ⟨rfl, k6⟩⟩
  have hjm : j < m := by have := of_decide_eq_true e; omega
  obtain ⟨a, oD, oP, oC, oN, rfl, hrow, hC, hN⟩ := hops.at k6 (i := j) (by omega)
  have wj : IntKind.wrap .i64 ((j : Int) + 1) = ((j + 1 : Nat) : Int) := by rw [w64 _ (by omega) (by omega)]; rfl
  refine ⟨⟨by omega, by omega⟩, oD, oP, oC, oN, by simpa using hrow, fun n1 h7' hn1 hh7' => ⟨rfl, by simp [isCell], ?_, nofun, fun h7 hh7 => ?_⟩⟩
  all_goals have b0 : Blk h7' n1 [.int .i64 (Int.ofNat 0), .int .i64 (Int.ofNat 0), .int .u8 (Int.ofNat 0), .int .i64 (Int.ofNat 0)] := by rw [hh7', hn1]; exact Blk.new _ _ _
  · exact b0.okRow (by simp)
  have k7 : Keep h6 h7 [] := by
    rw [hh7, hh7', hn1]
    exact (Keep.push _ _ []).trans (F' := [h6.size]) (Keep.updRow _ _ _ _ _ (by simp)) (by simp)
  have b7 : Blk h7 n1 [i64 oD, i64 oP, .int .u8 oC, i64 oN] := by
    have := b0.updRow (k := 0) (vs := [i64 oD, i64 oP, .int .u8 oC, i64 oN]) (by simp)
    rw [← hh7] at this
    exact this
  have hs6 := k6.size
  have hs7 := k7.size
  have hnF : n1 ∉ cdFoot c da p q ++ (rq.mut w ++ rp.mut u) := fun hm => by
    rcases List.mem_append.1 hm with hm | hm
    · have := cd.lt n1 hm; omega
    · rcases List.mem_append.1 hm with hm | hm
      · have := rf.c.lt n1 hm; omega
      · have := rf.d.lt n1 hm; omega
  refine ⟨_, _, _, _, by rw [b7.row (by simp)]; rfl, by kernel_rfl, (does_ok (cd.keep k7 (by simp)) (rf.beside k7) s (by omega) oD oP oC oN hC hN).mono ?_⟩
  rintro _ h8 ⟨rfl, D8, K8, p8, q8, C8, rq8, E8, rp8, cd8, rf8, s8, f8⟩
  have b8 := b7.keep f8.keep hnF
  have hnF8 := f8.off b7.lt hnF
  have hnC8 : n1 ∉ cdFoot c da p8 q8 := fun hm => hnF8 (List.mem_append_left _ hm)
  have e8 : E8.S.length = 8 := by rw [s8.d.st]; exact s8.eight
  have f68 : Fr h6 h8 (cdFoot c da p q ++ (rq.mut w ++ rp.mut u)) (cdFoot c da p8 q8 ++ (rq8.mut w ++ rp8.mut u)) := ⟨(k7.mono (by simp)).trans' f8.keep, fun b hb => (f8.sub b hb).imp id fun h => by omega⟩
  refine ⟨_, rfl, nofun, fun _ => ⟨_, b8.cell rfl, by kernel_rfl, (same_ok cd8 rf8 s8.k (by omega) e8 oP).mono ?_⟩⟩
  rintro _ h9 ⟨rfl, k9⟩
  have cd9 : CD h9 c da D8 K8 p8 q8 := cd8.keep k9 (by simp)
  have rf9 := rf8.beside k9
  have b9 := b8.keep k9 (by simp)
  refine ⟨_, rfl, nofun, fun _ => ⟨_, by rw [addr_add]; exact rf9.d.blk.cell rfl, by kernel_rfl, (dkOps_ok cd9.dk).mono ?_⟩⟩
  rintro _ h9 ⟨rfl, rfl⟩
  refine ⟨_, rfl, ⟨_, by rw [addr_add]; exact rf9.d.blk.cell rfl, rfl⟩, fun t1 => ?_, fun _ => ⟨_, _, _, by rw [addr_add]; exact rf9.d.blk.cell rfl, by kernel_rfl, (dWaits_ok cd9.dk).mono ?_⟩⟩
  · rw [s8.d.done] at t1; simp at t1
  rintro _ h9 ⟨rfl, rfl⟩
  refine ⟨_, rfl, ⟨_, _, _, by rw [addr_add]; exact rf9.d.blk.cell rfl, rfl⟩, fun t1 => ?_, fun _ => ?_⟩
  · rw [s8.d.ws] at t1; simp at t1
  refine readBoth cd9 rf9 s8 b9 hnC8 (fun hh => _) (fun hh => _) fun h10 p10 q10 cd10 rf10 f10 => ?_
  have f610 := (f68.beside k9).trans f10
  rw [wj]
  refine ⟨⟨j + 1, D8, K8, p10, q10, C8, rq8, E8, rp8, rfl, by omega, cd10, rf10, s8, k6.trans f610.keep fun b hb => .inr (hnew b hb), fun b hb => (f610.sub b hb).elim (hnew b) fun h => by omega⟩, ?_⟩
  show ((m : Int) - ((j + 1 : Nat) : Int)).toNat < ((m : Int) - (j : Int)).toNat
  omega

end Go.Proofs.YtfapgccnhonoiaaGreat

/- From a call over heaps to a given row: what all laws' rows need. -/
namespace Go.Proofs.YtfapgccnhonoiaaGreat
open Go.ChangeShapes Go.WideShapes Go.ChangeAt Go.RowKit

section
variable {P : Program} {H : Type} {enc : TypeId × Value → H}

theorem below_of {W W' : World} (hs : Sm W W') (k : Keep W.heap W'.heap []) : Below W.heap.size W W' :=
  ⟨hs.os, hs.tape, hs.output, k.size, fun b hb => k.same b hb (by simp)⟩

theorem trodAll_carry {W W' : World} {sp : Nat → Bool} {held : Bool} : ∀ {ts : List TypeId} {vs : List Value} {ds : List (DataW H)} {ps : List MemPlace}, DataW.TrodAll enc P W 0 sp held ts vs ds ps → (∀ p ∈ ps, W.sameAt W' p) → DataW.TrodAll enc P W' 0 sp held ts vs ds ps
  | [], [], [], _, h, _ => h
  | [], [], _ :: _, _, h, _ => h.elim
  | [], _ :: _, _, _, h, _ => h.elim
  | _ :: _, [], _, _, h, _ => h.elim
  | _ :: _, _ :: _, [], _, h, _ => h.elim
  | t :: ts, v :: vs, d :: ds, ps, h, hs => by
    obtain ⟨p, q, ⟨n, h1⟩, h2, rfl⟩ := h
    exact ⟨p, q, ⟨n, DataW.trod_carry n t _ _ h1 fun x hx => hs x (List.mem_append_left _ hx)⟩, trodAll_carry h2 fun x hx => hs x (List.mem_append_right _ hx), rfl⟩

/-- The law's row: true, and the arguments read as before. -/
theorem post_true {f : Func} {s : ChangeSpec} {W W' : World} {args : Array Value} {ds gs : List (DataW H)} {before : List MemPlace} (hK : Kids P (· < P.types.size)) (hF : ∀ t e, t < P.types.size → P.underlying t = some (.slice e) → 0 < P.cellsOf e)
    (hT : ∀ t ∈ f.params.toList, t < P.types.size) (hv : s.vars = []) (hW : DataW.Whole enc P f.params.toList s.vars false W args.toList ds gs before) (hB : Below W.heap.size W W')
    {tb : TypeId} (hrt : f.resultTypes = #[tb]) (htb : P.underlying tb = some .bool) (hres : (s.fn H (ds ++ gs)).results = [.lit (.bool true)]) (hargs : (s.fn H (ds ++ gs)).args = ds) (hvars : (s.fn H (ds ++ gs)).vars = []) :
    s.post enc P f false true false false W args (.bool true) W' := by
  have hlt := hW.lt
  have hW2 := hW
  obtain ⟨p, q, hA, hV, rfl, _, _⟩ := hW
  refine ⟨ds, gs, p ++ q, [], p, [], hW2, ?_, ?_, ?_, hB.frame _, nofun⟩
  · rw [hres, hrt]
    exact ⟨[], [], ⟨1, by simp [DataW.trod_step, DataW.trodStep, htb, Value.cells]⟩, rfl, rfl⟩
  · rw [hargs]
    refine trodAll_carry (DataW.TrodAll.respare hK hF hT hA fun x hx => ?_) fun x hx => hB.same (hlt x (List.mem_append_left _ hx))
    simpa using hlt x (List.mem_append_left _ hx)
  · rw [hvars, hv]
    rfl

/-- The call itself. -/
theorem calls_of {f : FuncId} {args : Array Value} {W : World} (hc : CallH P f args W.heap fun v h' => v = .bool true ∧ Keep W.heap h' []) {Q : Ending → World → Prop} (hq : ∀ W', Below W.heap.size W W' → Q (.returned (.bool true)) W') : Calls P f args W Q := by
  have h : CallsIn Fence.wide 0 P f args W Q := (hc W rfl).mono fun e W' ⟨v, he, hs, hv, hk⟩ => by
    rw [he, hv]
    exact hq W' (below_of hs hk)
  exact callsIn_wide.1 h

theorem row_of_cells {W : World} {a : Addr} {n : Nat} {cs : List Value} (hn : 0 < n) (h : W.cells? 0 a n = some cs) : ∃ b o, a = ⟨b, o, none⟩ ∧ b < W.heap.size ∧ rowAt W.heap a n = some cs := by
  obtain ⟨_, hlen, hcell⟩ := World.cells?_some h
  have c0 := hcell 0 (by omega)
  have e0 : a.add 0 = a := by simp [Addr.add]
  rw [e0, List.getElem?_eq_getElem (by omega)] at c0
  obtain ⟨b, o, sp⟩ := a
  have hsp : sp = none := by
    cases sp with
    | none => rfl
    | some x =>
      have : cellAt W.heap ⟨b, o, some x⟩ = some cs[0] := c0
      unfold cellAt at this
      split at this <;> simp at this
  subst hsp
  have get : ∀ i, i < n → cellAt W.heap ⟨b, o + i, none⟩ = cs[i]? := fun i hi => by
    have := hcell i hi
    rw [addr_add] at this
    exact this
  have g0 := get 0 hn
  rw [cellAt_get, List.getElem?_eq_getElem (by omega)] at g0
  cases hb : W.heap[b]? with
  | none => rw [hb] at g0; cases g0
  | some ob =>
    cases ob with
    | cells c e f =>
      refine ⟨b, o, rfl, (Array.getElem?_eq_some_iff.1 hb).1, ?_⟩
      have each : ∀ i, i < n → c[o + i]? = cs[i]? := fun i hi => by
        have := get i hi
        rw [cellAt_get, hb] at this
        exact this
      have hsz : o + n ≤ c.size := by
        have := each (n - 1) (by omega)
        rw [List.getElem?_eq_getElem (by omega)] at this
        have := (Array.getElem?_eq_some_iff.1 this).1
        omega
      unfold rowAt
      simp only [hb]
      rw [if_pos ⟨rfl, hsz⟩]
      congr 1
      apply List.ext_getElem?
      intro i
      rw [List.getElem?_take, List.getElem?_drop]
      by_cases hi : i < n
      · rw [if_pos hi, ← each i hi]
        simp
      · rw [if_neg hi, List.getElem?_eq_none (by omega)]
    | _ => rw [hb] at g0; cases g0

end
end Go.Proofs.YtfapgccnhonoiaaGreat

/- The acts of a script, each number one of its kind, out of what the given row says of the arguments. -/
namespace Go.Proofs.YtfapgccnhonoiaaGreat
open Go.ChangeShapes Go.WideShapes Go.ChangeAt Go.RowKit

section
variable {P : Program} {H : Type} {enc : TypeId × Value → H}

theorem u8_wf {n : Int} (h : (Lit.int .u8 n).wf = true) : 0 ≤ n ∧ n < 256 := by
  simp only [Lit.wf, Bool.and_eq_true, decide_eq_true_eq] at h
  have h1 : (0 : Int) ≤ n := h.1
  have h2 : n ≤ (255 : Int) := h.2
  omega

theorem i64_wf {n : Int} (h : (Lit.int .i64 n).wf = true) : n < 9223372036854775808 := by
  simp only [Lit.wf, Bool.and_eq_true, decide_eq_true_eq] at h
  have h2 : n ≤ (9223372036854775807 : Int) := h.2
  omega

theorem ops_in {W : World} {t e : TypeId} {f0 f1 f2 f3 : Field} (ht : P.underlying t = some (.slice e)) (he : P.underlying e = some (.struct #[f0, f1, f2, f3])) (ce : P.cellsOf e = 4)
    (o0 : f0.offset = 0) (o1 : f1.offset = 1) (o2 : f2.offset = 2) (o3 : f3.offset = 3) (c0 : P.cellsOf f0.type = 1) (c1 : P.cellsOf f1.type = 1) (c2 : P.cellsOf f2.type = 1) (c3 : P.cellsOf f3.type = 1)
    (u0 : P.underlying f0.type = some (.int .i64)) (u1 : P.underlying f1.type = some (.int .i64)) (u2 : P.underlying f2.type = some (.int .u8)) (u3 : P.underlying f3.type = some (.int .i64))
    {sp : Option Addr} {l c : Nat} {d : DataW H} {ps : List MemPlace} (h : DataW.Trod enc P W 0 (fun _ => true) true t (.slice sp l c) d ps) : OpsIn W.heap sp l c := by
  obtain ⟨fuel, h⟩ := h
  rcases Go.Deep.open_slice ht h with ⟨hcs, _⟩ | ⟨a, len, cap, m, n, D, Pl, hcs, _, hl, _, hm, _, hx⟩
  · simp [Value.cells] at hcs
    obtain ⟨rfl, rfl, rfl⟩ := hcs
    exact ⟨Nat.le_refl _, .inl rfl⟩
  · simp [Value.cells] at hcs
    obtain ⟨rfl, rfl, rfl⟩ := hcs
    refine ⟨hl, ?_⟩
    by_cases h0 : l = 0
    · exact .inl h0
    right
    simp only [if_true] at hm
    subst hm
    have each : ∀ i, i < l → ∃ b o, a.add (i * 4) = ⟨b, o, none⟩ ∧ b < W.heap.size ∧ ∃ d p cc n, rowAt W.heap (a.add (i * 4)) 4 = some [i64 d, i64 p, .int .u8 cc, i64 n] ∧ (0 ≤ cc ∧ cc < 256) ∧ n < 9223372036854775808 := by
      intro i hi
      obtain ⟨cs', h1, h2⟩ := hx i (by omega)
      rw [ce] at h1
      obtain ⟨b, o, hab, hb, hrow⟩ := row_of_cells (by omega) h1
      obtain ⟨_, hlen, _⟩ := World.cells?_some h1
      obtain ⟨xs, k, hk, hxy, _, hxl, hf⟩ := DataW.trod_struct he h2
      refine ⟨b, o, hab, hb, ?_⟩
      match xs, hxl, cs', hlen with
      | [y0, y1, y2, y3], _, [v0, v1, v2, v3], _ =>
        have g0 := hf 0 f0 rfl
        have g1 := hf 1 f1 rfl
        have g2 := hf 2 f2 rfl
        have g3 := hf 3 f3 rfl
        simp [o0, o1, o2, o3, c0, c1, c2, c3] at g0 g1 g2 g3
        obtain ⟨n0, e0, _⟩ := DataW.trod_int u0 g0
        obtain ⟨n1, e1, _⟩ := DataW.trod_int u1 g1
        obtain ⟨n2, e2, _, w2⟩ := DataW.trod_int u2 g2
        obtain ⟨n3, e3, _, w3⟩ := DataW.trod_int u3 g3
        simp only [List.cons.injEq, and_true] at e0 e1 e2 e3
        subst e0 e1 e2 e3
        exact ⟨n0, n1, n2, n3, hrow, u8_wf w2, i64_wf w3⟩
    obtain ⟨b, o, hab, hb, _⟩ := each 0 (by omega)
    have e0 : a.add (0 * 4) = a := by simp [Addr.add]
    rw [e0] at hab
    subst hab
    refine ⟨b, o, rfl, hb, fun i hi => ?_⟩
    obtain ⟨_, _, _, _, d, p, cc, n, hrow, hb⟩ := each i hi
    rw [addr_add] at hrow
    exact ⟨d, p, cc, n, hrow, hb⟩

end
end Go.Proofs.YtfapgccnhonoiaaGreat

/- CacheDoes: for every input the law returns true, and its arguments read afterwards as before. No condition. -/
namespace Go.Proofs.YtfapgccnhonoiaaGreat
open Go.ChangeShapes Go.WideShapes Go.ChangeAt Go.RowKit

theorem own0 : ownKnob Tryz.prog.godebug = none := by kernel_rfl
theorem kids0 : Kids Tryz.prog (· < Tryz.prog.types.size) := kids_rows (by kernel_rfl) (by kernel_rfl)
theorem full0 : ∀ t e, t < Tryz.prog.types.size → Tryz.prog.underlying t = some (.slice e) → 0 < Tryz.prog.cellsOf e := slices_full_of Tryz.prog (by kernel_rfl)

theorem paramsP : Tryz.f3.params = #[3, 22] := by kernel_rfl

set_option maxRecDepth 100000 in
theorem lifted (os : Os) (started : os.Started) (H : Type) (enc : TypeId × Value → H) :
    ReturnsInHanded {} Tryz.checked os 3 .any (Rows.cacheDoesSpec.pre6 enc Tryz.prog Tryz.f3 Rows.cacheDoesRow.domain false) (Rows.cacheDoesSpec.post enc Tryz.prog Tryz.f3 false true false false) := by
  refine returnsInHanded_of_change (C := Tryz.checked) own0 started (by kernel_rfl) Tryz.func3
    (ChangeSpec.witness6 (enc := enc) (C := Tryz.checked) false ⟨#[], #[.int .i64 0, .slice none 0 0], []⟩ 8 (by kernel_rfl) (by kernel_rfl) (by kernel_rfl) (by kernel_rfl)) ?_
  intro W base args ds gs before hval0 hW hcnd _
  have hval : ∀ (j : Nat) t v, Tryz.f3.params[j]? = some t → args[j]? = some v → Value.okWide Tryz.prog W .any base t v := hval0
  have hW' := hW
  obtain ⟨p, q, hA0, hV, rfl, hfz, hnd⟩ := hW
  have hA : DataW.TrodAll enc Tryz.prog W 0 (fun _ => true) true Tryz.f3.params.toList args.toList ds p := hA0
  rw [paramsP] at hA hval
  obtain ⟨v0, v1, d0, d1, p0, p1, rfl, rfl, rfl, h0, h1⟩ := trodAll_two hA
  obtain ⟨rfl, rfl⟩ := trodVars_none hV
  obtain ⟨n, rfl, rfl, rfl, wn⟩ := open_int Tryz.underlying3 (hval 0 3 v0 rfl rfl) h0
  obtain ⟨sp, sl, sc, rfl⟩ := okWide_slice Tryz.underlying22 (hval 1 22 v1 rfl rfl)
  have hops := ops_in Tryz.underlying22 Tryz.underlying38 (by kernel_rfl) rfl rfl rfl rfl (by kernel_rfl) (by kernel_rfl) (by kernel_rfl) (by kernel_rfl) Tryz.underlying3 Tryz.underlying3 Tryz.underlying5 Tryz.underlying3 h1
  refine calls_of (CacheDoes_ok W.heap n sp sl sc hops) fun W' hB => ⟨_, rfl, ?_⟩
  exact post_true (tb := 4) kids0 full0 (by rw [paramsP]; decide +kernel) rfl hW' hB (by kernel_rfl) Tryz.underlying4 rfl rfl rfl

theorem cacheDoes_holds : Rows.CacheDoesSaid :=
  OpenClaim.holds_of_wide (p := Tryz.pinned) (s := Rows.cacheDoesSpec) (c := Rows.cacheDoesRow) 3 Tryz.f3 rfl rfl rfl rfl rfl rfl rfl ⟨rfl, rfl, rfl, rfl, rfl⟩ rfl rfl rfl rfl rfl (by kernel_rfl) Tryz.func3 (by kernel_rfl)
    (of_decide_eq_true (by kernel_rfl)) (by unfold Func.isWrapper; first | (rw [if_pos (by decide +kernel)]; kernel_rfl) | (rw [if_neg (by decide +kernel)]; exact ⟨rfl, rfl⟩))
    (fun os started H enc _ => lifted os started H enc)

end Go.Proofs.YtfapgccnhonoiaaGreat
