/-
  What each function gives when it is called: the contracts, each with the walk through its code. Written by a program of ours.
-/
import Derived.Test.YtneifoepoccjaaaGreatDoorC20
namespace Go.Proofs.YtneifoepoccjaaaGreatDoor
open Go Go.Proofs Go.Shelf
set_option maxHeartbeats 16000000
theorem c_laws_big (code : List Int) (a_code : Option Addr) (c_code : Nat) {r : Bool} (h : laws_big code = r) : CallOK Tryz.prog 6 [.slice a_code (List.length code) c_code] [] [gTab 3 pow10C, gNum 0, gErr 1, gErr 2] [SL false 5 (intS .u8) a_code c_code code] (fun v outs ros => v = .bool r ∧ outs = [] ∧ ros = []) := by
  refine fn_ok Tryz.func6 rfl Tryz.ntmps6 rfl (fun c hF0 => ?_)
  unfold laws_big at h
  refine g_sr ?_
  refine gl_batch 1 [(2, .bool false)] rfl ?_
  refine gl_nx ?_
  refine gl_batch 1 [(3, .slice a_code (List.length code) c_code)] rfl ?_
  refine gl_len rfl Fs22 rfl rfl ?_
  refine gl_batch 2 [(2, .bool (decide ((List.length code : Int) > 4096))), (5, .bool (decide ((List.length code : Int) > 4096)))] rfl ?_
  refine gl_ns ?_
  refine g_ret ?_
  subst h
  exact gx_fin rfl [.bool (decide ((List.length code : Int) > 4096))] _ _ [] ⟨_, _, rfl, rfl, rfl⟩ rfl ⟨rfl, rfl, rfl⟩ (fun w hS => (hS.take 0).facts [] [] [] noItem noItem noItem) (Or.inl rfl)

theorem c_spec_l01From (code : List Int) (a_code : Option Addr) (c_code : Nat) {r : Src} (h : spec_l01From code = some r) : CallOK Tryz.prog 36 [.slice a_code (List.length code) c_code] [] [gTab 3 pow10C, gNum 0, gErr 1, gErr 2] [SL false 5 (intS .u8) a_code c_code code] (fun v outs ros => ∃ (b0 : Nat), v = .pointer (some ⟨b0, 0, none⟩) ∧ outs = [BK 89 b0 [.slice a_code (List.length code) c_code, .int .i64 r.at_v, .int .i64 r.seed]] ∧ ros = []) := by
  refine fn_ok Tryz.func36 rfl Tryz.ntmps36 rfl (fun c hF0 => ?_)
  unfold spec_l01From at h
  refine g_sr ?_
  refine gl_batch 1 [(2, .pointer none)] rfl ?_
  refine gl_nx ?_
  refine gl_batch 1 [(5, .slice a_code (List.length code) c_code)] rfl ?_
  refine gl_run (v := .agg #[.slice a_code (List.length code) c_code, .int .i64 0, .int .i64 61403]) rfl rfl rfl (fun w => by kernel_rfl) ?_
  refine gl_new (d := 7) (T := 89) [.slice a_code (List.length code) c_code, .int .i64 0, .int .i64 61403] rfl rfl (fun _ => rfl) (fun w => by kernel_rfl) ?_
  intro b1
  refine gl_batch 1 [(3, .pointer (some ⟨b1, 0, none⟩))] rfl ?_
  refine gl_ns ?_
  refine g_seq ?_
  refine g_sr ?_
  refine gl_batch 1 [(4, .int .i64 0)] rfl ?_
  refine gl_ns ?_
  refine g_block ?_
  obtain ⟨o2, ho2, h⟩ := bindS h
  refine g_loop (spec_l01From_L1 code) (fun (ss_ : Int × Int) a w => Env a 34 [(0, .slice a_code (List.length code) c_code), (3, .pointer (some ⟨b1, 0, none⟩)), (4, .int .i64 ss_.2)] ∧ St c w [BK 89 b1 [.slice a_code (List.length code) c_code, .int .i64 0, .int .i64 ss_.1]] [gTab 3 pow10C, gNum 0, gErr 1, gErr 2] [SL false 5 (intS .u8) a_code c_code code] []) ((fun (ss_ : Int) e a w => e = (.exit 0) ∧ Env a 34 [(3, .pointer (some ⟨b1, 0, none⟩))] ∧ St c w [BK 89 b1 [.slice a_code (List.length code) c_code, .int .i64 0, .int .i64 ss_]] [gTab 3 pow10C, gNum 0, gErr 1, gErr 2] [SL false 5 (intS .u8) a_code c_code code] []) : (Int) → Exit → Act → World → Prop) ho2 ?_ ?_ ?_
  · exact fun a w hE hS => ⟨hE.sub ⟨rfl, rfl, rfl, trivial⟩, (hS.take 1).facts _ _ [] (consItem (mem_at 0 rfl) (consItem (mem_at 1 rfl) (consItem (mem_at 2 rfl) (consItem (mem_at 3 rfl) noItem)))) (consItem (mem_at 0 rfl) noItem) noItem⟩
  · intro s3 o4 h a w hA
    obtain ⟨hE, hS⟩ := hA
    unfold spec_l01From_L1 at h
    refine g_enter hE hS ?_
    refine g_seq ?_
    refine g_sr ?_
    refine gl_batch 2 [(9, .slice a_code (List.length code) c_code), (8, .int .i64 s3.2)] rfl ?_
    refine gl_len rfl Fs22 rfl rfl ?_
    refine gl_batch 2 [(12, .bool (decide (s3.2 < (List.length code : Int)))), (11, .bool (decide (s3.2 < (List.length code : Int))))] rfl ?_
    refine gl_join (EE := [(15, .bool ((decide (s3.2 < (List.length code : Int))) && (decide (s3.2 < 64)))), (0, .slice a_code (List.length code) c_code), (3, .pointer (some ⟨b1, 0, none⟩)), (4, .int .i64 s3.2)]) (RR := [BK 89 b1 [.slice a_code (List.length code) c_code, .int .i64 0, .int .i64 s3.1]]) (XX := [gTab 3 pow10C, gNum 0, gErr 1, gErr 2]) (OO := [SL false 5 (intS .u8) a_code c_code code]) (VV := []) 3 ?_ ?_
    · skip
      refine gl_case 12 rfl (fun hc => ?_) (fun hc => ?_)
      · skip
        refine gl_batch 3 [(15, .bool (decide (s3.2 < 64))), (14, .bool (decide (s3.2 < 64))), (13, .int .i64 s3.2)] rfl ?_
        refine gl_nil ?_
        exact gx_mid ⟨congrArg (fun z => some (Value.bool z)) (and_t hc).symm, rfl, rfl, rfl, trivial⟩ (fun w hS => hS)
      · skip
        refine gl_batch 3 [(15, .bool false), (14, undef), (13, undef)] rfl ?_
        refine gl_nil ?_
        exact gx_mid ⟨congrArg (fun z => some (Value.bool z)) (and_f hc).symm, rfl, rfl, rfl, trivial⟩ (fun w hS => hS)
    · skip
      refine gl_ns ?_
      refine g_cond (b := (decide (s3.2 < (List.length code : Int))) && (decide (s3.2 < 64))) rfl (fun hc => ?_) (fun hc => ?_)
      · replace h := condT hc h
        refine g_skip ?_
        refine gx_seq ?_
        refine g_seq ?_
        refine g_block ?_
        obtain ⟨x5, hx5, h⟩ := bindS h
        refine g_elemn (mem_at 1 rfl) hx5 ?_
        intro p6 hp6
        refine g_drawD 13 [[], [], [1], [2], [3], [4], [], [], [6, 7], [8], [9], [5, 10], [11]] [[3], [3], [], [], [], [], [0], [4], [], [], [], [], []] [.pointer (some ⟨b1, 0, none⟩), .pointer (some ⟨b1, 0, none⟩), .pointer (some ⟨b1, 0, none⟩), .pointer (some ⟨b1, 2, none⟩), .int .i64 s3.1, .int .i64 (IntKind.i64.wrap (s3.1 * 67)), .slice a_code (List.length code) c_code, .int .i64 s3.2, .pointer (some p6), .int .u8 x5, .int .i64 (IntKind.i64.wrap x5), .int .i64 (IntKind.i64.wrap ((IntKind.i64.wrap (s3.1 * 67)) + (IntKind.i64.wrap x5))), .int .i64 (Int.tmod (IntKind.i64.wrap ((IntKind.i64.wrap (s3.1 * 67)) + (IntKind.i64.wrap x5))) 2147483647)] mixed rfl rfl ⟨⟨⟨⟨⟨⟨⟨⟨⟨⟨⟨⟨⟨trivial, ?_⟩, ?_⟩, ?_⟩, ?_⟩, ?_⟩, ?_⟩, ?_⟩, ?_⟩, ?_⟩, ?_⟩, ?_⟩, ?_⟩, ?_⟩ ?_
        · exact obl_pure rfl rfl rfl rfl rfl rfl rfl rfl
        · exact obl_pure rfl rfl rfl rfl rfl rfl rfl rfl
        · exact obl_pure rfl rfl rfl rfl rfl rfl rfl rfl
        · refine obl_in rfl rfl rfl rfl (fun R' O' => ?_)
          refine gl_run (v := .pointer (some ⟨b1, 2, none⟩)) rfl rfl rfl (fun w => by kernel_rfl) ?_
          exact gl_dp rfl rfl rfl
        · refine obl_in rfl rfl rfl rfl (fun R' O' => ?_)
          refine gl_ld1 2 hasBK (memV (mem_at 0 rfl)) rfl rfl Fo2 rfl rfl rfl ?_
          exact gl_dp rfl rfl rfl
        · exact obl_pure rfl rfl rfl rfl rfl rfl rfl rfl
        · exact obl_pure rfl rfl rfl rfl rfl rfl rfl rfl
        · exact obl_pure rfl rfl rfl rfl rfl rfl rfl rfl
        · refine obl_in rfl rfl rfl rfl (fun R' O' => ?_)
          refine gl_idxVn (k := .i64) (memO (mem_at 0 rfl)) rfl rfl Fs22 Fz5 hx5 rfl rfl ?_
          intro p_ hp_
          obtain rfl : p6 = p_ := Option.some.inj (hp6.symm.trans hp_)
          exact gl_dp rfl rfl rfl
        · refine obl_in rfl rfl rfl rfl (fun R' O' => ?_)
          refine gl_elemVn (memO (mem_at 0 rfl)) hx5 hp6 ?_
          refine gl_ld1 0 hasAT (memV (mem_at 0 rfl)) rfl rfl Fo5 rfl rfl rfl ?_
          exact gl_dp rfl rfl rfl
        · refine obl_in rfl rfl rfl rfl (fun R' O' => ?_)
          refine gl_run (v := .int .i64 (IntKind.i64.wrap x5)) rfl rfl rfl (fun w => by kernel_rfl) ?_
          exact gl_dp rfl rfl rfl
        · exact obl_pure rfl rfl rfl rfl rfl rfl rfl rfl
        · exact obl_pure rfl rfl rfl rfl rfl rfl rfl rfl
        · skip
          refine gl_batch 1 [(31, .pointer (some ⟨b1, 0, none⟩))] rfl ?_
          refine gl_run (v := .pointer (some ⟨b1, 2, none⟩)) rfl rfl rfl (fun w => by kernel_rfl) ?_
          refine gl_stB (cells' := [.slice a_code (List.length code) c_code, .int .i64 0, .int .i64 (Int.tmod (IntKind.i64.wrap ((IntKind.i64.wrap (s3.1 * 67)) + (IntKind.i64.wrap x5))) 2147483647)]) 2 [.int .i64 (Int.tmod (IntKind.i64.wrap ((IntKind.i64.wrap (s3.1 * 67)) + (IntKind.i64.wrap x5))) 2147483647)] rfl rfl rfl Fz2 rfl rfl rfl rfl ?_
          refine gl_nil ?_
          refine gx_blk ?_
          refine gx_seq ?_
          refine g_region ?_
          refine gl_batch 3 [(4, .int .i64 (IntKind.i64.wrap (s3.2 + 1))), (17, .int .i64 (IntKind.i64.wrap (s3.2 + 1))), (16, .int .i64 s3.2)] rfl ?_
          refine gl_nil ?_
          obtain rfl := Option.some.inj h
          exact gx_of (fun a w hE hS => lp_in ⟨hE.sub ⟨rfl, rfl, rfl, trivial⟩, (hS.take 1).facts _ _ [] (consItem (mem_at 0 rfl) (consItem (mem_at 1 rfl) (consItem (mem_at 2 rfl) (consItem (mem_at 3 rfl) noItem)))) (consItem (mem_at 0 rfl) noItem) noItem⟩)
      · replace h := condF hc h
        refine g_exit ?_
        refine gx_seq_exit ?_
        obtain rfl := Option.some.inj h
        exact gx_of (fun a w hE hS => lp_out nofun (⟨rfl, hE.sub ⟨rfl, trivial⟩, (hS.take 1).facts _ _ [] (consItem (mem_at 0 rfl) (consItem (mem_at 1 rfl) (consItem (mem_at 2 rfl) (consItem (mem_at 3 rfl) noItem)))) (consItem (mem_at 0 rfl) noItem) noItem⟩))
  · intro e a w hm
    obtain ⟨rfl, hE, hS⟩ := hm
    refine gx_to hE hS ?_
    refine gx_blk_hit ?_
    refine gx_seq ?_
    refine g_sr ?_
    refine gl_batch 2 [(2, .pointer (some ⟨b1, 0, none⟩)), (33, .pointer (some ⟨b1, 0, none⟩))] rfl ?_
    refine gl_ns ?_
    refine g_ret ?_
    obtain rfl := Option.some.inj h
    exact gx_fin rfl [.pointer (some ⟨b1, 0, none⟩)] _ _ [] ⟨_, _, rfl, rfl, rfl⟩ rfl ⟨b1, rfl, rfl, rfl⟩ (fun w hS => (hS.take 1).facts [] [] [] noItem noItem noItem) (Or.inl rfl)

theorem c_spec_l01Next (s : Src) (n_v : Int) (b_s : Nat) (a_s_code : Option Addr) (c_s_code : Nat) {r : Int × Src} (h : spec_l01Next s n_v = some r) : CallOK Tryz.prog 53 [.pointer (some ⟨b_s, 0, none⟩), .int .i64 n_v] [BK 89 b_s [.slice a_s_code (List.length s.code) c_s_code, .int .i64 s.at_v, .int .i64 s.seed]] [gTab 3 pow10C, gNum 0, gErr 1, gErr 2] [SL false 5 (intS .u8) a_s_code c_s_code s.code] (fun v outs ros => v = .int .i64 r.1 ∧ outs = [BK 89 b_s [.slice a_s_code (List.length s.code) c_s_code, .int .i64 r.2.at_v, .int .i64 r.2.seed]] ∧ ros = []) := by
  refine fn_ok Tryz.func53 rfl Tryz.ntmps53 rfl (fun c hF0 => ?_)
  unfold spec_l01Next at h
  refine g_sr ?_
  refine gl_batch 1 [(4, .int .i64 0)] rfl ?_
  refine gl_ns ?_
  refine g_seq ?_
  refine g_sr ?_
  refine gl_batch 2 [(7, .bool (decide (n_v ≤ 1))), (6, .int .i64 n_v)] rfl ?_
  refine gl_ns ?_
  refine g_cond (b := decide (n_v ≤ 1)) rfl (fun hc => ?_) (fun hc => ?_)
  · replace h := condT hc h
    refine g_sr ?_
    refine gl_batch 1 [(4, .int .i64 0)] rfl ?_
    refine gl_ns ?_
    refine g_ret ?_
    refine gx_seq_ret ?_
    obtain rfl := Option.some.inj h
    exact gx_fin rfl [.int .i64 0] _ _ [] ⟨_, _, rfl, rfl, rfl⟩ rfl ⟨rfl, rfl, rfl⟩ (fun w hS => (hS.take 1).facts [] [] [] noItem noItem noItem) (Or.inl rfl)
  · replace h := condF hc h
    refine g_skip ?_
    refine gx_seq ?_
    refine g_sr ?_
    refine gl_batch 3 [(10, .pointer (some ⟨b_s, 0, none⟩)), (9, .pointer (some ⟨b_s, 0, none⟩)), (8, .pointer (some ⟨b_s, 0, none⟩))] rfl ?_
    refine gl_run (v := .pointer (some ⟨b_s, 2, none⟩)) rfl rfl rfl (fun w => by kernel_rfl) ?_
    refine gl_ld1 2 hasBK (mem_at 0 rfl) rfl rfl Fo2 rfl rfl rfl ?_
    refine gl_batch 4 [(16, .pointer (some ⟨b_s, 0, none⟩)), (15, .int .i64 (Int.tmod (IntKind.i64.wrap ((IntKind.i64.wrap (s.seed * 48271)) + 59)) 2147483647)), (14, .int .i64 (IntKind.i64.wrap ((IntKind.i64.wrap (s.seed * 48271)) + 59))), (13, .int .i64 (IntKind.i64.wrap (s.seed * 48271)))] rfl ?_
    refine gl_run (v := .pointer (some ⟨b_s, 2, none⟩)) rfl rfl rfl (fun w => by kernel_rfl) ?_
    refine gl_stB (cells' := [.slice a_s_code (List.length s.code) c_s_code, .int .i64 s.at_v, .int .i64 (Int.tmod (IntKind.i64.wrap ((IntKind.i64.wrap (s.seed * 48271)) + 59)) 2147483647)]) 2 [.int .i64 (Int.tmod (IntKind.i64.wrap ((IntKind.i64.wrap (s.seed * 48271)) + 59)) 2147483647)] rfl rfl rfl Fz2 rfl rfl rfl rfl ?_
    refine gl_nx ?_
    refine gl_batch 2 [(19, .pointer (some ⟨b_s, 0, none⟩)), (18, .pointer (some ⟨b_s, 0, none⟩))] rfl ?_
    refine gl_run (v := .pointer (some ⟨b_s, 2, none⟩)) rfl rfl rfl (fun w => by kernel_rfl) ?_
    refine gl_ld1 2 hasBK (mem_at 0 rfl) rfl rfl Fo2 rfl rfl rfl ?_
    obtain ⟨x1, hx1, h⟩ := letS h
    refine gl_batch 2 [(5, .int .i64 x1), (22, .int .i64 (IntKind.i64.wrap (Int.tdiv (Int.tmod (IntKind.i64.wrap ((IntKind.i64.wrap (s.seed * 48271)) + 59)) 2147483647) 31)))] (by subst hx1; rfl) ?_
    refine gl_ns ?_
    obtain ⟨o2, ho2, h⟩ := bindS h
    refine g_mid (M := ((fun ss_ e a w => e = .normal ∧ Env a 78 [(1, .int .i64 n_v), (5, .int .i64 ss_.1)] ∧ St c w [BK 89 b_s [.slice a_s_code (List.length s.code) c_s_code, .int .i64 ss_.2, .int .i64 (Int.tmod (IntKind.i64.wrap ((IntKind.i64.wrap (s.seed * 48271)) + 59)) 2147483647)]] [gTab 3 pow10C, gNum 0, gErr 1, gErr 2] [SL false 5 (intS .u8) a_s_code c_s_code s.code] []) : (Int × Int) → Exit → Act → World → Prop) o2) ?_ ?_
    · replace h := ho2
      refine g_seq ?_
      refine g_drawD 10 [[], [0], [1], [2], [], [4], [5], [6], [7], [3, 8]] [[0], [], [], [], [0], [], [], [], [], []] [.pointer (some ⟨b_s, 0, none⟩), .pointer (some ⟨b_s, 0, none⟩), .pointer (some ⟨b_s, 1, none⟩), .int .i64 s.at_v, .pointer (some ⟨b_s, 0, none⟩), .pointer (some ⟨b_s, 0, none⟩), .pointer (some ⟨b_s, 0, none⟩), .slice a_s_code (List.length s.code) c_s_code, .int .i64 (List.length s.code : Int), .bool (decide (s.at_v < (List.length s.code : Int)))] mixed rfl rfl ⟨⟨⟨⟨⟨⟨⟨⟨⟨⟨trivial, ?_⟩, ?_⟩, ?_⟩, ?_⟩, ?_⟩, ?_⟩, ?_⟩, ?_⟩, ?_⟩, ?_⟩ ?_
      · exact obl_pure rfl rfl rfl rfl rfl rfl rfl rfl
      · exact obl_pure rfl rfl rfl rfl rfl rfl rfl rfl
      · refine obl_in rfl rfl rfl rfl (fun R' O' => ?_)
        refine gl_run (v := .pointer (some ⟨b_s, 1, none⟩)) rfl rfl rfl (fun w => by kernel_rfl) ?_
        exact gl_dp rfl rfl rfl
      · refine obl_in rfl rfl rfl rfl (fun R' O' => ?_)
        refine gl_ld1 1 hasBK (memV (mem_at 0 rfl)) rfl rfl Fo3 rfl rfl rfl ?_
        exact gl_dp rfl rfl rfl
      · exact obl_pure rfl rfl rfl rfl rfl rfl rfl rfl
      · exact obl_pure rfl rfl rfl rfl rfl rfl rfl rfl
      · refine obl_in rfl rfl rfl rfl (fun R' O' => ?_)
        refine gl_run (v := .pointer (some ⟨b_s, 0, none⟩)) rfl rfl rfl (fun w => by kernel_rfl) ?_
        exact gl_dp rfl rfl rfl
      · refine obl_in rfl rfl rfl rfl (fun R' O' => ?_)
        refine gl_ld1 0 hasBK (memV (mem_at 0 rfl)) rfl rfl Fo22 rfl rfl rfl ?_
        exact gl_dp rfl rfl rfl
      · refine obl_in rfl rfl rfl rfl (fun R' O' => ?_)
        refine gl_len rfl Fs22 rfl rfl ?_
        exact gl_dp rfl rfl rfl
      · exact obl_pure rfl rfl rfl rfl rfl rfl rfl rfl
      · skip
        refine gl_ns ?_
        refine g_cond (b := decide (s.at_v < (List.length s.code : Int))) rfl (fun hc => ?_) (fun hc => ?_)
        · replace h := condT hc h
          refine g_seq ?_
          obtain ⟨x3, hx3, h⟩ := bindS h
          refine g_elemn (mem_at 1 rfl) hx3 ?_
          intro p4 hp4
          refine g_drawD 14 [[], [], [1], [2], [3], [], [5], [6], [7], [4, 8], [9], [10], [0, 11], [0, 12]] [[5], [0], [], [], [], [0], [], [], [], [], [], [], [], []] [.int .i64 x1, .pointer (some ⟨b_s, 0, none⟩), .pointer (some ⟨b_s, 0, none⟩), .pointer (some ⟨b_s, 0, none⟩), .slice a_s_code (List.length s.code) c_s_code, .pointer (some ⟨b_s, 0, none⟩), .pointer (some ⟨b_s, 0, none⟩), .pointer (some ⟨b_s, 1, none⟩), .int .i64 s.at_v, .pointer (some p4), .int .u8 x3, .int .i64 (IntKind.i64.wrap x3), .int .i64 (IntKind.i64.wrap (x1 + (IntKind.i64.wrap x3))), .int .i64 (IntKind.i64.wrap (x1 + (IntKind.i64.wrap x3)))] mixed rfl rfl ⟨⟨⟨⟨⟨⟨⟨⟨⟨⟨⟨⟨⟨⟨trivial, ?_⟩, ?_⟩, ?_⟩, ?_⟩, ?_⟩, ?_⟩, ?_⟩, ?_⟩, ?_⟩, ?_⟩, ?_⟩, ?_⟩, ?_⟩, ?_⟩ ?_
          · exact obl_pure rfl rfl rfl rfl rfl rfl rfl rfl
          · exact obl_pure rfl rfl rfl rfl rfl rfl rfl rfl
          · exact obl_pure rfl rfl rfl rfl rfl rfl rfl rfl
          · refine obl_in rfl rfl rfl rfl (fun R' O' => ?_)
            refine gl_run (v := .pointer (some ⟨b_s, 0, none⟩)) rfl rfl rfl (fun w => by kernel_rfl) ?_
            exact gl_dp rfl rfl rfl
          · refine obl_in rfl rfl rfl rfl (fun R' O' => ?_)
            refine gl_ld1 0 hasBK (memV (mem_at 0 rfl)) rfl rfl Fo22 rfl rfl rfl ?_
            exact gl_dp rfl rfl rfl
          · exact obl_pure rfl rfl rfl rfl rfl rfl rfl rfl
          · exact obl_pure rfl rfl rfl rfl rfl rfl rfl rfl
          · refine obl_in rfl rfl rfl rfl (fun R' O' => ?_)
            refine gl_run (v := .pointer (some ⟨b_s, 1, none⟩)) rfl rfl rfl (fun w => by kernel_rfl) ?_
            exact gl_dp rfl rfl rfl
          · refine obl_in rfl rfl rfl rfl (fun R' O' => ?_)
            refine gl_ld1 1 hasBK (memV (mem_at 0 rfl)) rfl rfl Fo3 rfl rfl rfl ?_
            exact gl_dp rfl rfl rfl
          · refine obl_in rfl rfl rfl rfl (fun R' O' => ?_)
            refine gl_idxVn (k := .i64) (memO (mem_at 0 rfl)) rfl rfl Fs22 Fz5 hx3 rfl rfl ?_
            intro p_ hp_
            obtain rfl : p4 = p_ := Option.some.inj (hp4.symm.trans hp_)
            exact gl_dp rfl rfl rfl
          · refine obl_in rfl rfl rfl rfl (fun R' O' => ?_)
            refine gl_elemVn (memO (mem_at 0 rfl)) hx3 hp4 ?_
            refine gl_ld1 0 hasAT (memV (mem_at 0 rfl)) rfl rfl Fo5 rfl rfl rfl ?_
            exact gl_dp rfl rfl rfl
          · refine obl_in rfl rfl rfl rfl (fun R' O' => ?_)
            refine gl_run (v := .int .i64 (IntKind.i64.wrap x3)) rfl rfl rfl (fun w => by kernel_rfl) ?_
            exact gl_dp rfl rfl rfl
          · exact obl_pure rfl rfl rfl rfl rfl rfl rfl rfl
          · exact obl_pure rfl rfl rfl rfl rfl rfl rfl rfl
          · skip
            refine gl_nx ?_
            refine gl_batch 2 [(47, .pointer (some ⟨b_s, 0, none⟩)), (46, .pointer (some ⟨b_s, 0, none⟩))] rfl ?_
            refine gl_run (v := .pointer (some ⟨b_s, 1, none⟩)) rfl rfl rfl (fun w => by kernel_rfl) ?_
            refine gl_ld1 1 hasBK (mem_at 0 rfl) rfl rfl Fo3 rfl rfl rfl ?_
            refine gl_batch 2 [(51, .pointer (some ⟨b_s, 0, none⟩)), (50, .int .i64 (IntKind.i64.wrap (s.at_v + 1)))] rfl ?_
            refine gl_run (v := .pointer (some ⟨b_s, 1, none⟩)) rfl rfl rfl (fun w => by kernel_rfl) ?_
            refine gl_stB (cells' := [.slice a_s_code (List.length s.code) c_s_code, .int .i64 (IntKind.i64.wrap (s.at_v + 1)), .int .i64 (Int.tmod (IntKind.i64.wrap ((IntKind.i64.wrap (s.seed * 48271)) + 59)) 2147483647)]) 1 [.int .i64 (IntKind.i64.wrap (s.at_v + 1))] rfl rfl rfl Fz3 rfl rfl rfl rfl ?_
            refine gl_nx ?_
            refine gl_batch 3 [(55, .bool (decide (n_v ≤ 256))), (54, .bool (decide (n_v ≤ 256))), (53, .int .i64 n_v)] rfl ?_
            refine gl_join (EE := [(62, .bool ((decide (n_v ≤ 256)) && ((Int.tmod (IntKind.i64.wrap (s.at_v + 1)) 2) == 0))), (0, .pointer (some ⟨b_s, 0, none⟩)), (1, .int .i64 n_v), (5, .int .i64 (IntKind.i64.wrap (x1 + (IntKind.i64.wrap x3))))]) (RR := [BK 89 b_s [.slice a_s_code (List.length s.code) c_s_code, .int .i64 (IntKind.i64.wrap (s.at_v + 1)), .int .i64 (Int.tmod (IntKind.i64.wrap ((IntKind.i64.wrap (s.seed * 48271)) + 59)) 2147483647)]]) (XX := [gTab 3 pow10C, gNum 0, gErr 1, gErr 2]) (OO := [SL false 5 (intS .u8) a_s_code c_s_code s.code]) (VV := []) 7 ?_ ?_
            · skip
              refine gl_case 55 rfl (fun hc => ?_) (fun hc => ?_)
              · skip
                refine gl_batch 2 [(57, .pointer (some ⟨b_s, 0, none⟩)), (56, .pointer (some ⟨b_s, 0, none⟩))] rfl ?_
                refine gl_run (v := .pointer (some ⟨b_s, 1, none⟩)) rfl rfl rfl (fun w => by kernel_rfl) ?_
                refine gl_ld1 1 hasBK (mem_at 0 rfl) rfl rfl Fo3 rfl rfl rfl ?_
                refine gl_batch 3 [(62, .bool ((Int.tmod (IntKind.i64.wrap (s.at_v + 1)) 2) == 0)), (61, .bool ((Int.tmod (IntKind.i64.wrap (s.at_v + 1)) 2) == 0)), (60, .int .i64 (Int.tmod (IntKind.i64.wrap (s.at_v + 1)) 2))] rfl ?_
                refine gl_nil ?_
                exact gx_mid ⟨congrArg (fun z => some (Value.bool z)) (and_t hc).symm, rfl, rfl, rfl, trivial⟩ (fun w hS => hS)
              · skip
                refine gl_batch 7 [(62, .bool false), (61, undef), (60, undef), (59, undef), (58, undef), (57, undef), (56, undef)] rfl ?_
                refine gl_nil ?_
                exact gx_mid ⟨congrArg (fun z => some (Value.bool z)) (and_f hc).symm, rfl, rfl, rfl, trivial⟩ (fun w hS => hS)
            · skip
              refine gl_ns ?_
              refine g_cond (b := (decide (n_v ≤ 256)) && ((Int.tmod (IntKind.i64.wrap (s.at_v + 1)) 2) == 0)) rfl (fun hc => ?_) (fun hc => ?_)
              · replace h := condT hc h
                refine g_drawD 9 [[], [0], [0, 1], [0, 1, 2], [], [4], [4, 5], [4, 5, 6], [4, 5, 6, 7]] [[0], [], [], [], [0], [], [], [], []] [.pointer (some ⟨b_s, 0, none⟩), .pointer (some ⟨b_s, 0, none⟩), .pointer (some ⟨b_s, 0, none⟩), .slice a_s_code (List.length s.code) c_s_code, .pointer (some ⟨b_s, 0, none⟩), .pointer (some ⟨b_s, 0, none⟩), .pointer (some ⟨b_s, 1, none⟩), .int .i64 (IntKind.i64.wrap (s.at_v + 1)), .int .i64 (IntKind.i64.wrap ((IntKind.i64.wrap (s.at_v + 1)) - 1))] mixed rfl rfl ⟨⟨⟨⟨⟨⟨⟨⟨⟨trivial, ?_⟩, ?_⟩, ?_⟩, ?_⟩, ?_⟩, ?_⟩, ?_⟩, ?_⟩, ?_⟩ ?_
                · exact obl_pure rfl rfl rfl rfl rfl rfl rfl rfl
                · exact obl_pure rfl rfl rfl rfl rfl rfl rfl rfl
                · refine obl_in rfl rfl rfl rfl (fun R' O' => ?_)
                  refine gl_run (v := .pointer (some ⟨b_s, 0, none⟩)) rfl rfl rfl (fun w => by kernel_rfl) ?_
                  exact gl_dp rfl rfl rfl
                · refine obl_in rfl rfl rfl rfl (fun R' O' => ?_)
                  refine gl_ld1 0 hasBK (memV (mem_at 0 rfl)) rfl rfl Fo22 rfl rfl rfl ?_
                  exact gl_dp rfl rfl rfl
                · exact obl_pure rfl rfl rfl rfl rfl rfl rfl rfl
                · exact obl_pure rfl rfl rfl rfl rfl rfl rfl rfl
                · refine obl_in rfl rfl rfl rfl (fun R' O' => ?_)
                  refine gl_run (v := .pointer (some ⟨b_s, 1, none⟩)) rfl rfl rfl (fun w => by kernel_rfl) ?_
                  exact gl_dp rfl rfl rfl
                · refine obl_in rfl rfl rfl rfl (fun R' O' => ?_)
                  refine gl_ld1 1 hasBK (memV (mem_at 0 rfl)) rfl rfl Fo3 rfl rfl rfl ?_
                  exact gl_dp rfl rfl rfl
                · exact obl_pure rfl rfl rfl rfl rfl rfl rfl rfl
                · skip
                  obtain ⟨x5, hx5, h⟩ := bindS h
                  refine gl_idxOn (k := .i64) (mem_at 0 rfl) rfl rfl Fs22 Fz5 hx5 rfl rfl ?_
                  intro p6
                  refine gl_ld1 0 hasAT (mem_at 1 rfl) rfl rfl Fo5 rfl rfl rfl ?_
                  refine gl_run (v := .int .i64 (IntKind.i64.wrap x5)) rfl rfl rfl (fun w => by kernel_rfl) ?_
                  refine gl_batch 1 [(5, .int .i64 (IntKind.i64.wrap x5))] rfl ?_
                  refine gl_nil ?_
                  obtain rfl := Option.some.inj h
                  exact gx_of (fun a w hE hS => ⟨rfl, hE.sub ⟨rfl, rfl, trivial⟩, (hS.take 1).facts _ _ [] (consItem (mem_at 0 rfl) (consItem (mem_at 1 rfl) (consItem (mem_at 2 rfl) (consItem (mem_at 3 rfl) noItem)))) (consItem (mem_at 1 rfl) noItem) noItem⟩)
              · replace h := condF hc h
                refine g_skip ?_
                obtain rfl := Option.some.inj h
                exact gx_of (fun a w hE hS => ⟨rfl, hE.sub ⟨rfl, rfl, trivial⟩, (hS.take 1).facts _ _ [] (consItem (mem_at 0 rfl) (consItem (mem_at 1 rfl) (consItem (mem_at 2 rfl) (consItem (mem_at 3 rfl) noItem)))) (consItem (mem_at 0 rfl) noItem) noItem⟩)
        · replace h := condF hc h
          refine g_skip ?_
          obtain rfl := Option.some.inj h
          exact gx_of (fun a w hE hS => ⟨rfl, hE.sub ⟨rfl, rfl, trivial⟩, (hS.take 1).facts _ _ [] (consItem (mem_at 0 rfl) (consItem (mem_at 1 rfl) (consItem (mem_at 2 rfl) (consItem (mem_at 3 rfl) noItem)))) (consItem (mem_at 0 rfl) noItem) noItem⟩)
    · intro e a w hm
      obtain ⟨rfl, hE, hS⟩ := hm
      refine gx_to hE hS ?_
      refine gx_seq ?_
      refine g_sr ?_
      refine gl_batch 2 [(76, .int .i64 n_v), (75, .int .i64 o2.1)] rfl ?_
      obtain ⟨z7, hz7, h⟩ := bindS h
      refine gl_rem rfl rfl hz7 rfl rfl ?_
      refine gl_batch 1 [(4, .int .i64 z7)] rfl ?_
      refine gl_ns ?_
      refine g_ret ?_
      obtain rfl := Option.some.inj h
      exact gx_fin rfl [.int .i64 z7] _ _ [] ⟨_, _, rfl, rfl, rfl⟩ rfl ⟨rfl, rfl, rfl⟩ (fun w hS => (hS.take 1).facts [] [] [] noItem noItem noItem) (Or.inl rfl)

theorem c_spec_l01In (n_v : Int) (low : Int) (high : Int)  {r : Bool} (h : spec_l01In n_v low high = r) : CallOK Tryz.prog 72 [.int .i64 n_v, .int .i64 low, .int .i64 high] [] [gTab 3 pow10C, gNum 0, gErr 1, gErr 2] [] (fun v outs ros => v = .bool r ∧ outs = [] ∧ ros = []) := by
  refine fn_ok Tryz.func72 rfl Tryz.ntmps72 rfl (fun c hF0 => ?_)
  unfold spec_l01In at h
  refine g_sr ?_
  refine gl_batch 1 [(6, .bool false)] rfl ?_
  refine gl_nx ?_
  refine gl_batch 4 [(10, .bool (decide (n_v ≥ low))), (9, .bool (decide (n_v ≥ low))), (8, .int .i64 low), (7, .int .i64 n_v)] rfl ?_
  refine gl_join (EE := [(14, .bool ((decide (n_v ≥ low)) && (decide (n_v ≤ high))))]) (RR := []) (XX := [gTab 3 pow10C, gNum 0, gErr 1, gErr 2]) (OO := []) (VV := []) 4 ?_ ?_
  · skip
    refine gl_case 10 rfl (fun hc => ?_) (fun hc => ?_)
    · skip
      refine gl_batch 4 [(14, .bool (decide (n_v ≤ high))), (13, .bool (decide (n_v ≤ high))), (12, .int .i64 high), (11, .int .i64 n_v)] rfl ?_
      refine gl_nil ?_
      exact gx_mid ⟨congrArg (fun z => some (Value.bool z)) (and_t hc).symm, trivial⟩ (fun w hS => hS)
    · skip
      refine gl_batch 4 [(14, .bool false), (13, undef), (12, undef), (11, undef)] rfl ?_
      refine gl_nil ?_
      exact gx_mid ⟨congrArg (fun z => some (Value.bool z)) (and_f hc).symm, trivial⟩ (fun w hS => hS)
  · skip
    refine gl_batch 1 [(6, .bool ((decide (n_v ≥ low)) && (decide (n_v ≤ high))))] rfl ?_
    refine gl_ns ?_
    refine g_ret ?_
    subst h
    exact gx_fin rfl [.bool ((decide (n_v ≥ low)) && (decide (n_v ≤ high)))] _ _ [] ⟨_, _, rfl, rfl, rfl⟩ rfl ⟨rfl, rfl, rfl⟩ (fun w hS => (hS.take 0).facts [] [] [] noItem noItem noItem) (Or.inl rfl)

theorem c_spec_l14Count (run : List Firing) (event : Int) (a_run : Option Addr) (c_run : Nat) {r : Int} (h : spec_l14Count run event = some r) : CallOK Tryz.prog 70 [.slice a_run (List.length run) c_run, .int .i64 event] [] [gTab 3 pow10C, gNum 0, gErr 1, gErr 2] [SL false 39 FiringS a_run c_run run] (fun v outs ros => v = .int .i64 r ∧ outs = [] ∧ ros = []) := by
  refine fn_ok Tryz.func70 rfl Tryz.ntmps70 rfl (fun c hF0 => ?_)
  unfold spec_l14Count at h
  refine g_sr ?_
  refine gl_batch 1 [(4, .int .i64 0)] rfl ?_
  refine gl_nx ?_
  refine gl_batch 1 [(5, .int .i64 0)] rfl ?_
  refine gl_ns ?_
  refine g_seq ?_
  refine g_sr ?_
  refine gl_batch 1 [(6, .int .i64 0)] rfl ?_
  refine gl_ns ?_
  refine g_block ?_
  obtain ⟨o1, ho1, h⟩ := bindS h
  refine g_loop (spec_l14Count_L1 run event) (fun (ss_ : Int × Int) a w => Env a 23 [(0, .slice a_run (List.length run) c_run), (1, .int .i64 event), (5, .int .i64 ss_.1), (6, .int .i64 ss_.2)] ∧ St c w [] [gTab 3 pow10C, gNum 0, gErr 1, gErr 2] [SL false 39 FiringS a_run c_run run] []) ((fun (ss_ : Int) e a w => e = (.exit 0) ∧ Env a 23 [(5, .int .i64 ss_)] ∧ St c w [] [gTab 3 pow10C, gNum 0, gErr 1, gErr 2] [SL false 39 FiringS a_run c_run run] []) : (Int) → Exit → Act → World → Prop) ho1 ?_ ?_ ?_
  · exact fun a w hE hS => ⟨hE.sub ⟨rfl, rfl, rfl, rfl, trivial⟩, (hS.take 0).facts _ _ [] (consItem (mem_at 0 rfl) (consItem (mem_at 1 rfl) (consItem (mem_at 2 rfl) (consItem (mem_at 3 rfl) noItem)))) (consItem (mem_at 0 rfl) noItem) noItem⟩
  · intro s2 o3 h a w hA
    obtain ⟨hE, hS⟩ := hA
    unfold spec_l14Count_L1 at h
    refine g_enter hE hS ?_
    refine g_seq ?_
    refine g_sr ?_
    refine gl_batch 2 [(8, .slice a_run (List.length run) c_run), (7, .int .i64 s2.2)] rfl ?_
    refine gl_len rfl Fs24 rfl rfl ?_
    refine gl_batch 1 [(10, .bool (decide (s2.2 < (List.length run : Int))))] rfl ?_
    refine gl_ns ?_
    refine g_cond (b := decide (s2.2 < (List.length run : Int))) rfl (fun hc => ?_) (fun hc => ?_)
    · replace h := condT hc h
      refine g_skip ?_
      refine gx_seq ?_
      obtain ⟨o4, ho4, h⟩ := bindS h
      refine g_mid (M := ((fun ss_ e a w => e = .normal ∧ Env a 23 [(0, .slice a_run (List.length run) c_run), (1, .int .i64 event), (5, .int .i64 ss_), (6, .int .i64 s2.2)] ∧ St c w [] [gTab 3 pow10C, gNum 0, gErr 1, gErr 2] [SL false 39 FiringS a_run c_run run] []) : (Int) → Exit → Act → World → Prop) o4) ?_ ?_
      · replace h := ho4
        refine g_block ?_
        refine g_sr ?_
        refine gl_batch 2 [(14, .int .i64 s2.2), (13, .slice a_run (List.length run) c_run)] rfl ?_
        obtain ⟨x5, hx5, h⟩ := bindS h
        refine gl_idxOn (k := .i64) (mem_at 0 rfl) rfl rfl Fs24 Fz39 hx5 rfl rfl ?_
        intro p6
        refine gl_run (v := .pointer (some p6)) rfl rfl rfl (fun w => by kernel_rfl) ?_
        refine gl_ld1 0 hasAT (mem_at 0 rfl) rfl rfl Fo2 rfl rfl rfl ?_
        refine gl_batch 2 [(19, .bool (x5.Event == event)), (18, .int .i64 event)] rfl ?_
        refine gl_ns ?_
        refine g_cond (b := x5.Event == event) rfl (fun hc => ?_) (fun hc => ?_)
        · replace h := condT hc h
          refine g_region ?_
          refine gl_batch 3 [(5, .int .i64 (IntKind.i64.wrap (s2.1 + 1))), (21, .int .i64 (IntKind.i64.wrap (s2.1 + 1))), (20, .int .i64 s2.1)] rfl ?_
          refine gl_nil ?_
          refine gx_blk ?_
          obtain rfl := Option.some.inj h
          exact gx_of (fun a w hE hS => ⟨rfl, hE.sub ⟨rfl, rfl, rfl, rfl, trivial⟩, (hS.take 0).facts _ _ [] (consItem (mem_at 0 rfl) (consItem (mem_at 1 rfl) (consItem (mem_at 2 rfl) (consItem (mem_at 3 rfl) noItem)))) (consItem (mem_at 1 rfl) noItem) noItem⟩)
        · replace h := condF hc h
          refine g_skip ?_
          refine gx_blk ?_
          obtain rfl := Option.some.inj h
          exact gx_of (fun a w hE hS => ⟨rfl, hE.sub ⟨rfl, rfl, rfl, rfl, trivial⟩, (hS.take 0).facts _ _ [] (consItem (mem_at 0 rfl) (consItem (mem_at 1 rfl) (consItem (mem_at 2 rfl) (consItem (mem_at 3 rfl) noItem)))) (consItem (mem_at 1 rfl) noItem) noItem⟩)
      · intro e a w hm
        obtain ⟨rfl, hE, hS⟩ := hm
        refine gx_to hE hS ?_
        refine gx_seq ?_
        refine g_region ?_
        refine gl_batch 3 [(6, .int .i64 (IntKind.i64.wrap (s2.2 + 1))), (12, .int .i64 (IntKind.i64.wrap (s2.2 + 1))), (11, .int .i64 s2.2)] rfl ?_
        refine gl_nil ?_
        obtain rfl := Option.some.inj h
        exact gx_of (fun a w hE hS => lp_in ⟨hE.sub ⟨rfl, rfl, rfl, rfl, trivial⟩, (hS.take 0).facts _ _ [] (consItem (mem_at 0 rfl) (consItem (mem_at 1 rfl) (consItem (mem_at 2 rfl) (consItem (mem_at 3 rfl) noItem)))) (consItem (mem_at 0 rfl) noItem) noItem⟩)
    · replace h := condF hc h
      refine g_exit ?_
      refine gx_seq_exit ?_
      obtain rfl := Option.some.inj h
      exact gx_of (fun a w hE hS => lp_out nofun (⟨rfl, hE.sub ⟨rfl, trivial⟩, (hS.take 0).facts _ _ [] (consItem (mem_at 0 rfl) (consItem (mem_at 1 rfl) (consItem (mem_at 2 rfl) (consItem (mem_at 3 rfl) noItem)))) (consItem (mem_at 0 rfl) noItem) noItem⟩))
  · intro e a w hm
    obtain ⟨rfl, hE, hS⟩ := hm
    refine gx_to hE hS ?_
    refine gx_blk_hit ?_
    refine gx_seq ?_
    refine g_sr ?_
    refine gl_batch 2 [(4, .int .i64 o1), (22, .int .i64 o1)] rfl ?_
    refine gl_ns ?_
    refine g_ret ?_
    obtain rfl := Option.some.inj h
    exact gx_fin rfl [.int .i64 o1] _ _ [] ⟨_, _, rfl, rfl, rfl⟩ rfl ⟨rfl, rfl, rfl⟩ (fun w hS => (hS.take 0).facts [] [] [] noItem noItem noItem) (Or.inl rfl)

theorem c_spec_l14Find (run : List Firing) (event : Int) (number : Int) (a_run : Option Addr) (c_run : Nat) {r : Int × Bool} (h : spec_l14Find run event number = some r) : CallOK Tryz.prog 95 [.slice a_run (List.length run) c_run, .int .i64 event, .int .i64 number] [] [gTab 3 pow10C, gNum 0, gErr 1, gErr 2] [SL false 39 FiringS a_run c_run run] (fun v outs ros => v = .tuple #[.int .i64 r.1, .bool r.2] ∧ outs = [] ∧ ros = []) := by
  refine fn_ok Tryz.func95 rfl Tryz.ntmps95 rfl (fun c hF0 => ?_)
  unfold spec_l14Find at h
  refine g_sr ?_
  refine gl_batch 2 [(7, .bool false), (6, .int .i64 0)] rfl ?_
  refine gl_ns ?_
  refine g_seq ?_
  refine g_sr ?_
  refine gl_batch 1 [(8, .int .i64 0)] rfl ?_
  refine gl_ns ?_
  refine g_block ?_
  obtain ⟨o1, ho1, h⟩ := bindS h
  refine g_loop (spec_l14Find_L1 run event number) (fun (ss_ : Int) a w => Env a 36 [(0, .slice a_run (List.length run) c_run), (1, .int .i64 event), (2, .int .i64 number), (8, .int .i64 ss_)] ∧ St c w [] [gTab 3 pow10C, gNum 0, gErr 1, gErr 2] [SL false 39 FiringS a_run c_run run] []) (Sum.elim (fun (ss_ : Int) e a w => e = .ret ∧ Env a 36 [(6, .int .i64 ss_), (7, .bool true)] ∧ St c w [] [gTab 3 pow10C, gNum 0, gErr 1, gErr 2] [SL false 39 FiringS a_run c_run run] []) (fun (ss_ : Unit) e a w => e = (.exit 0) ∧ Env a 36 [] ∧ St c w [] [gTab 3 pow10C, gNum 0, gErr 1, gErr 2] [SL false 39 FiringS a_run c_run run] []) : (Sum Int Unit) → Exit → Act → World → Prop) ho1 ?_ ?_ ?_
  · exact fun a w hE hS => ⟨hE.sub ⟨rfl, rfl, rfl, rfl, trivial⟩, (hS.take 0).facts _ _ [] (consItem (mem_at 0 rfl) (consItem (mem_at 1 rfl) (consItem (mem_at 2 rfl) (consItem (mem_at 3 rfl) noItem)))) (consItem (mem_at 0 rfl) noItem) noItem⟩
  · intro s2 o3 h a w hA
    obtain ⟨hE, hS⟩ := hA
    unfold spec_l14Find_L1 at h
    refine g_enter hE hS ?_
    refine g_seq ?_
    refine g_sr ?_
    refine gl_batch 2 [(10, .slice a_run (List.length run) c_run), (9, .int .i64 s2)] rfl ?_
    refine gl_len rfl Fs24 rfl rfl ?_
    refine gl_batch 1 [(12, .bool (decide (s2 < (List.length run : Int))))] rfl ?_
    refine gl_ns ?_
    refine g_cond (b := decide (s2 < (List.length run : Int))) rfl (fun hc => ?_) (fun hc => ?_)
    · replace h := condT hc h
      refine g_skip ?_
      refine gx_seq ?_
      refine g_seq ?_
      refine g_block ?_
      refine g_sr ?_
      refine gl_batch 2 [(16, .int .i64 s2), (15, .slice a_run (List.length run) c_run)] rfl ?_
      obtain ⟨x4, hx4, h⟩ := bindS h
      refine gl_idxOn (k := .i64) (mem_at 0 rfl) rfl rfl Fs24 Fz39 hx4 rfl rfl ?_
      intro p5
      refine gl_run (v := .pointer (some p5)) rfl rfl rfl (fun w => by kernel_rfl) ?_
      refine gl_ld1 0 hasAT (mem_at 0 rfl) rfl rfl Fo2 rfl rfl rfl ?_
      refine gl_batch 3 [(22, .bool (x4.Event == event)), (21, .bool (x4.Event == event)), (20, .int .i64 event)] rfl ?_
      obtain ⟨q6, hq6, h⟩ := bindS h
      refine gl_join (EE := [(30, .bool q6), (0, .slice a_run (List.length run) c_run), (1, .int .i64 event), (2, .int .i64 number), (8, .int .i64 s2)]) (RR := []) (XX := [gTab 3 pow10C, gNum 0, gErr 1, gErr 2]) (OO := [AT FiringS p5 x4, SL false 39 FiringS a_run c_run run]) (VV := []) 8 ?_ ?_
      · replace h := hq6
        refine gl_case 22 rfl (fun hc => ?_) (fun hc => ?_)
        · replace h := condT hc h
          refine gl_batch 2 [(24, .int .i64 s2), (23, .slice a_run (List.length run) c_run)] rfl ?_
          obtain ⟨x7, hx7, h⟩ := bindS h
          refine gl_idxOn (k := .i64) (mem_at 1 rfl) rfl rfl Fs24 Fz39 hx7 rfl rfl ?_
          intro p8
          refine gl_run (v := .pointer (some (Addr.add p8 1))) rfl rfl rfl (fun w => by kernel_rfl) ?_
          refine gl_ld1 1 hasAT (mem_at 0 rfl) rfl rfl Fo2 rfl rfl rfl ?_
          refine gl_batch 3 [(30, .bool (x7.Number == number)), (29, .bool (x7.Number == number)), (28, .int .i64 number)] rfl ?_
          refine gl_nil ?_
          obtain rfl := Option.some.inj h
          exact gx_mid ⟨rfl, rfl, rfl, rfl, rfl, trivial⟩ (fun w hS => (hS.take 0).facts _ _ _ (consItem (mem_at 0 rfl) (consItem (mem_at 1 rfl) (consItem (mem_at 2 rfl) (consItem (mem_at 3 rfl) noItem)))) (consItem (mem_at 1 rfl) (consItem (mem_at 2 rfl) noItem)) noItem)
        · replace h := condF hc h
          refine gl_batch 8 [(30, .bool false), (29, undef), (28, undef), (27, undef), (26, undef), (25, undef), (24, undef), (23, undef)] rfl ?_
          refine gl_nil ?_
          obtain rfl := Option.some.inj h
          exact gx_mid ⟨rfl, rfl, rfl, rfl, rfl, trivial⟩ (fun w hS => hS)
      · skip
        refine gl_ns ?_
        refine g_cond (b := q6) rfl (fun hc => ?_) (fun hc => ?_)
        · replace h := condT hc h
          refine g_sr ?_
          refine gl_batch 2 [(32, .int .i64 s2), (31, .slice a_run (List.length run) c_run)] rfl ?_
          obtain ⟨x9, hx9, h⟩ := bindS h
          refine gl_idxOn (k := .i64) (mem_at 1 rfl) rfl rfl Fs24 Fz39 hx9 rfl rfl ?_
          intro p10
          refine gl_run (v := .pointer (some (Addr.add p10 2))) rfl rfl rfl (fun w => by kernel_rfl) ?_
          refine gl_ld1 2 hasAT (mem_at 0 rfl) rfl rfl Fo2 rfl rfl rfl ?_
          refine gl_batch 2 [(7, .bool true), (6, .int .i64 x9.Time)] rfl ?_
          refine gl_ns ?_
          refine g_ret ?_
          refine gx_blk_ret ?_
          refine gx_seq_ret ?_
          obtain rfl := Option.some.inj h
          exact gx_of (fun a w hE hS => lp_out nofun (inL ⟨rfl, hE.sub ⟨rfl, rfl, trivial⟩, (hS.take 0).facts _ _ [] (consItem (mem_at 0 rfl) (consItem (mem_at 1 rfl) (consItem (mem_at 2 rfl) (consItem (mem_at 3 rfl) noItem)))) (consItem (mem_at 2 rfl) noItem) noItem⟩))
        · replace h := condF hc h
          refine g_skip ?_
          refine gx_blk ?_
          refine gx_seq ?_
          refine g_region ?_
          refine gl_batch 3 [(8, .int .i64 (IntKind.i64.wrap (s2 + 1))), (14, .int .i64 (IntKind.i64.wrap (s2 + 1))), (13, .int .i64 s2)] rfl ?_
          refine gl_nil ?_
          obtain rfl := Option.some.inj h
          exact gx_of (fun a w hE hS => lp_in ⟨hE.sub ⟨rfl, rfl, rfl, rfl, trivial⟩, (hS.take 0).facts _ _ [] (consItem (mem_at 0 rfl) (consItem (mem_at 1 rfl) (consItem (mem_at 2 rfl) (consItem (mem_at 3 rfl) noItem)))) (consItem (mem_at 1 rfl) noItem) noItem⟩)
    · replace h := condF hc h
      refine g_exit ?_
      refine gx_seq_exit ?_
      obtain rfl := Option.some.inj h
      exact gx_of (fun a w hE hS => lp_out nofun (inR ⟨rfl, hE.sub trivial, (hS.take 0).facts _ _ [] (consItem (mem_at 0 rfl) (consItem (mem_at 1 rfl) (consItem (mem_at 2 rfl) (consItem (mem_at 3 rfl) noItem)))) (consItem (mem_at 0 rfl) noItem) noItem⟩))
  · intro e a w hm
    rcases o1 with s11 | s12
    · replace h := elimL h
      obtain ⟨rfl, hE, hS⟩ := hm
      refine gx_to hE hS ?_
      refine gx_blk_ret ?_
      refine gx_seq_ret ?_
      obtain rfl := Option.some.inj h
      exact gx_fin rfl [.int .i64 s11, .bool true] _ _ [] ⟨_, _, rfl, rfl, _, _, rfl, rfl, rfl⟩ rfl ⟨rfl, rfl, rfl⟩ (fun w hS => (hS.take 0).facts [] [] [] noItem noItem noItem) (Or.inl rfl)
    · replace h := elimR h
      obtain ⟨rfl, hE, hS⟩ := hm
      refine gx_to hE hS ?_
      refine gx_blk_hit ?_
      refine gx_seq ?_
      refine g_sr ?_
      refine gl_batch 2 [(7, .bool false), (6, .int .i64 0)] rfl ?_
      refine gl_ns ?_
      refine g_ret ?_
      obtain rfl := Option.some.inj h
      exact gx_fin rfl [.int .i64 0, .bool false] _ _ [] ⟨_, _, rfl, rfl, _, _, rfl, rfl, rfl⟩ rfl ⟨rfl, rfl, rfl⟩ (fun w hS => (hS.take 0).facts [] [] [] noItem noItem noItem) (Or.inl rfl)

theorem c_spec_l14Long (n_v : Int)  {r : List Firing} (h : spec_l14Long n_v = some r) : CallOK Tryz.prog 83 [.int .i64 n_v] [] [gTab 3 pow10C, gNum 0, gErr 1, gErr 2] [] (fun v outs ros => ∃ (a0 : Option Addr), ∃ (c0 : Nat), v = .slice a0 (List.length r) c0 ∧ outs = [SL false 39 FiringS a0 c0 r] ∧ ros = []) := by
  refine fn_ok Tryz.func83 rfl Tryz.ntmps83 rfl (fun c hF0 => ?_)
  unfold spec_l14Long at h
  refine g_sr ?_
  refine gl_batch 1 [(2, .slice none 0 0)] rfl ?_
  refine gl_nx ?_
  refine gl_lit (m := 3) (d := 5) (T := 39) (enc := FiringE) (hn := fun _ => rfl) false ([] : List Firing) rfl rfl (fun _ => rfl) nofun (Nat.le_of_ble_eq_true rfl) (fun w => by kernel_rfl) ?_
  intro a_v1 c_v2
  refine gl_batch 1 [(3, .slice a_v1 (List.length ([] : List Firing)) c_v2)] rfl ?_
  refine gl_ns ?_
  refine g_seq ?_
  refine g_sr ?_
  refine gl_batch 1 [(4, .int .i64 1)] rfl ?_
  refine gl_ns ?_
  refine g_block ?_
  obtain ⟨o3, ho3, h⟩ := bindS h
  refine g_loop (spec_l14Long_L1 n_v) (fun (ss_ : (List Firing) × Int) a w => ∃ (a_ss__r0 : Option Addr), ∃ (c_ss__r0 : Nat), Env a 18 [(0, .int .i64 n_v), (3, .slice a_ss__r0 (List.length ss_.1) c_ss__r0), (4, .int .i64 ss_.2)] ∧ St c w [SL false 39 FiringS a_ss__r0 c_ss__r0 ss_.1] [gTab 3 pow10C, gNum 0, gErr 1, gErr 2] [] []) ((fun (ss_ : (List Firing)) e a w => e = (.exit 0) ∧ ∃ (a_ss__r0 : Option Addr), ∃ (c_ss__r0 : Nat), Env a 18 [(3, .slice a_ss__r0 (List.length ss_) c_ss__r0)] ∧ St c w [SL false 39 FiringS a_ss__r0 c_ss__r0 ss_] [gTab 3 pow10C, gNum 0, gErr 1, gErr 2] [] []) : ((List Firing)) → Exit → Act → World → Prop) ho3 ?_ ?_ ?_
  · exact fun a w hE hS => ⟨a_v1, c_v2, hE.sub ⟨rfl, rfl, rfl, trivial⟩, (hS.take 1).facts _ _ [] (consItem (mem_at 0 rfl) (consItem (mem_at 1 rfl) (consItem (mem_at 2 rfl) (consItem (mem_at 3 rfl) noItem)))) noItem noItem⟩
  · intro s4 o5 h a w hA
    obtain ⟨a_s4_r0, c_s4_r0, hE, hS⟩ := hA
    unfold spec_l14Long_L1 at h
    refine g_enter hE hS ?_
    refine g_seq ?_
    refine g_sr ?_
    refine gl_batch 3 [(8, .bool (decide (s4.2 ≤ n_v))), (7, .int .i64 n_v), (6, .int .i64 s4.2)] rfl ?_
    refine gl_ns ?_
    refine g_cond (b := decide (s4.2 ≤ n_v)) rfl (fun hc => ?_) (fun hc => ?_)
    · replace h := condT hc h
      refine g_skip ?_
      refine gx_seq ?_
      refine g_seq ?_
      refine g_block ?_
      refine g_region ?_
      refine gl_batch 3 [(13, .int .i64 s4.2), (12, .int .i64 s4.2), (11, .slice a_s4_r0 (List.length s4.1) c_s4_r0)] rfl ?_
      refine gl_run (v := .agg #[.int .i64 0, .int .i64 s4.2, .int .i64 s4.2]) rfl rfl rfl (fun w => by kernel_rfl) ?_
      refine gl_lit (m := 3) (d := 15) (T := 39) (enc := FiringE) (hn := fun _ => rfl) false [(⟨0, s4.2, s4.2⟩ : Firing)] rfl rfl (fun _ => rfl) nofun (Nat.le_of_ble_eq_true rfl) (fun w => by kernel_rfl) ?_
      intro a_v6 c_v7
      refine gl_pick 1 rfl ?_
      obtain ⟨z8, hz8, h⟩ := bindS h
      refine gl_appn (mem_at 1 rfl) rfl rfl Fs24 Fi39 rfl rfl (fun _ => rfl) hz8 rfl rfl ?_
      intro a_v9 c_v10
      refine gl_batch 1 [(3, .slice a_v9 (List.length z8) c_v10)] rfl ?_
      refine gl_nil ?_
      refine gx_blk ?_
      refine gx_seq ?_
      refine g_region ?_
      refine gl_batch 3 [(4, .int .i64 (IntKind.i64.wrap (s4.2 + 1))), (10, .int .i64 (IntKind.i64.wrap (s4.2 + 1))), (9, .int .i64 s4.2)] rfl ?_
      refine gl_nil ?_
      obtain rfl := Option.some.inj h
      exact gx_of (fun a w hE hS => lp_in ⟨a_v9, c_v10, hE.sub ⟨rfl, rfl, rfl, trivial⟩, (hS.take 1).facts _ _ [] (consItem (mem_at 0 rfl) (consItem (mem_at 1 rfl) (consItem (mem_at 2 rfl) (consItem (mem_at 3 rfl) noItem)))) noItem noItem⟩)
    · replace h := condF hc h
      refine g_exit ?_
      refine gx_seq_exit ?_
      obtain rfl := Option.some.inj h
      exact gx_of (fun a w hE hS => lp_out nofun (⟨rfl, a_s4_r0, c_s4_r0, hE.sub ⟨rfl, trivial⟩, (hS.take 1).facts _ _ [] (consItem (mem_at 0 rfl) (consItem (mem_at 1 rfl) (consItem (mem_at 2 rfl) (consItem (mem_at 3 rfl) noItem)))) noItem noItem⟩))
  · intro e a w hm
    obtain ⟨rfl, a_o3_r0, c_o3_r0, hE, hS⟩ := hm
    refine gx_to hE hS ?_
    refine gx_blk_hit ?_
    refine gx_seq ?_
    refine g_sr ?_
    refine gl_batch 2 [(2, .slice a_o3_r0 (List.length o3) c_o3_r0), (17, .slice a_o3_r0 (List.length o3) c_o3_r0)] rfl ?_
    refine gl_ns ?_
    refine g_ret ?_
    obtain rfl := Option.some.inj h
    exact gx_fin rfl [.slice a_o3_r0 (List.length o3) c_o3_r0] _ _ [] ⟨_, _, rfl, rfl, rfl⟩ rfl ⟨a_o3_r0, c_o3_r0, rfl, rfl, rfl⟩ (fun w hS => (hS.take 1).facts [] [] [] noItem noItem noItem) (Or.inl rfl)

theorem c_impl_within (n_v : Int) (low : Int) (high : Int)  {r : Bool} (h : impl_within n_v low high = r) : CallOK Tryz.prog 60 [.int .i64 n_v, .int .i64 low, .int .i64 high] [] [gTab 3 pow10C, gNum 0, gErr 1, gErr 2] [] (fun v outs ros => v = .bool r ∧ outs = [] ∧ ros = []) := by
  refine fn_ok Tryz.func60 rfl Tryz.ntmps60 rfl (fun c hF0 => ?_)
  unfold impl_within at h
  refine g_sr ?_
  refine gl_batch 1 [(6, .bool false)] rfl ?_
  refine gl_nx ?_
  refine gl_batch 4 [(10, .bool (decide (n_v ≥ low))), (9, .bool (decide (n_v ≥ low))), (8, .int .i64 low), (7, .int .i64 n_v)] rfl ?_
  refine gl_join (EE := [(14, .bool ((decide (n_v ≥ low)) && (decide (n_v ≤ high))))]) (RR := []) (XX := [gTab 3 pow10C, gNum 0, gErr 1, gErr 2]) (OO := []) (VV := []) 4 ?_ ?_
  · skip
    refine gl_case 10 rfl (fun hc => ?_) (fun hc => ?_)
    · skip
      refine gl_batch 4 [(14, .bool (decide (n_v ≤ high))), (13, .bool (decide (n_v ≤ high))), (12, .int .i64 high), (11, .int .i64 n_v)] rfl ?_
      refine gl_nil ?_
      exact gx_mid ⟨congrArg (fun z => some (Value.bool z)) (and_t hc).symm, trivial⟩ (fun w hS => hS)
    · skip
      refine gl_batch 4 [(14, .bool false), (13, undef), (12, undef), (11, undef)] rfl ?_
      refine gl_nil ?_
      exact gx_mid ⟨congrArg (fun z => some (Value.bool z)) (and_f hc).symm, trivial⟩ (fun w hS => hS)
  · skip
    refine gl_batch 1 [(6, .bool ((decide (n_v ≥ low)) && (decide (n_v ≤ high))))] rfl ?_
    refine gl_ns ?_
    refine g_ret ?_
    subst h
    exact gx_fin rfl [.bool ((decide (n_v ≥ low)) && (decide (n_v ≤ high)))] _ _ [] ⟨_, _, rfl, rfl, rfl⟩ rfl ⟨rfl, rfl, rfl⟩ (fun w hS => (hS.take 0).facts [] [] [] noItem noItem noItem) (Or.inl rfl)

theorem c_strconv_FormatInt (i : Int) (base : Int)  {r : List UInt8} (h : strconv_FormatInt i base = some r) : CallOK Tryz.prog 96 [.int .i64 i, .int .i64 base] [] [gTab 3 pow10C, gNum 0, gErr 1, gErr 2] [] (fun v outs ros => v = str r ∧ outs = [] ∧ ros = []) := by
  unfold strconv_FormatInt at h
  split at h
  · rename_i hc
    obtain ⟨rfl, h0, h1⟩ := hc
    obtain rfl := Option.some.inj h
    refine ok_flat (fun w hX => (Any.strconv_FormatInt_10 Tryz.lay173 i h0 h1 w (pow10_tab gn_pow10 (hX _ (mem_at 0 rfl)))).mono ?_)
    rintro e w' ⟨rfl, k, os, rfl⟩
    exact ⟨rfl, (Keep.drewN w k []).trans (Keep.grow _ os []) (fun x hx => by cases hx)⟩
  · cases h

theorem c_strings_Builder_WriteString (x : List UInt8) (s : List UInt8) (b : Nat) {r : Int × Unit × List UInt8} (h : strings_Builder_WriteString x s = some r) : CallOK Tryz.prog 62 [.pointer (some ⟨b, 0, none⟩), str s] [BLD 94 5 b x] [gTab 3 pow10C, gNum 0, gErr 1, gErr 2] [] (fun v outs ros => v = .tuple #[.int .i64 r.1, .nilIface] ∧ outs = [BLD 94 5 b r.2.2] ∧ ros = []) := by
  unfold strings_Builder_WriteString at h
  split at h
  case isFalse => cases h
  rename_i hlen
  obtain rfl := Option.some.inj h
  have hz : appsO (toBytes x) s = some (toBytes (x ++ s)) := by
    unfold appsO
    rw [if_pos hlen]
    simp [toBytes]
  refine fn_ok Tryz.func62 rfl Tryz.ntmps62 rfl (fun c hF0 => ?_)
  refine g_openB ?_
  intro p a cp hp hcp
  refine g_seq ?_
  refine g_region ?_
  refine gl_batch 2 [(5, .nilIface), (4, .int .i64 0)] rfl ?_
  refine gl_nil ?_
  refine gx_seq ?_
  refine g_seq ?_
  refine g_region ?_
  refine gl_batch 1 [(6, .pointer (some ⟨b, 0, none⟩))] rfl ?_
  refine gl_callIn rfl rfl (fun w => by kernel_rfl) (c_copyCheck b p _ hp) (consItem (mem_at 0 rfl) (consItem (mem_at 1 rfl) (consItem (mem_at 2 rfl) (consItem (mem_at 3 rfl) noItem)))) noItem ?_
  rintro v outs ros ⟨rfl, rfl, rfl⟩
  refine ⟨_, rfl, ?_⟩
  refine gl_nil ?_
  refine gx_seq ?_
  refine g_seq ?_
  refine g_region ?_
  refine gl_batch 3 [(10, .pointer (some ⟨b, 0, none⟩)), (9, .pointer (some ⟨b, 0, none⟩)), (8, .pointer (some ⟨b, 0, none⟩))] rfl ?_
  refine gl_run (v := .pointer (some ⟨b, 1, none⟩)) rfl rfl rfl (fun w => by kernel_rfl) ?_
  refine gl_ld1 1 hasBK (mem_at 0 rfl) rfl rfl Fo22 rfl rfl rfl ?_
  refine gl_batch 1 [(13, str s)] rfl ?_
  refine gl_pick 1 rfl ?_
  refine gl_apps rfl rfl Fs22 Ft9 Fi5 hz rfl rfl ?_
  intro a2 c2
  refine gl_batch 1 [(15, .pointer (some ⟨b, 0, none⟩))] rfl ?_
  refine gl_run (v := .pointer (some ⟨b, 1, none⟩)) rfl rfl rfl (fun w => by kernel_rfl) ?_
  refine gl_pick 1 rfl ?_
  refine gl_stB (cells' := [.pointer (some ⟨b, 0, none⟩), .slice a2 (toBytes (x ++ s)).length c2]) 1 [.slice a2 (toBytes (x ++ s)).length c2] rfl rfl rfl Fz22 rfl rfl rfl rfl ?_
  refine gl_nil ?_
  refine gx_seq ?_
  refine g_seq ?_
  refine g_region ?_
  refine gl_batch 1 [(17, str s)] rfl ?_
  refine gl_slen (s := s) rfl Ft9 rfl rfl ?_
  refine gl_batch 2 [(5, .nilIface), (4, .int .i64 (List.length s : Int))] rfl ?_
  refine gl_nil ?_
  refine gx_seq ?_
  refine g_ret ?_
  exact gx_fin rfl [.int .i64 (List.length s : Int), .nilIface] _ _ [] ⟨_, _, rfl, rfl, _, _, rfl, rfl, rfl⟩ rfl ⟨rfl, rfl, rfl⟩ (fun w hS => ((St.closeB rfl (Or.inr rfl) hS).take 1).facts [] [] [] noItem noItem noItem) (Or.inl rfl)

theorem c_strings_Builder_String (x : List UInt8) (b : Nat) {r : List UInt8} (h : strings_Builder_String x = r) : CallOK Tryz.prog 63 [.pointer (some ⟨b, 0, none⟩)] [BLD 94 5 b x] [gTab 3 pow10C, gNum 0, gErr 1, gErr 2] [] (fun v outs ros => v = str r ∧ outs = [] ∧ ros = []) := by
  have hr : x = r := h
  subst hr
  refine fn_ok Tryz.func63 rfl Tryz.ntmps63 rfl (fun c hF0 => ?_)
  refine g_openB ?_
  intro p a cp hp hcp
  refine g_seq ?_
  refine g_region ?_
  refine gl_batch 1 [(2, str [])] rfl ?_
  refine gl_nil ?_
  refine gx_seq ?_
  refine g_seq ?_
  refine g_state (E' := [(2, str []), (0, .pointer (some ⟨b, 0, none⟩))]) (Rs' := [SL true 5 (intS .u8) a cp (toBytes x)] ++ [BK 94 b [p, .slice a (toBytes x).length cp]]) (Xs' := [gTab 3 pow10C, gNum 0, gErr 1, gErr 2]) (Os' := []) (Vs' := []) ⟨rfl, rfl, trivial⟩ (fun w hS => hS.pick 1 rfl) ?_
  refine g_draw (Rs := [BK 94 b [p, .slice a (toBytes x).length cp]]) 11 (dOf [[], [0], [1], [2], [3], [], [5], [6], [7], [8], [4, 9]]) (spOf [det 0 (.pointer (some ⟨b, 0, none⟩)), det 1 (.pointer (some ⟨b, 0, none⟩)), det 2 (.pointer (some ⟨b, 1, none⟩)), det 3 (.slice a (toBytes x).length cp), det 4 (.pointer a), det 5 (.pointer (some ⟨b, 0, none⟩)), det 6 (.pointer (some ⟨b, 0, none⟩)), det 7 (.pointer (some ⟨b, 1, none⟩)), det 8 (.slice a (toBytes x).length cp), det 9 (.int .i64 (List.length (toBytes x) : Int)), det 10 (str x)]) [10] (fun k _ => match k with | 0 => [SL true 5 (intS .u8) a cp (toBytes x)] | _ => []) (fun _ => [(2, str []), (0, .pointer (some ⟨b, 0, none⟩))]) mixed rfl (Or.inr rfl) ⟨⟨⟨⟨⟨⟨⟨⟨⟨⟨⟨trivial, ⟨rfl, rfl, trivial⟩⟩, ⟨rfl, rfl, trivial⟩⟩, ⟨rfl, rfl, trivial⟩⟩, ⟨rfl, rfl, trivial⟩⟩, ⟨rfl, rfl, trivial⟩⟩, ⟨rfl, rfl, trivial⟩⟩, ⟨rfl, rfl, trivial⟩⟩, ⟨rfl, rfl, trivial⟩⟩, ⟨rfl, rfl, trivial⟩⟩, ⟨rfl, rfl, trivial⟩⟩, ⟨rfl, rfl, trivial⟩⟩ rfl ⟨⟨⟨⟨⟨⟨⟨⟨⟨⟨⟨trivial, ?_⟩, ?_⟩, ?_⟩, ?_⟩, ?_⟩, ?_⟩, ?_⟩, ?_⟩, ?_⟩, ?_⟩, ?_⟩ ?_
  · intro vals E' R' O' hD
    refine gl_batch 1 [(3, .pointer (some ⟨b, 0, none⟩))] rfl ?_
    refine gl_nil ?_
    exact gx_fp _ rfl rfl rfl rfl st_det0
  · intro vals E' R' O' hD
    have h0 : vals 0 = .pointer (some ⟨b, 0, none⟩) := hD 0 (memN 0 rfl)
    refine gl_convV (E2 := (3, .pointer (some ⟨b, 0, none⟩)) :: ([(2, str []), (0, .pointer (some ⟨b, 0, none⟩))] ++ E')) (V2 := [BK 94 b [p, .slice a (toBytes x).length cp]]) (by show (3, vals 0) :: ([(2, str []), (0, .pointer (some ⟨b, 0, none⟩))] ++ E') = _; rw [h0]) rfl ?_
    refine gl_batch 1 [(4, .pointer (some ⟨b, 0, none⟩))] rfl ?_
    refine gl_nil ?_
    exact gx_fp _ rfl rfl rfl rfl st_det0
  · intro vals E' R' O' hD
    have h1 : vals 1 = .pointer (some ⟨b, 0, none⟩) := hD 1 (memN 0 rfl)
    refine gl_convV (E2 := (4, .pointer (some ⟨b, 0, none⟩)) :: ([(2, str []), (0, .pointer (some ⟨b, 0, none⟩))] ++ E')) (V2 := [BK 94 b [p, .slice a (toBytes x).length cp]]) (by show (4, vals 1) :: ([(2, str []), (0, .pointer (some ⟨b, 0, none⟩))] ++ E') = _; rw [h1]) rfl ?_
    refine gl_run (v := .pointer (some ⟨b, 1, none⟩)) rfl rfl rfl (fun w => by kernel_rfl) ?_
    refine gl_nil ?_
    exact gx_fp _ rfl rfl rfl rfl st_det0
  · intro vals E' R' O' hD
    have h2 : vals 2 = .pointer (some ⟨b, 1, none⟩) := hD 2 (memN 0 rfl)
    refine gl_convV (E2 := (5, .pointer (some ⟨b, 1, none⟩)) :: ([(2, str []), (0, .pointer (some ⟨b, 0, none⟩))] ++ E')) (V2 := [BK 94 b [p, .slice a (toBytes x).length cp]]) (by show (5, vals 2) :: ([(2, str []), (0, .pointer (some ⟨b, 0, none⟩))] ++ E') = _; rw [h2]) rfl ?_
    refine gl_ld1 1 hasBK (memV (mem_at 0 rfl)) rfl rfl Fo22 rfl rfl rfl ?_
    refine gl_nil ?_
    exact gx_fp _ rfl rfl rfl rfl st_det0
  · intro vals E' R' O' hD
    have h3 : vals 3 = .slice a (toBytes x).length cp := hD 3 (memN 0 rfl)
    refine gl_convV (E2 := (6, .slice a (toBytes x).length cp) :: ([(2, str []), (0, .pointer (some ⟨b, 0, none⟩))] ++ E')) (V2 := [BK 94 b [p, .slice a (toBytes x).length cp]]) (by show (6, vals 3) :: ([(2, str []), (0, .pointer (some ⟨b, 0, none⟩))] ++ E') = _; rw [h3]) rfl ?_
    refine gl_usd rfl hcp rfl rfl ?_
    refine gl_nil ?_
    exact gx_fp _ rfl rfl rfl rfl st_det0
  · intro vals E' R' O' hD
    refine gl_batch 1 [(8, .pointer (some ⟨b, 0, none⟩))] rfl ?_
    refine gl_nil ?_
    exact gx_fp _ rfl rfl rfl rfl st_det0
  · intro vals E' R' O' hD
    have h5 : vals 5 = .pointer (some ⟨b, 0, none⟩) := hD 5 (memN 0 rfl)
    refine gl_convV (E2 := (8, .pointer (some ⟨b, 0, none⟩)) :: ([(2, str []), (0, .pointer (some ⟨b, 0, none⟩))] ++ E')) (V2 := [BK 94 b [p, .slice a (toBytes x).length cp]]) (by show (8, vals 5) :: ([(2, str []), (0, .pointer (some ⟨b, 0, none⟩))] ++ E') = _; rw [h5]) rfl ?_
    refine gl_batch 1 [(9, .pointer (some ⟨b, 0, none⟩))] rfl ?_
    refine gl_nil ?_
    exact gx_fp _ rfl rfl rfl rfl st_det0
  · intro vals E' R' O' hD
    have h6 : vals 6 = .pointer (some ⟨b, 0, none⟩) := hD 6 (memN 0 rfl)
    refine gl_convV (E2 := (9, .pointer (some ⟨b, 0, none⟩)) :: ([(2, str []), (0, .pointer (some ⟨b, 0, none⟩))] ++ E')) (V2 := [BK 94 b [p, .slice a (toBytes x).length cp]]) (by show (9, vals 6) :: ([(2, str []), (0, .pointer (some ⟨b, 0, none⟩))] ++ E') = _; rw [h6]) rfl ?_
    refine gl_run (v := .pointer (some ⟨b, 1, none⟩)) rfl rfl rfl (fun w => by kernel_rfl) ?_
    refine gl_nil ?_
    exact gx_fp _ rfl rfl rfl rfl st_det0
  · intro vals E' R' O' hD
    have h7 : vals 7 = .pointer (some ⟨b, 1, none⟩) := hD 7 (memN 0 rfl)
    refine gl_convV (E2 := (10, .pointer (some ⟨b, 1, none⟩)) :: ([(2, str []), (0, .pointer (some ⟨b, 0, none⟩))] ++ E')) (V2 := [BK 94 b [p, .slice a (toBytes x).length cp]]) (by show (10, vals 7) :: ([(2, str []), (0, .pointer (some ⟨b, 0, none⟩))] ++ E') = _; rw [h7]) rfl ?_
    refine gl_ld1 1 hasBK (memV (mem_at 0 rfl)) rfl rfl Fo22 rfl rfl rfl ?_
    refine gl_nil ?_
    exact gx_fp _ rfl rfl rfl rfl st_det0
  · intro vals E' R' O' hD
    have h8 : vals 8 = .slice a (toBytes x).length cp := hD 8 (memN 0 rfl)
    refine gl_convV (E2 := (11, .slice a (toBytes x).length cp) :: ([(2, str []), (0, .pointer (some ⟨b, 0, none⟩))] ++ E')) (V2 := [BK 94 b [p, .slice a (toBytes x).length cp]]) (by show (11, vals 8) :: ([(2, str []), (0, .pointer (some ⟨b, 0, none⟩))] ++ E') = _; rw [h8]) rfl ?_
    refine gl_len rfl Fs22 rfl rfl ?_
    refine gl_nil ?_
    exact gx_fp _ rfl rfl rfl rfl st_det0
  · intro vals E' R' O' hD hR
    have h4 : vals 4 = .pointer a := hD 4 (memN 0 rfl)
    have h9 : vals 9 = .int .i64 (List.length (toBytes x) : Int) := hD 9 (memN 1 rfl)
    refine gl_convV (E2 := (7, .pointer a) :: (12, .int .i64 (List.length (toBytes x) : Int)) :: ([(2, str []), (0, .pointer (some ⟨b, 0, none⟩))] ++ E')) (V2 := [BK 94 b [p, .slice a (toBytes x).length cp]]) (by show (7, vals 4) :: (12, vals 9) :: ([(2, str []), (0, .pointer (some ⟨b, 0, none⟩))] ++ E') = _; rw [h4, h9]) rfl ?_
    refine gl_ustr rfl rfl Fp127 Fq5 rfl rfl ?_
    refine gl_nil ?_
    exact gx_fp _ rfl rfl rfl rfl st_det0
  · intro vals hv
    obtain ⟨⟨⟨⟨⟨⟨⟨⟨⟨⟨⟨_, h0⟩, h1⟩, h2⟩, h3⟩, h4⟩, h5⟩, h6⟩, h7⟩, h8⟩, h9⟩, h10⟩ := hv
    have h0 : vals 0 = .pointer (some ⟨b, 0, none⟩) := h0
    have h1 : vals 1 = .pointer (some ⟨b, 0, none⟩) := h1
    have h2 : vals 2 = .pointer (some ⟨b, 1, none⟩) := h2
    have h3 : vals 3 = .slice a (toBytes x).length cp := h3
    have h4 : vals 4 = .pointer a := h4
    have h5 : vals 5 = .pointer (some ⟨b, 0, none⟩) := h5
    have h6 : vals 6 = .pointer (some ⟨b, 0, none⟩) := h6
    have h7 : vals 7 = .pointer (some ⟨b, 1, none⟩) := h7
    have h8 : vals 8 = .slice a (toBytes x).length cp := h8
    have h9 : vals 9 = .int .i64 (List.length (toBytes x) : Int) := h9
    have h10 : vals 10 = str x := h10
    refine gl_conv (E2 := (3, .pointer (some ⟨b, 0, none⟩)) :: (4, .pointer (some ⟨b, 0, none⟩)) :: (5, .pointer (some ⟨b, 1, none⟩)) :: (6, .slice a (toBytes x).length cp) :: (7, .pointer a) :: (8, .pointer (some ⟨b, 0, none⟩)) :: (9, .pointer (some ⟨b, 0, none⟩)) :: (10, .pointer (some ⟨b, 1, none⟩)) :: (11, .slice a (toBytes x).length cp) :: (12, .int .i64 (List.length (toBytes x) : Int)) :: (13, str x) :: [(2, str []), (0, .pointer (some ⟨b, 0, none⟩))]) (R2 := [BK 94 b [p, .slice a (toBytes x).length cp]]) (O2 := []) (by show (3, vals 0) :: (4, vals 1) :: (5, vals 2) :: (6, vals 3) :: (7, vals 4) :: (8, vals 5) :: (9, vals 6) :: (10, vals 7) :: (11, vals 8) :: (12, vals 9) :: (13, vals 10) :: [(2, str []), (0, .pointer (some ⟨b, 0, none⟩))] = _; rw [h0, h1, h2, h3, h4, h5, h6, h7, h8, h9, h10]) rfl rfl ?_
    refine gl_batch 1 [(2, str x)] rfl ?_
    refine gl_nil ?_
    refine gx_seq ?_
    refine g_ret ?_
    exact gx_fin rfl [str x] _ _ [] ⟨_, _, rfl, rfl, rfl⟩ rfl ⟨rfl, rfl, rfl⟩ (fun w hS => (hS.take 0).facts [] [] [] noItem noItem noItem) (Or.inl rfl)

theorem c_spec_l28Next (chain : Int) (f : Firing)  {r : Int} (h : spec_l28Next chain f = r) : CallOK Tryz.prog 40 [.int .i64 chain, .agg #[.int .i64 f.Event, .int .i64 f.Number, .int .i64 f.Time]] [] [gTab 3 pow10C, gNum 0, gErr 1, gErr 2] [] (fun v outs ros => v = .int .i64 r ∧ outs = [] ∧ ros = []) := by
  refine fn_ok Tryz.func40 rfl Tryz.ntmps40 rfl (fun c hF0 => ?_)
  unfold spec_l28Next at h
  refine g_sr ?_
  refine gl_new (d := 3) (T := 39) [.int .i64 f.Event, .int .i64 f.Number, .int .i64 f.Time] rfl rfl (fun _ => rfl) (fun w => by kernel_rfl) ?_
  intro b1
  refine gl_batch 1 [(4, .int .i64 0)] rfl ?_
  refine gl_nx ?_
  refine gl_batch 2 [(6, .int .i64 (IntKind.i64.wrap (31 * chain))), (5, .int .i64 chain)] rfl ?_
  refine gl_run (v := .pointer (some ⟨b1, 0, none⟩)) rfl rfl rfl (fun w => by kernel_rfl) ?_
  refine gl_ld1 0 hasBK (mem_at 0 rfl) rfl rfl Fo2 rfl rfl rfl ?_
  refine gl_batch 2 [(10, .int .i64 (IntKind.i64.wrap ((IntKind.i64.wrap (31 * chain)) + (IntKind.i64.wrap (7 * f.Event))))), (9, .int .i64 (IntKind.i64.wrap (7 * f.Event)))] rfl ?_
  refine gl_run (v := .pointer (some ⟨b1, 2, none⟩)) rfl rfl rfl (fun w => by kernel_rfl) ?_
  refine gl_ld1 2 hasBK (mem_at 0 rfl) rfl rfl Fo2 rfl rfl rfl ?_
  refine gl_batch 3 [(4, .int .i64 (Int.tmod (IntKind.i64.wrap ((IntKind.i64.wrap ((IntKind.i64.wrap (31 * chain)) + (IntKind.i64.wrap (7 * f.Event)))) + f.Time)) 9973)), (14, .int .i64 (Int.tmod (IntKind.i64.wrap ((IntKind.i64.wrap ((IntKind.i64.wrap (31 * chain)) + (IntKind.i64.wrap (7 * f.Event)))) + f.Time)) 9973)), (13, .int .i64 (IntKind.i64.wrap ((IntKind.i64.wrap ((IntKind.i64.wrap (31 * chain)) + (IntKind.i64.wrap (7 * f.Event)))) + f.Time)))] rfl ?_
  refine gl_ns ?_
  refine g_ret ?_
  subst h
  exact gx_fin rfl [.int .i64 (Int.tmod (IntKind.i64.wrap ((IntKind.i64.wrap ((IntKind.i64.wrap (31 * chain)) + (IntKind.i64.wrap (7 * f.Event)))) + f.Time)) 9973)] _ _ [] ⟨_, _, rfl, rfl, rfl⟩ rfl ⟨rfl, rfl, rfl⟩ (fun w hS => (hS.take 0).facts [] [] [] noItem noItem noItem) (Or.inl rfl)

theorem c_spec_l01Dec_F (kf : Nat) : ∀ (n_v : Int)  {r : List UInt8}, spec_l01Dec_F kf n_v = some r → CallOK Tryz.prog 64 [.int .i64 n_v] [] [gTab 3 pow10C, gNum 0, gErr 1, gErr 2] [] (fun v outs ros => v = str r ∧ outs = [] ∧ ros = []) := by
  induction kf with
  | zero => intro n_v  r h; cases h
  | succ kf ih =>
  intro n_v  r h
  refine fn_ok Tryz.func64 rfl Tryz.ntmps64 rfl (fun c hF0 => ?_)
  rw [spec_l01Dec_F] at h
  refine g_sr ?_
  refine gl_batch 1 [(2, str [])] rfl ?_
  refine gl_ns ?_
  refine g_seq ?_
  refine g_sr ?_
  refine gl_batch 2 [(4, .bool (decide (n_v < 10))), (3, .int .i64 n_v)] rfl ?_
  refine gl_ns ?_
  refine g_cond (b := decide (n_v < 10)) rfl (fun hc => ?_) (fun hc => ?_)
  · replace h := condT hc h
    refine g_sr ?_
    refine gl_batch 2 [(6, .int .i64 (IntKind.i64.wrap (48 + n_v))), (5, .int .i64 n_v)] rfl ?_
    refine gl_run (v := .int .u8 (IntKind.u8.wrap (IntKind.i64.wrap (48 + n_v)))) rfl rfl rfl (fun w => by kernel_rfl) ?_
    refine gl_lit (m := 1) (d := 8) (T := 5) (enc := fun x => [.int .u8 x]) (hn := fun _ => rfl) false [IntKind.u8.wrap (IntKind.i64.wrap (48 + n_v))] rfl rfl (fun _ => rfl) nofun (Nat.le_of_ble_eq_true rfl) (fun w => by kernel_rfl) ?_
    intro a_v1 c_v2
    refine gl_b2sn (mem_at 0 rfl) rfl Fs22 Fy5 Ft9 rfl rfl ?_
    refine gl_batch 1 [(2, str (toStr [IntKind.u8.wrap (IntKind.i64.wrap (48 + n_v))]))] rfl ?_
    refine gl_ns ?_
    refine g_ret ?_
    refine gx_seq_ret ?_
    obtain rfl := Option.some.inj h
    exact gx_fin rfl [str (toStr [IntKind.u8.wrap (IntKind.i64.wrap (48 + n_v))])] _ _ [] ⟨_, _, rfl, rfl, rfl⟩ rfl ⟨rfl, rfl, rfl⟩ (fun w hS => (hS.take 0).facts [] [] [] noItem noItem noItem) (Or.inl rfl)
  · replace h := condF hc h
    refine g_skip ?_
    refine gx_seq ?_
    refine g_seq ?_
    obtain ⟨o3, ho3, h⟩ := bindS h
    obtain ⟨z6, hz6, h⟩ := bindS h
    refine g_state (E' := [(0, .int .i64 n_v)]) (Rs' := [] ++ []) (Xs' := [gTab 3 pow10C, gNum 0, gErr 1, gErr 2]) (Os' := []) (Vs' := []) ⟨rfl, trivial⟩ (fun w hS => hS) ?_
    refine g_drawM (Rs := []) 11 [[], [0], [1], [], [3], [4], [5], [6], [7], [2, 8], [9]] [[0], [], [], [0], [], [], [], [], [], [], []] [.int .i64 n_v, .int .i64 (IntKind.i64.wrap (Int.tdiv n_v 10)), str o3, .int .i64 n_v, .int .i64 (Int.tmod n_v 10), .int .i64 (IntKind.i64.wrap (48 + (Int.tmod n_v 10))), .int .u8 (IntKind.u8.wrap (IntKind.i64.wrap (48 + (Int.tmod n_v 10)))), undef, str (toStr [IntKind.u8.wrap (IntKind.i64.wrap (48 + (Int.tmod n_v 10)))]), str z6, str z6] [(7, ⟨[7], fun vals => ∃ (a_v4 : Option Addr), ∃ (c_v5 : Nat), vals 7 = .slice a_v4 (List.length [IntKind.u8.wrap (IntKind.i64.wrap (48 + (Int.tmod n_v 10)))]) c_v5, fun vals => [SL false 5 (intS .u8) (slA (vals 7)) (slC (vals 7)) [IntKind.u8.wrap (IntKind.i64.wrap (48 + (Int.tmod n_v 10)))]], fun _ => []⟩)] [] (fun _ _ => []) mixed rfl rfl ⟨⟨⟨⟨⟨⟨⟨⟨⟨⟨⟨trivial, ?_⟩, ?_⟩, ?_⟩, ?_⟩, ?_⟩, ?_⟩, ?_⟩, ?_⟩, ?_⟩, ?_⟩, ?_⟩ ?_
    · exact obl_pure rfl rfl rfl rfl rfl rfl rfl rfl
    · exact obl_pure rfl rfl rfl rfl rfl rfl rfl rfl
    · refine obl_in rfl rfl rfl rfl (fun R' O' => ?_)
      refine gl_call rfl rfl (fun w => by kernel_rfl) (ih (IntKind.i64.wrap (Int.tdiv n_v 10)) ho3) (consItem (mem_at 0 rfl) (consItem (mem_at 1 rfl) (consItem (mem_at 2 rfl) (consItem (mem_at 3 rfl) noItem)))) noItem ?_
      rintro v outs ros ⟨rfl, rfl, rfl⟩
      refine ⟨_, rfl, ?_⟩
      exact gl_dp rfl rfl rfl
    · exact obl_pure rfl rfl rfl rfl rfl rfl rfl rfl
    · exact obl_pure rfl rfl rfl rfl rfl rfl rfl rfl
    · exact obl_pure rfl rfl rfl rfl rfl rfl rfl rfl
    · refine obl_in rfl rfl rfl rfl (fun R' O' => ?_)
      refine gl_run (v := .int .u8 (IntKind.u8.wrap (IntKind.i64.wrap (48 + (Int.tmod n_v 10))))) rfl rfl rfl (fun w => by kernel_rfl) ?_
      exact gl_dp rfl rfl rfl
    · intro vals E' R' O' hD
      have h6 : vals 6 = .int .u8 (IntKind.u8.wrap (IntKind.i64.wrap (48 + (Int.tmod n_v 10)))) := hD 6 (memN 0 rfl)
      refine gl_convV (E2 := (16, .int .u8 (IntKind.u8.wrap (IntKind.i64.wrap (48 + (Int.tmod n_v 10))))) :: ([] ++ E')) (V2 := [] ++ ([] ++ [])) (by show (16, vals 6) :: ([] ++ E') = _; rw [h6]) (by show [] ++ ([] ++ []) = _; rfl) ?_
      refine gl_lit (m := 1) (d := 17) (T := 5) (enc := fun x => [.int .u8 x]) (hn := fun _ => rfl) false [IntKind.u8.wrap (IntKind.i64.wrap (48 + (Int.tmod n_v 10)))] rfl rfl (fun _ => rfl) nofun (Nat.le_of_ble_eq_true rfl) (fun w => by kernel_rfl) ?_
      intro a_v4 c_v5
      refine gl_nil ?_
      exact gx_fp (.slice a_v4 (List.length [IntKind.u8.wrap (IntKind.i64.wrap (48 + (Int.tmod n_v 10)))]) c_v5) rfl rfl rfl ⟨a_v4, c_v5, rfl⟩ (fun _ h => h.sub (fun _ h => h) (st_oo (A := [])) (fun o ho => by cases ho))
    · intro vals E' R' O' hD
      obtain ⟨a_v4, c_v5, h7⟩ : ∃ (a_v4 : Option Addr), ∃ (c_v5 : Nat), vals 7 = .slice a_v4 (List.length [IntKind.u8.wrap (IntKind.i64.wrap (48 + (Int.tmod n_v 10)))]) c_v5 := hD 7 (memN 0 rfl)
      refine gl_convV (E2 := (17, .slice a_v4 (List.length [IntKind.u8.wrap (IntKind.i64.wrap (48 + (Int.tmod n_v 10)))]) c_v5) :: ([] ++ E')) (V2 := [SL false 5 (intS .u8) a_v4 c_v5 [IntKind.u8.wrap (IntKind.i64.wrap (48 + (Int.tmod n_v 10)))]] ++ ([] ++ [])) (by show (17, vals 7) :: ([] ++ E') = _; rw [h7]) (by show [SL false 5 (intS .u8) (slA (vals 7)) (slC (vals 7)) [IntKind.u8.wrap (IntKind.i64.wrap (48 + (Int.tmod n_v 10)))]] ++ ([] ++ []) = _; rw [h7] <;> rfl) ?_
      refine gl_b2sn (memV (mem_at 0 rfl)) rfl Fs22 Fy5 Ft9 rfl rfl ?_
      refine gl_nil ?_
      exact gx_fp (str (toStr [IntKind.u8.wrap (IntKind.i64.wrap (48 + (Int.tmod n_v 10)))])) rfl rfl rfl rfl (fun _ h => h.sub (fun _ h => h) (st_oo (A := [])) (fun o ho => by cases ho))
    · refine obl_in rfl rfl rfl rfl (fun R' O' => ?_)
      refine gl_scat rfl rfl hz6 rfl rfl ?_
      exact gl_dp rfl rfl rfl
    · exact obl_pure rfl rfl rfl rfl rfl rfl rfl rfl
    · intro vals hv
      obtain ⟨⟨⟨⟨⟨⟨⟨⟨⟨⟨⟨_, h0⟩, h1⟩, h2⟩, h3⟩, h4⟩, h5⟩, h6⟩, h7⟩, h8⟩, h9⟩, h10⟩ := hv
      have h0 : vals 0 = .int .i64 n_v := h0
      have h1 : vals 1 = .int .i64 (IntKind.i64.wrap (Int.tdiv n_v 10)) := h1
      have h2 : vals 2 = str o3 := h2
      have h3 : vals 3 = .int .i64 n_v := h3
      have h4 : vals 4 = .int .i64 (Int.tmod n_v 10) := h4
      have h5 : vals 5 = .int .i64 (IntKind.i64.wrap (48 + (Int.tmod n_v 10))) := h5
      have h6 : vals 6 = .int .u8 (IntKind.u8.wrap (IntKind.i64.wrap (48 + (Int.tmod n_v 10)))) := h6
      obtain ⟨a_v4, c_v5, h7⟩ : ∃ (a_v4 : Option Addr), ∃ (c_v5 : Nat), vals 7 = .slice a_v4 (List.length [IntKind.u8.wrap (IntKind.i64.wrap (48 + (Int.tmod n_v 10)))]) c_v5 := h7
      have h8 : vals 8 = str (toStr [IntKind.u8.wrap (IntKind.i64.wrap (48 + (Int.tmod n_v 10)))]) := h8
      have h9 : vals 9 = str z6 := h9
      have h10 : vals 10 = str z6 := h10
      refine gl_conv (E2 := (10, .int .i64 n_v) :: (11, .int .i64 (IntKind.i64.wrap (Int.tdiv n_v 10))) :: (12, str o3) :: (13, .int .i64 n_v) :: (14, .int .i64 (Int.tmod n_v 10)) :: (15, .int .i64 (IntKind.i64.wrap (48 + (Int.tmod n_v 10)))) :: (16, .int .u8 (IntKind.u8.wrap (IntKind.i64.wrap (48 + (Int.tmod n_v 10))))) :: (17, .slice a_v4 (List.length [IntKind.u8.wrap (IntKind.i64.wrap (48 + (Int.tmod n_v 10)))]) c_v5) :: (18, str (toStr [IntKind.u8.wrap (IntKind.i64.wrap (48 + (Int.tmod n_v 10)))])) :: (19, str z6) :: (2, str z6) :: [(0, .int .i64 n_v)]) (R2 := [] ++ ([SL false 5 (intS .u8) a_v4 c_v5 [IntKind.u8.wrap (IntKind.i64.wrap (48 + (Int.tmod n_v 10)))]] ++ [])) (O2 := [] ++ []) (by show (10, vals 0) :: (11, vals 1) :: (12, vals 2) :: (13, vals 3) :: (14, vals 4) :: (15, vals 5) :: (16, vals 6) :: (17, vals 7) :: (18, vals 8) :: (19, vals 9) :: (2, vals 10) :: [(0, .int .i64 n_v)] = _; rw [h0, h1, h2, h3, h4, h5, h6, h7, h8, h9, h10]) (by show [] ++ ([SL false 5 (intS .u8) (slA (vals 7)) (slC (vals 7)) [IntKind.u8.wrap (IntKind.i64.wrap (48 + (Int.tmod n_v 10)))]] ++ []) = _; rw [h7] <;> rfl) rfl ?_
      refine gl_ns ?_
      refine g_ret ?_
      obtain rfl := Option.some.inj h
      exact gx_fin rfl [str z6] _ _ [] ⟨_, _, rfl, rfl, rfl⟩ rfl ⟨rfl, rfl, rfl⟩ (fun w hS => (hS.take 0).facts [] [] [] noItem noItem noItem) (Or.inl rfl)
theorem c_spec_l01Dec (n_v : Int)  {r : List UInt8} (h : spec_l01Dec n_v = some r) : CallOK Tryz.prog 64 [.int .i64 n_v] [] [gTab 3 pow10C, gNum 0, gErr 1, gErr 2] [] (fun v outs ros => v = str r ∧ outs = [] ∧ ros = []) := by
  obtain ⟨k, hk⟩ := lim_some h
  exact c_spec_l01Dec_F k n_v  hk

theorem c_strings_Cut (s : List UInt8) (sep : List UInt8)  {r : List UInt8 × List UInt8 × Bool} (h : strings_Cut s sep = some r) : CallOK Tryz.prog 65 [str s, str sep] [] [gTab 3 pow10C, gNum 0, gErr 1, gErr 2] [] (fun v outs ros => v = .tuple #[str r.1, str r.2.1, .bool r.2.2] ∧ outs = [] ∧ ros = []) := by
  unfold strings_Cut at h
  split at h
  · rename_i hc
    obtain rfl := Option.some.inj h
    refine ok_flat (fun w hX => ?_)
    obtain ⟨m, hm⟩ := gNum_cell (hX _ (mem_at 1 rfl))
    refine (Any.strings_Cut Tryz.lay145 ⟨s.toArray⟩ ⟨sep.toArray⟩ m w hc hm).mono ?_
    rintro e w' ⟨rfl, k, rfl⟩
    exact ⟨rfl, Keep.drewN w k []⟩
  · cases h

theorem c_strings_Split (s : List UInt8) (sep : List UInt8)  {r : List (List UInt8)} (h : strings_Split s sep = some r) : CallOK Tryz.prog 66 [str s, str sep] [] [gTab 3 pow10C, gNum 0, gErr 1, gErr 2] [] (fun v outs ros => ∃ (a0 : Option Addr), ∃ (c0 : Nat), v = .slice a0 (List.length r) c0 ∧ outs = [SL false 9 strS a0 c0 r] ∧ ros = []) := by
  unfold strings_Split at h
  split at h
  · rename_i hc
    obtain ⟨h0, h1, h2, h3⟩ := hc
    obtain rfl := Option.some.inj h
    refine ok_row (m := 1) (enc := fun x => [str x]) (hn := fun _ => rfl) (T := 9) (fun w hX => ?_)
    obtain ⟨m, hm⟩ := gNum_cell (hX _ (mem_at 1 rfl))
    refine (Any.strings_Split { Tryz.lay146 with } (Tryz.lay146).i9 ⟨s.toArray⟩ ⟨sep.toArray⟩ m w h0 hm h1).mono ?_
    rintro e w' ⟨rfl, rfl⟩
    generalize Lib.splitB ⟨sep.toArray⟩ 0 (Lib.countB ⟨s.toArray⟩ ⟨sep.toArray⟩) ⟨s.toArray⟩ = l at h2 ⊢
    have hl : (l.map (·.data.toList)).length = Lib.countB ⟨s.toArray⟩ ⟨sep.toArray⟩ + 1 := by rw [List.length_map]; exact h2
    have hcells : (l.map Value.string) = (l.map (·.data.toList)).flatMap (fun x => [str x]) := by
      rw [List.flatMap_map, List.map_eq_flatMap]
    rw [hcells]
    refine ⟨_, _, by rw [hl], Keep.alloc w _ [], [w.heap.size], fun S => ?_, by simp, fun b hb => ?_⟩
    · have := own_made (hn := fun _ => rfl) (enc := fun x => [str x]) false 9 (l.map (·.data.toList)) w S nofun (by rw [hl]; unfold maxLen; omega)
      rw [hl] at this
      exact this
    · have e : b = w.heap.size := by simpa using hb
      subst e
      simp
  · cases h

theorem c_strconv_ParseInt (s : List UInt8) (base : Int) (bitSize : Int)  {r : Int × Bool} (h : strconv_ParseInt s base bitSize = some r) : CallOK Tryz.prog 89 [str s, .int .i64 base, .int .i64 bitSize] [] [gTab 3 pow10C, gNum 0, gErr 1, gErr 2] [] (fun v outs ros => ∃ (ev0 : Value), ErrIs r.2 ev0 ∧ v = .tuple #[.int .i64 r.1, ev0] ∧ outs = [] ∧ ros = []) := by
  unfold strconv_ParseInt at h
  split at h
  · rename_i hc
    obtain ⟨rfl, rfl, h0⟩ := hc
    obtain rfl := Option.some.inj h
    refine ok_err (fun w hX => ?_)
    cases hp : Lib.parseIntB 64 s with
    | ok v =>
      refine (Any.strconv_ParseInt_10_at64_ok Tryz.lay174 ⟨s.toArray⟩ (by have : (ByteArray.mk s.toArray).size = s.length := rfl; omega) v hp w).mono ?_
      rintro e w' ⟨rfl, hw⟩
      refine ⟨.nilIface, Or.inl ⟨rfl, rfl⟩, rfl, ?_⟩
      rcases hw with rfl | ⟨t, rfl⟩
      · exact Keep.refl _ _
      · exact Keep.below (Lib.bytesWorld_below _ _ _)
    | range =>
      obtain ⟨ev, hv, hev⟩ := gErr_cell (hX _ (mem_at 3 rfl))
      refine (Any.strconv_ParseInt_10_at64_range Tryz.lay174 ⟨s.toArray⟩ h0 hp ev w hv hev).mono ?_
      rintro e w' ⟨N, rfl, _, _, hb⟩
      exact ⟨_, Or.inr ⟨rfl, _, _, rfl⟩, rfl, Keep.below hb⟩
    | _ =>
      obtain ⟨ev, hv, hev⟩ := gErr_cell (hX _ (mem_at 2 rfl))
      refine (Any.strconv_ParseInt_10_at64_syntax Tryz.lay174 ⟨s.toArray⟩ h0 hp ev w hv hev).mono ?_
      rintro e w' ⟨N, rfl, _, _, hb⟩
      exact ⟨_, Or.inr ⟨rfl, _, _, rfl⟩, rfl, Keep.below hb⟩
  · cases h

theorem c_spec_l01Split (s : List UInt8) (by_v : Int)  {r : List (List UInt8)} (h : spec_l01Split s by_v = some r) : CallOK Tryz.prog 68 [str s, .int .u8 by_v] [] [gTab 3 pow10C, gNum 0, gErr 1, gErr 2] [] (fun v outs ros => ∃ (a0 : Option Addr), ∃ (c0 : Nat), v = .slice a0 (List.length r) c0 ∧ outs = [SL false 9 strS a0 c0 r] ∧ ros = []) := by
  refine fn_ok Tryz.func68 rfl Tryz.ntmps68 rfl (fun c hF0 => ?_)
  unfold spec_l01Split at h
  refine g_sr ?_
  refine gl_batch 1 [(4, .slice none 0 0)] rfl ?_
  refine gl_nx ?_
  refine gl_lit (m := 1) (d := 8) (T := 9) (enc := fun x => [str x]) (hn := fun _ => rfl) false ([] : List (List UInt8)) rfl rfl (fun _ => rfl) nofun (Nat.le_of_ble_eq_true rfl) (fun w => by kernel_rfl) ?_
  intro a_v1 c_v2
  refine gl_batch 1 [(5, .slice a_v1 (List.length ([] : List (List UInt8))) c_v2)] rfl ?_
  refine gl_nx ?_
  refine gl_batch 1 [(6, .int .i64 0)] rfl ?_
  refine gl_ns ?_
  refine g_seq ?_
  refine g_sr ?_
  refine gl_batch 1 [(7, .int .i64 0)] rfl ?_
  refine gl_ns ?_
  refine g_block ?_
  obtain ⟨o3, ho3, h⟩ := bindS h
  refine g_loop (spec_l01Split_L1 s by_v) (fun (ss_ : (List (List UInt8)) × Int × Int) a w => ∃ (a_ss__r0 : Option Addr), ∃ (c_ss__r0 : Nat), Env a 36 [(0, str s), (1, .int .u8 by_v), (5, .slice a_ss__r0 (List.length ss_.1) c_ss__r0), (6, .int .i64 ss_.2.1), (7, .int .i64 ss_.2.2)] ∧ St c w [SL false 9 strS a_ss__r0 c_ss__r0 ss_.1] [gTab 3 pow10C, gNum 0, gErr 1, gErr 2] [] []) ((fun (ss_ : (List (List UInt8))) e a w => e = (.exit 0) ∧ ∃ (a_ss__r0 : Option Addr), ∃ (c_ss__r0 : Nat), Env a 36 [(5, .slice a_ss__r0 (List.length ss_) c_ss__r0)] ∧ St c w [SL false 9 strS a_ss__r0 c_ss__r0 ss_] [gTab 3 pow10C, gNum 0, gErr 1, gErr 2] [] []) : ((List (List UInt8))) → Exit → Act → World → Prop) ho3 ?_ ?_ ?_
  · exact fun a w hE hS => ⟨a_v1, c_v2, hE.sub ⟨rfl, rfl, rfl, rfl, rfl, trivial⟩, (hS.take 1).facts _ _ [] (consItem (mem_at 0 rfl) (consItem (mem_at 1 rfl) (consItem (mem_at 2 rfl) (consItem (mem_at 3 rfl) noItem)))) noItem noItem⟩
  · intro s4 o5 h a w hA
    obtain ⟨a_s4_r0, c_s4_r0, hE, hS⟩ := hA
    unfold spec_l01Split_L1 at h
    refine g_enter hE hS ?_
    refine g_seq ?_
    refine g_sr ?_
    refine gl_batch 2 [(10, str s), (9, .int .i64 s4.2.2)] rfl ?_
    refine gl_slen (s := s) rfl Ft9 rfl rfl ?_
    refine gl_batch 1 [(12, .bool (decide (s4.2.2 ≤ (List.length s : Int))))] rfl ?_
    refine gl_ns ?_
    refine g_cond (b := decide (s4.2.2 ≤ (List.length s : Int))) rfl (fun hc => ?_) (fun hc => ?_)
    · replace h := condT hc h
      refine g_skip ?_
      refine gx_seq ?_
      obtain ⟨o6, ho6, h⟩ := bindS h
      refine g_mid (M := ((fun ss_ e a w => e = .normal ∧ ∃ (a_ss__r0 : Option Addr), ∃ (c_ss__r0 : Nat), Env a 36 [(0, str s), (1, .int .u8 by_v), (5, .slice a_ss__r0 (List.length ss_.1) c_ss__r0), (6, .int .i64 ss_.2), (7, .int .i64 s4.2.2)] ∧ St c w [SL false 9 strS a_ss__r0 c_ss__r0 ss_.1] [gTab 3 pow10C, gNum 0, gErr 1, gErr 2] [] []) : ((List (List UInt8)) × Int) → Exit → Act → World → Prop) o6) ?_ ?_
      · replace h := ho6
        refine g_block ?_
        refine g_sr ?_
        refine gl_batch 2 [(16, str s), (15, .int .i64 s4.2.2)] rfl ?_
        refine gl_slen (s := s) rfl Ft9 rfl rfl ?_
        refine gl_batch 2 [(19, .bool (s4.2.2 == (List.length s : Int))), (18, .bool (s4.2.2 == (List.length s : Int)))] rfl ?_
        obtain ⟨q7, hq7, h⟩ := bindS h
        refine gl_join (EE := [(25, .bool q7), (0, str s), (1, .int .u8 by_v), (5, .slice a_s4_r0 (List.length s4.1) c_s4_r0), (6, .int .i64 s4.2.1), (7, .int .i64 s4.2.2)]) (RR := [SL false 9 strS a_s4_r0 c_s4_r0 s4.1]) (XX := [gTab 3 pow10C, gNum 0, gErr 1, gErr 2]) (OO := []) (VV := []) 6 ?_ ?_
        · replace h := hq7
          refine gl_case 19 rfl (fun hc => ?_) (fun hc => ?_)
          · replace h := condT hc h
            refine gl_batch 6 [(25, .bool true), (24, undef), (23, undef), (22, undef), (21, undef), (20, undef)] rfl ?_
            refine gl_nil ?_
            obtain rfl := Option.some.inj h
            exact gx_mid ⟨rfl, rfl, rfl, rfl, rfl, rfl, trivial⟩ (fun w hS => hS)
          · replace h := condF hc h
            refine gl_batch 2 [(21, .int .i64 s4.2.2), (20, str s)] rfl ?_
            obtain ⟨y8, hy8, h⟩ := bindS h
            refine gl_sidx (k := .i64) rfl rfl Ft9 hy8 rfl rfl ?_
            refine gl_batch 3 [(25, .bool ((y8.toNat : Int) == by_v)), (24, .bool ((y8.toNat : Int) == by_v)), (23, .int .u8 by_v)] rfl ?_
            refine gl_nil ?_
            obtain rfl := Option.some.inj h
            exact gx_mid ⟨rfl, rfl, rfl, rfl, rfl, rfl, trivial⟩ (fun w hS => hS)
        · skip
          refine gl_ns ?_
          refine g_cond (b := q7) rfl (fun hc => ?_) (fun hc => ?_)
          · replace h := condT hc h
            refine g_sr ?_
            refine gl_batch 4 [(29, .int .i64 s4.2.2), (28, .int .i64 s4.2.1), (27, str s), (26, .slice a_s4_r0 (List.length s4.1) c_s4_r0)] rfl ?_
            obtain ⟨z9, hz9, h⟩ := bindS h
            refine gl_ssub (i := s4.2.1) (j := s4.2.2) (k := .i64) (k2 := .i64) rfl rfl rfl Ft9 hz9 rfl rfl ?_
            refine gl_lit (m := 1) (d := 31) (T := 9) (enc := fun x => [str x]) (hn := fun _ => rfl) false [z9] rfl rfl (fun _ => rfl) nofun (Nat.le_of_ble_eq_true rfl) (fun w => by kernel_rfl) ?_
            intro a_v10 c_v11
            refine gl_pick 1 rfl ?_
            obtain ⟨z12, hz12, h⟩ := bindS h
            refine gl_appn (mem_at 1 rfl) rfl rfl Fs104 Fi9 rfl rfl (fun _ => rfl) hz12 rfl rfl ?_
            intro a_v13 c_v14
            refine gl_batch 1 [(5, .slice a_v13 (List.length z12) c_v14)] rfl ?_
            refine gl_ns ?_
            refine g_region ?_
            refine gl_batch 3 [(6, .int .i64 (IntKind.i64.wrap (s4.2.2 + 1))), (34, .int .i64 (IntKind.i64.wrap (s4.2.2 + 1))), (33, .int .i64 s4.2.2)] rfl ?_
            refine gl_nil ?_
            refine gx_blk ?_
            obtain rfl := Option.some.inj h
            exact gx_of (fun a w hE hS => ⟨rfl, a_v13, c_v14, hE.sub ⟨rfl, rfl, rfl, rfl, rfl, trivial⟩, (hS.take 1).facts _ _ [] (consItem (mem_at 0 rfl) (consItem (mem_at 1 rfl) (consItem (mem_at 2 rfl) (consItem (mem_at 3 rfl) noItem)))) noItem noItem⟩)
          · replace h := condF hc h
            refine g_skip ?_
            refine gx_blk ?_
            obtain rfl := Option.some.inj h
            exact gx_of (fun a w hE hS => ⟨rfl, a_s4_r0, c_s4_r0, hE.sub ⟨rfl, rfl, rfl, rfl, rfl, trivial⟩, (hS.take 1).facts _ _ [] (consItem (mem_at 0 rfl) (consItem (mem_at 1 rfl) (consItem (mem_at 2 rfl) (consItem (mem_at 3 rfl) noItem)))) noItem noItem⟩)
      · intro e a w hm
        obtain ⟨rfl, a_o6_r0, c_o6_r0, hE, hS⟩ := hm
        refine gx_to hE hS ?_
        refine gx_seq ?_
        refine g_region ?_
        refine gl_batch 3 [(7, .int .i64 (IntKind.i64.wrap (s4.2.2 + 1))), (14, .int .i64 (IntKind.i64.wrap (s4.2.2 + 1))), (13, .int .i64 s4.2.2)] rfl ?_
        refine gl_nil ?_
        obtain rfl := Option.some.inj h
        exact gx_of (fun a w hE hS => lp_in ⟨a_o6_r0, c_o6_r0, hE.sub ⟨rfl, rfl, rfl, rfl, rfl, trivial⟩, (hS.take 1).facts _ _ [] (consItem (mem_at 0 rfl) (consItem (mem_at 1 rfl) (consItem (mem_at 2 rfl) (consItem (mem_at 3 rfl) noItem)))) noItem noItem⟩)
    · replace h := condF hc h
      refine g_exit ?_
      refine gx_seq_exit ?_
      obtain rfl := Option.some.inj h
      exact gx_of (fun a w hE hS => lp_out nofun (⟨rfl, a_s4_r0, c_s4_r0, hE.sub ⟨rfl, trivial⟩, (hS.take 1).facts _ _ [] (consItem (mem_at 0 rfl) (consItem (mem_at 1 rfl) (consItem (mem_at 2 rfl) (consItem (mem_at 3 rfl) noItem)))) noItem noItem⟩))
  · intro e a w hm
    obtain ⟨rfl, a_o3_r0, c_o3_r0, hE, hS⟩ := hm
    refine gx_to hE hS ?_
    refine gx_blk_hit ?_
    refine gx_seq ?_
    refine g_sr ?_
    refine gl_batch 2 [(4, .slice a_o3_r0 (List.length o3) c_o3_r0), (35, .slice a_o3_r0 (List.length o3) c_o3_r0)] rfl ?_
    refine gl_ns ?_
    refine g_ret ?_
    obtain rfl := Option.some.inj h
    exact gx_fin rfl [.slice a_o3_r0 (List.length o3) c_o3_r0] _ _ [] ⟨_, _, rfl, rfl, rfl⟩ rfl ⟨a_o3_r0, c_o3_r0, rfl, rfl, rfl⟩ (fun w hS => (hS.take 1).facts [] [] [] noItem noItem noItem) (Or.inl rfl)

theorem c_laws_likeRuns9 (a_v : List Firing) (b : List Firing) (a_a_v : Option Addr) (c_a_v : Nat) (a_b : Option Addr) (c_b : Nat) {r : Bool} (h : laws_likeRuns9 a_v b = some r) : CallOK Tryz.prog 15 [.slice a_a_v (List.length a_v) c_a_v, .slice a_b (List.length b) c_b] [] [gTab 3 pow10C, gNum 0, gErr 1, gErr 2] [SL false 39 FiringS a_a_v c_a_v a_v, SL false 39 FiringS a_b c_b b] (fun v outs ros => v = .bool r ∧ outs = [] ∧ ros = []) := by
  refine fn_ok Tryz.func15 rfl Tryz.ntmps15 rfl (fun c hF0 => ?_)
  unfold laws_likeRuns9 at h
  refine g_sr ?_
  refine gl_batch 1 [(4, .bool false)] rfl ?_
  refine gl_ns ?_
  refine g_seq ?_
  refine g_sr ?_
  refine gl_batch 1 [(6, .slice a_a_v (List.length a_v) c_a_v)] rfl ?_
  refine gl_len rfl Fs24 rfl rfl ?_
  refine gl_batch 1 [(8, .slice a_b (List.length b) c_b)] rfl ?_
  refine gl_len rfl Fs24 rfl rfl ?_
  refine gl_batch 1 [(10, .bool ((List.length a_v : Int) != (List.length b : Int)))] rfl ?_
  refine gl_ns ?_
  refine g_cond (b := (List.length a_v : Int) != (List.length b : Int)) rfl (fun hc => ?_) (fun hc => ?_)
  · replace h := condT hc h
    refine g_sr ?_
    refine gl_batch 1 [(4, .bool false)] rfl ?_
    refine gl_ns ?_
    refine g_ret ?_
    refine gx_seq_ret ?_
    obtain rfl := Option.some.inj h
    exact gx_fin rfl [.bool false] _ _ [] ⟨_, _, rfl, rfl, rfl⟩ rfl ⟨rfl, rfl, rfl⟩ (fun w hS => (hS.take 0).facts [] [] [] noItem noItem noItem) (Or.inl rfl)
  · replace h := condF hc h
    refine g_skip ?_
    refine gx_seq ?_
    refine g_seq ?_
    refine g_sr ?_
    refine gl_batch 1 [(5, .int .i64 0)] rfl ?_
    refine gl_ns ?_
    refine g_block ?_
    obtain ⟨o1, ho1, h⟩ := bindS h
    refine g_loop (laws_likeRuns9_L1 a_v b) (fun (ss_ : Int) a w => Env a 26 [(0, .slice a_a_v (List.length a_v) c_a_v), (1, .slice a_b (List.length b) c_b), (5, .int .i64 ss_)] ∧ St c w [] [gTab 3 pow10C, gNum 0, gErr 1, gErr 2] [SL false 39 FiringS a_a_v c_a_v a_v, SL false 39 FiringS a_b c_b b] []) (Sum.elim (fun (ss_ : Unit) e a w => e = .ret ∧ Env a 26 [(4, .bool false)] ∧ St c w [] [gTab 3 pow10C, gNum 0, gErr 1, gErr 2] [SL false 39 FiringS a_a_v c_a_v a_v, SL false 39 FiringS a_b c_b b] []) (fun (ss_ : Unit) e a w => e = (.exit 0) ∧ Env a 26 [] ∧ St c w [] [gTab 3 pow10C, gNum 0, gErr 1, gErr 2] [SL false 39 FiringS a_a_v c_a_v a_v, SL false 39 FiringS a_b c_b b] []) : (Sum Unit Unit) → Exit → Act → World → Prop) ho1 ?_ ?_ ?_
    · exact fun a w hE hS => ⟨hE.sub ⟨rfl, rfl, rfl, trivial⟩, (hS.take 0).facts _ _ [] (consItem (mem_at 0 rfl) (consItem (mem_at 1 rfl) (consItem (mem_at 2 rfl) (consItem (mem_at 3 rfl) noItem)))) (consItem (mem_at 0 rfl) (consItem (mem_at 1 rfl) noItem)) noItem⟩
    · intro s2 o3 h a w hA
      obtain ⟨hE, hS⟩ := hA
      unfold laws_likeRuns9_L1 at h
      refine g_enter hE hS ?_
      refine g_seq ?_
      refine g_sr ?_
      refine gl_batch 2 [(12, .slice a_a_v (List.length a_v) c_a_v), (11, .int .i64 s2)] rfl ?_
      refine gl_len rfl Fs24 rfl rfl ?_
      refine gl_batch 1 [(14, .bool (decide (s2 < (List.length a_v : Int))))] rfl ?_
      refine gl_ns ?_
      refine g_cond (b := decide (s2 < (List.length a_v : Int))) rfl (fun hc => ?_) (fun hc => ?_)
      · replace h := condT hc h
        refine g_skip ?_
        refine gx_seq ?_
        refine g_seq ?_
        refine g_block ?_
        refine g_seq ?_
        obtain ⟨x4, hx4, h⟩ := bindS h
        refine g_elemn (mem_at 0 rfl) hx4 ?_
        intro p5 hp5
        obtain ⟨x6, hx6, h⟩ := bindS h
        refine g_elemn (mem_at 1 rfl) hx6 ?_
        intro p7 hp7
        refine g_drawD 9 [[], [], [0, 1], [2], [], [], [4, 5], [6], [3, 7]] [[0], [5], [], [], [1], [5], [], [], []] [.slice a_a_v (List.length a_v) c_a_v, .int .i64 s2, .pointer (some p5), .agg #[.int .i64 x4.Event, .int .i64 x4.Number, .int .i64 x4.Time], .slice a_b (List.length b) c_b, .int .i64 s2, .pointer (some p7), .agg #[.int .i64 x6.Event, .int .i64 x6.Number, .int .i64 x6.Time], .bool (!((x4.Event == x6.Event) && ((x4.Number == x6.Number) && ((x4.Time == x6.Time) && true))))] mixed rfl rfl ⟨⟨⟨⟨⟨⟨⟨⟨⟨trivial, ?_⟩, ?_⟩, ?_⟩, ?_⟩, ?_⟩, ?_⟩, ?_⟩, ?_⟩, ?_⟩ ?_
        · exact obl_pure rfl rfl rfl rfl rfl rfl rfl rfl
        · exact obl_pure rfl rfl rfl rfl rfl rfl rfl rfl
        · refine obl_in rfl rfl rfl rfl (fun R' O' => ?_)
          refine gl_idxVn (k := .i64) (memO (mem_at 0 rfl)) rfl rfl Fs24 Fz39 hx4 rfl rfl ?_
          intro p_ hp_
          obtain rfl : p5 = p_ := Option.some.inj (hp5.symm.trans hp_)
          exact gl_dp rfl rfl rfl
        · refine obl_in rfl rfl rfl rfl (fun R' O' => ?_)
          refine gl_elemVn (memO (mem_at 0 rfl)) hx4 hp5 ?_
          refine gl_ldA (vs := [.int .i64 x4.Event, .int .i64 x4.Number, .int .i64 x4.Time]) 0 hasAT (memV (mem_at 0 rfl)) rfl rfl Fm39 Fz39 rfl rfl rfl ?_
          exact gl_dp rfl rfl rfl
        · exact obl_pure rfl rfl rfl rfl rfl rfl rfl rfl
        · exact obl_pure rfl rfl rfl rfl rfl rfl rfl rfl
        · refine obl_in rfl rfl rfl rfl (fun R' O' => ?_)
          refine gl_idxVn (k := .i64) (memO (mem_at 1 rfl)) rfl rfl Fs24 Fz39 hx6 rfl rfl ?_
          intro p_ hp_
          obtain rfl : p7 = p_ := Option.some.inj (hp7.symm.trans hp_)
          exact gl_dp rfl rfl rfl
        · refine obl_in rfl rfl rfl rfl (fun R' O' => ?_)
          refine gl_elemVn (memO (mem_at 1 rfl)) hx6 hp7 ?_
          refine gl_ldA (vs := [.int .i64 x6.Event, .int .i64 x6.Number, .int .i64 x6.Time]) 0 hasAT (memV (mem_at 0 rfl)) rfl rfl Fm39 Fz39 rfl rfl rfl ?_
          exact gl_dp rfl rfl rfl
        · refine obl_in rfl rfl rfl rfl (fun R' O' => ?_)
          refine gl_ane (r := (x4.Event == x6.Event) && ((x4.Number == x6.Number) && ((x4.Time == x6.Time) && true))) rfl rfl (by kernel_rfl) (by kernel_rfl) rfl rfl ?_
          exact gl_dp rfl rfl rfl
        · skip
          refine gl_ns ?_
          refine g_cond (b := !((x4.Event == x6.Event) && ((x4.Number == x6.Number) && ((x4.Time == x6.Time) && true)))) rfl (fun hc => ?_) (fun hc => ?_)
          · replace h := condT hc h
            refine g_sr ?_
            refine gl_batch 1 [(4, .bool false)] rfl ?_
            refine gl_ns ?_
            refine g_ret ?_
            refine gx_blk_ret ?_
            refine gx_seq_ret ?_
            obtain rfl := Option.some.inj h
            exact gx_of (fun a w hE hS => lp_out nofun (inL ⟨rfl, hE.sub ⟨rfl, trivial⟩, (hS.take 0).facts _ _ [] (consItem (mem_at 0 rfl) (consItem (mem_at 1 rfl) (consItem (mem_at 2 rfl) (consItem (mem_at 3 rfl) noItem)))) (consItem (mem_at 0 rfl) (consItem (mem_at 1 rfl) noItem)) noItem⟩))
          · replace h := condF hc h
            refine g_skip ?_
            refine gx_blk ?_
            refine gx_seq ?_
            refine g_region ?_
            refine gl_batch 3 [(5, .int .i64 (IntKind.i64.wrap (s2 + 1))), (16, .int .i64 (IntKind.i64.wrap (s2 + 1))), (15, .int .i64 s2)] rfl ?_
            refine gl_nil ?_
            obtain rfl := Option.some.inj h
            exact gx_of (fun a w hE hS => lp_in ⟨hE.sub ⟨rfl, rfl, rfl, trivial⟩, (hS.take 0).facts _ _ [] (consItem (mem_at 0 rfl) (consItem (mem_at 1 rfl) (consItem (mem_at 2 rfl) (consItem (mem_at 3 rfl) noItem)))) (consItem (mem_at 0 rfl) (consItem (mem_at 1 rfl) noItem)) noItem⟩)
      · replace h := condF hc h
        refine g_exit ?_
        refine gx_seq_exit ?_
        obtain rfl := Option.some.inj h
        exact gx_of (fun a w hE hS => lp_out nofun (inR ⟨rfl, hE.sub trivial, (hS.take 0).facts _ _ [] (consItem (mem_at 0 rfl) (consItem (mem_at 1 rfl) (consItem (mem_at 2 rfl) (consItem (mem_at 3 rfl) noItem)))) (consItem (mem_at 0 rfl) (consItem (mem_at 1 rfl) noItem)) noItem⟩))
    · intro e a w hm
      rcases o1 with s8 | s9
      · replace h := elimL h
        obtain ⟨rfl, hE, hS⟩ := hm
        refine gx_to hE hS ?_
        refine gx_blk_ret ?_
        refine gx_seq_ret ?_
        obtain rfl := Option.some.inj h
        exact gx_fin rfl [.bool false] _ _ [] ⟨_, _, rfl, rfl, rfl⟩ rfl ⟨rfl, rfl, rfl⟩ (fun w hS => (hS.take 0).facts [] [] [] noItem noItem noItem) (Or.inl rfl)
      · replace h := elimR h
        obtain ⟨rfl, hE, hS⟩ := hm
        refine gx_to hE hS ?_
        refine gx_blk_hit ?_
        refine gx_seq ?_
        refine g_sr ?_
        refine gl_batch 1 [(4, .bool true)] rfl ?_
        refine gl_ns ?_
        refine g_ret ?_
        obtain rfl := Option.some.inj h
        exact gx_fin rfl [.bool true] _ _ [] ⟨_, _, rfl, rfl, rfl⟩ rfl ⟨rfl, rfl, rfl⟩ (fun w hS => (hS.take 0).facts [] [] [] noItem noItem noItem) (Or.inl rfl)

theorem c_laws_roll (code : List Int) (seed : Int) (a_code : Option Addr) (c_code : Nat) {r : Dice} (h : laws_roll code seed = some r) : CallOK Tryz.prog 16 [.slice a_code (List.length code) c_code, .int .u64 seed] [] [gTab 3 pow10C, gNum 0, gErr 1, gErr 2] [SL false 5 (intS .u8) a_code c_code code] (fun v outs ros => ∃ (b0 : Nat), v = .pointer (some ⟨b0, 0, none⟩) ∧ outs = [BK 74 b0 [.slice a_code (List.length code) c_code, .int .i64 r.i, .int .u64 r.h_v]] ∧ ros = []) := by
  refine fn_ok Tryz.func16 rfl Tryz.ntmps16 rfl (fun c hF0 => ?_)
  unfold laws_roll at h
  refine g_sr ?_
  refine gl_batch 1 [(4, .pointer none)] rfl ?_
  refine gl_nx ?_
  refine gl_batch 4 [(10, .slice a_code (List.length code) c_code), (9, .int .u64 (IntKind.u64.wrap (seed * 9103))), (8, .int .u64 seed), (7, .slice a_code (List.length code) c_code)] rfl ?_
  refine gl_len rfl Fs22 rfl rfl ?_
  refine gl_run (v := .int .u64 (IntKind.u64.wrap (List.length code : Int))) rfl rfl rfl (fun w => by kernel_rfl) ?_
  refine gl_batch 1 [(13, .int .u64 (IntKind.u64.wrap ((IntKind.u64.wrap (seed * 9103)) + (IntKind.u64.wrap (List.length code : Int)))))] rfl ?_
  refine gl_run (v := .agg #[.slice a_code (List.length code) c_code, .int .i64 0, .int .u64 (IntKind.u64.wrap ((IntKind.u64.wrap (seed * 9103)) + (IntKind.u64.wrap (List.length code : Int))))]) rfl rfl rfl (fun w => by kernel_rfl) ?_
  refine gl_new (d := 15) (T := 74) [.slice a_code (List.length code) c_code, .int .i64 0, .int .u64 (IntKind.u64.wrap ((IntKind.u64.wrap (seed * 9103)) + (IntKind.u64.wrap (List.length code : Int))))] rfl rfl (fun _ => rfl) (fun w => by kernel_rfl) ?_
  intro b1
  refine gl_batch 1 [(5, .pointer (some ⟨b1, 0, none⟩))] rfl ?_
  refine gl_ns ?_
  refine g_seq ?_
  refine g_sr ?_
  refine gl_batch 1 [(6, .int .i64 0)] rfl ?_
  refine gl_ns ?_
  refine g_block ?_
  obtain ⟨o2, ho2, h⟩ := bindS h
  refine g_loop (laws_roll_L1 code) (fun (ss_ : Int × Int) a w => Env a 38 [(0, .slice a_code (List.length code) c_code), (5, .pointer (some ⟨b1, 0, none⟩)), (6, .int .i64 ss_.2)] ∧ St c w [BK 74 b1 [.slice a_code (List.length code) c_code, .int .i64 0, .int .u64 ss_.1]] [gTab 3 pow10C, gNum 0, gErr 1, gErr 2] [SL false 5 (intS .u8) a_code c_code code] []) ((fun (ss_ : Int) e a w => e = (.exit 0) ∧ Env a 38 [(5, .pointer (some ⟨b1, 0, none⟩))] ∧ St c w [BK 74 b1 [.slice a_code (List.length code) c_code, .int .i64 0, .int .u64 ss_]] [gTab 3 pow10C, gNum 0, gErr 1, gErr 2] [SL false 5 (intS .u8) a_code c_code code] []) : (Int) → Exit → Act → World → Prop) ho2 ?_ ?_ ?_
  · exact fun a w hE hS => ⟨hE.sub ⟨rfl, rfl, rfl, trivial⟩, (hS.take 1).facts _ _ [] (consItem (mem_at 0 rfl) (consItem (mem_at 1 rfl) (consItem (mem_at 2 rfl) (consItem (mem_at 3 rfl) noItem)))) (consItem (mem_at 0 rfl) noItem) noItem⟩
  · intro s3 o4 h a w hA
    obtain ⟨hE, hS⟩ := hA
    unfold laws_roll_L1 at h
    refine g_enter hE hS ?_
    refine g_seq ?_
    refine g_sr ?_
    refine gl_batch 2 [(17, .slice a_code (List.length code) c_code), (16, .int .i64 s3.2)] rfl ?_
    refine gl_len rfl Fs22 rfl rfl ?_
    refine gl_batch 1 [(19, .bool (decide (s3.2 < (List.length code : Int))))] rfl ?_
    refine gl_ns ?_
    refine g_cond (b := decide (s3.2 < (List.length code : Int))) rfl (fun hc => ?_) (fun hc => ?_)
    · replace h := condT hc h
      refine g_skip ?_
      refine gx_seq ?_
      refine g_seq ?_
      refine g_block ?_
      obtain ⟨x5, hx5, h⟩ := bindS h
      refine g_elemn (mem_at 1 rfl) hx5 ?_
      intro p6 hp6
      refine g_drawD 13 [[], [], [1], [2], [3], [4], [], [], [6, 7], [8], [9], [5, 10], [11]] [[5], [5], [], [], [], [], [0], [6], [], [], [], [], []] [.pointer (some ⟨b1, 0, none⟩), .pointer (some ⟨b1, 0, none⟩), .pointer (some ⟨b1, 0, none⟩), .pointer (some ⟨b1, 2, none⟩), .int .u64 s3.1, .int .u64 (IntKind.u64.wrap (s3.1 * 1099511628211)), .slice a_code (List.length code) c_code, .int .i64 s3.2, .pointer (some p6), .int .u8 x5, .int .u64 (IntKind.u64.wrap x5), .int .u64 (IntKind.u64.wrap ((IntKind.u64.wrap (s3.1 * 1099511628211)) + (IntKind.u64.wrap x5))), .int .u64 (IntKind.u64.wrap ((IntKind.u64.wrap ((IntKind.u64.wrap (s3.1 * 1099511628211)) + (IntKind.u64.wrap x5))) + 5))] mixed rfl rfl ⟨⟨⟨⟨⟨⟨⟨⟨⟨⟨⟨⟨⟨trivial, ?_⟩, ?_⟩, ?_⟩, ?_⟩, ?_⟩, ?_⟩, ?_⟩, ?_⟩, ?_⟩, ?_⟩, ?_⟩, ?_⟩, ?_⟩ ?_
      · exact obl_pure rfl rfl rfl rfl rfl rfl rfl rfl
      · exact obl_pure rfl rfl rfl rfl rfl rfl rfl rfl
      · exact obl_pure rfl rfl rfl rfl rfl rfl rfl rfl
      · refine obl_in rfl rfl rfl rfl (fun R' O' => ?_)
        refine gl_run (v := .pointer (some ⟨b1, 2, none⟩)) rfl rfl rfl (fun w => by kernel_rfl) ?_
        exact gl_dp rfl rfl rfl
      · refine obl_in rfl rfl rfl rfl (fun R' O' => ?_)
        refine gl_ld1 2 hasBK (memV (mem_at 0 rfl)) rfl rfl Fo36 rfl rfl rfl ?_
        exact gl_dp rfl rfl rfl
      · exact obl_pure rfl rfl rfl rfl rfl rfl rfl rfl
      · exact obl_pure rfl rfl rfl rfl rfl rfl rfl rfl
      · exact obl_pure rfl rfl rfl rfl rfl rfl rfl rfl
      · refine obl_in rfl rfl rfl rfl (fun R' O' => ?_)
        refine gl_idxVn (k := .i64) (memO (mem_at 0 rfl)) rfl rfl Fs22 Fz5 hx5 rfl rfl ?_
        intro p_ hp_
        obtain rfl : p6 = p_ := Option.some.inj (hp6.symm.trans hp_)
        exact gl_dp rfl rfl rfl
      · refine obl_in rfl rfl rfl rfl (fun R' O' => ?_)
        refine gl_elemVn (memO (mem_at 0 rfl)) hx5 hp6 ?_
        refine gl_ld1 0 hasAT (memV (mem_at 0 rfl)) rfl rfl Fo5 rfl rfl rfl ?_
        exact gl_dp rfl rfl rfl
      · refine obl_in rfl rfl rfl rfl (fun R' O' => ?_)
        refine gl_run (v := .int .u64 (IntKind.u64.wrap x5)) rfl rfl rfl (fun w => by kernel_rfl) ?_
        exact gl_dp rfl rfl rfl
      · exact obl_pure rfl rfl rfl rfl rfl rfl rfl rfl
      · exact obl_pure rfl rfl rfl rfl rfl rfl rfl rfl
      · skip
        refine gl_batch 1 [(35, .pointer (some ⟨b1, 0, none⟩))] rfl ?_
        refine gl_run (v := .pointer (some ⟨b1, 2, none⟩)) rfl rfl rfl (fun w => by kernel_rfl) ?_
        refine gl_stB (cells' := [.slice a_code (List.length code) c_code, .int .i64 0, .int .u64 (IntKind.u64.wrap ((IntKind.u64.wrap ((IntKind.u64.wrap (s3.1 * 1099511628211)) + (IntKind.u64.wrap x5))) + 5))]) 2 [.int .u64 (IntKind.u64.wrap ((IntKind.u64.wrap ((IntKind.u64.wrap (s3.1 * 1099511628211)) + (IntKind.u64.wrap x5))) + 5))] rfl rfl rfl Fz36 rfl rfl rfl rfl ?_
        refine gl_nil ?_
        refine gx_blk ?_
        refine gx_seq ?_
        refine g_region ?_
        refine gl_batch 3 [(6, .int .i64 (IntKind.i64.wrap (s3.2 + 1))), (21, .int .i64 (IntKind.i64.wrap (s3.2 + 1))), (20, .int .i64 s3.2)] rfl ?_
        refine gl_nil ?_
        obtain rfl := Option.some.inj h
        exact gx_of (fun a w hE hS => lp_in ⟨hE.sub ⟨rfl, rfl, rfl, trivial⟩, (hS.take 1).facts _ _ [] (consItem (mem_at 0 rfl) (consItem (mem_at 1 rfl) (consItem (mem_at 2 rfl) (consItem (mem_at 3 rfl) noItem)))) (consItem (mem_at 0 rfl) noItem) noItem⟩)
    · replace h := condF hc h
      refine g_exit ?_
      refine gx_seq_exit ?_
      obtain rfl := Option.some.inj h
      exact gx_of (fun a w hE hS => lp_out nofun (⟨rfl, hE.sub ⟨rfl, trivial⟩, (hS.take 1).facts _ _ [] (consItem (mem_at 0 rfl) (consItem (mem_at 1 rfl) (consItem (mem_at 2 rfl) (consItem (mem_at 3 rfl) noItem)))) (consItem (mem_at 0 rfl) noItem) noItem⟩))
  · intro e a w hm
    obtain ⟨rfl, hE, hS⟩ := hm
    refine gx_to hE hS ?_
    refine gx_blk_hit ?_
    refine gx_seq ?_
    refine g_sr ?_
    refine gl_batch 2 [(4, .pointer (some ⟨b1, 0, none⟩)), (37, .pointer (some ⟨b1, 0, none⟩))] rfl ?_
    refine gl_ns ?_
    refine g_ret ?_
    obtain rfl := Option.some.inj h
    exact gx_fin rfl [.pointer (some ⟨b1, 0, none⟩)] _ _ [] ⟨_, _, rfl, rfl, rfl⟩ rfl ⟨b1, rfl, rfl, rfl⟩ (fun w hS => (hS.take 1).facts [] [] [] noItem noItem noItem) (Or.inl rfl)

theorem c_laws_dice_below (d : Dice) (n_v : Int) (b_d : Nat) (a_d_b : Option Addr) (c_d_b : Nat) {r : Int × Dice} (h : laws_dice_below d n_v = some r) : CallOK Tryz.prog 17 [.pointer (some ⟨b_d, 0, none⟩), .int .i64 n_v] [BK 74 b_d [.slice a_d_b (List.length d.b) c_d_b, .int .i64 d.i, .int .u64 d.h_v]] [gTab 3 pow10C, gNum 0, gErr 1, gErr 2] [SL false 5 (intS .u8) a_d_b c_d_b d.b] (fun v outs ros => v = .int .i64 r.1 ∧ outs = [BK 74 b_d [.slice a_d_b (List.length d.b) c_d_b, .int .i64 r.2.i, .int .u64 r.2.h_v]] ∧ ros = []) := by
  refine fn_ok Tryz.func17 rfl Tryz.ntmps17 rfl (fun c hF0 => ?_)
  unfold laws_dice_below at h
  refine g_sr ?_
  refine gl_batch 1 [(4, .int .i64 0)] rfl ?_
  refine gl_nx ?_
  refine gl_batch 3 [(8, .pointer (some ⟨b_d, 0, none⟩)), (7, .pointer (some ⟨b_d, 0, none⟩)), (6, .pointer (some ⟨b_d, 0, none⟩))] rfl ?_
  refine gl_run (v := .pointer (some ⟨b_d, 2, none⟩)) rfl rfl rfl (fun w => by kernel_rfl) ?_
  refine gl_ld1 2 hasBK (mem_at 0 rfl) rfl rfl Fo36 rfl rfl rfl ?_
  refine gl_batch 3 [(13, .pointer (some ⟨b_d, 0, none⟩)), (12, .int .u64 (IntKind.u64.wrap ((IntKind.u64.wrap (d.h_v * 6364136223846793005)) + 1442695040888963407))), (11, .int .u64 (IntKind.u64.wrap (d.h_v * 6364136223846793005)))] rfl ?_
  refine gl_run (v := .pointer (some ⟨b_d, 2, none⟩)) rfl rfl rfl (fun w => by kernel_rfl) ?_
  refine gl_stB (cells' := [.slice a_d_b (List.length d.b) c_d_b, .int .i64 d.i, .int .u64 (IntKind.u64.wrap ((IntKind.u64.wrap (d.h_v * 6364136223846793005)) + 1442695040888963407))]) 2 [.int .u64 (IntKind.u64.wrap ((IntKind.u64.wrap (d.h_v * 6364136223846793005)) + 1442695040888963407))] rfl rfl rfl Fz36 rfl rfl rfl rfl ?_
  refine gl_nx ?_
  refine gl_batch 2 [(16, .pointer (some ⟨b_d, 0, none⟩)), (15, .pointer (some ⟨b_d, 0, none⟩))] rfl ?_
  refine gl_run (v := .pointer (some ⟨b_d, 2, none⟩)) rfl rfl rfl (fun w => by kernel_rfl) ?_
  refine gl_ld1 2 hasBK (mem_at 0 rfl) rfl rfl Fo36 rfl rfl rfl ?_
  refine gl_run (v := .int .u64 (Int.fdiv (IntKind.u64.wrap ((IntKind.u64.wrap (d.h_v * 6364136223846793005)) + 1442695040888963407)) (2 ^ 33))) rfl rfl rfl (fun w => by kernel_rfl) ?_
  refine gl_run (v := .int .u64 (IntKind.u64.wrap (((BitVec.ofInt 64 (Int.fdiv (IntKind.u64.wrap ((IntKind.u64.wrap (d.h_v * 6364136223846793005)) + 1442695040888963407)) (2 ^ 33)) &&& BitVec.ofInt 64 16777215).toNat : Nat) : Int))) rfl rfl rfl (fun w => by kernel_rfl) ?_
  refine gl_run (v := .int .i64 (IntKind.i64.wrap (IntKind.u64.wrap (((BitVec.ofInt 64 (Int.fdiv (IntKind.u64.wrap ((IntKind.u64.wrap (d.h_v * 6364136223846793005)) + 1442695040888963407)) (2 ^ 33)) &&& BitVec.ofInt 64 16777215).toNat : Nat) : Int)))) rfl rfl rfl (fun w => by kernel_rfl) ?_
  obtain ⟨x1, hx1, h⟩ := letS h
  refine gl_batch 1 [(5, .int .i64 x1)] (by subst hx1; rfl) ?_
  refine gl_ns ?_
  obtain ⟨o2, ho2, h⟩ := bindS h
  refine g_mid (M := ((fun ss_ e a w => e = .normal ∧ Env a 56 [(1, .int .i64 n_v), (5, .int .i64 ss_.1)] ∧ St c w [BK 74 b_d [.slice a_d_b (List.length d.b) c_d_b, .int .i64 ss_.2, .int .u64 (IntKind.u64.wrap ((IntKind.u64.wrap (d.h_v * 6364136223846793005)) + 1442695040888963407))]] [gTab 3 pow10C, gNum 0, gErr 1, gErr 2] [SL false 5 (intS .u8) a_d_b c_d_b d.b] []) : (Int × Int) → Exit → Act → World → Prop) o2) ?_ ?_
  · replace h := ho2
    refine g_seq ?_
    refine g_drawD 10 [[], [0], [1], [2], [], [4], [5], [6], [7], [3, 8]] [[0], [], [], [], [0], [], [], [], [], []] [.pointer (some ⟨b_d, 0, none⟩), .pointer (some ⟨b_d, 0, none⟩), .pointer (some ⟨b_d, 1, none⟩), .int .i64 d.i, .pointer (some ⟨b_d, 0, none⟩), .pointer (some ⟨b_d, 0, none⟩), .pointer (some ⟨b_d, 0, none⟩), .slice a_d_b (List.length d.b) c_d_b, .int .i64 (List.length d.b : Int), .bool (decide (d.i < (List.length d.b : Int)))] mixed rfl rfl ⟨⟨⟨⟨⟨⟨⟨⟨⟨⟨trivial, ?_⟩, ?_⟩, ?_⟩, ?_⟩, ?_⟩, ?_⟩, ?_⟩, ?_⟩, ?_⟩, ?_⟩ ?_
    · exact obl_pure rfl rfl rfl rfl rfl rfl rfl rfl
    · exact obl_pure rfl rfl rfl rfl rfl rfl rfl rfl
    · refine obl_in rfl rfl rfl rfl (fun R' O' => ?_)
      refine gl_run (v := .pointer (some ⟨b_d, 1, none⟩)) rfl rfl rfl (fun w => by kernel_rfl) ?_
      exact gl_dp rfl rfl rfl
    · refine obl_in rfl rfl rfl rfl (fun R' O' => ?_)
      refine gl_ld1 1 hasBK (memV (mem_at 0 rfl)) rfl rfl Fo3 rfl rfl rfl ?_
      exact gl_dp rfl rfl rfl
    · exact obl_pure rfl rfl rfl rfl rfl rfl rfl rfl
    · exact obl_pure rfl rfl rfl rfl rfl rfl rfl rfl
    · refine obl_in rfl rfl rfl rfl (fun R' O' => ?_)
      refine gl_run (v := .pointer (some ⟨b_d, 0, none⟩)) rfl rfl rfl (fun w => by kernel_rfl) ?_
      exact gl_dp rfl rfl rfl
    · refine obl_in rfl rfl rfl rfl (fun R' O' => ?_)
      refine gl_ld1 0 hasBK (memV (mem_at 0 rfl)) rfl rfl Fo22 rfl rfl rfl ?_
      exact gl_dp rfl rfl rfl
    · refine obl_in rfl rfl rfl rfl (fun R' O' => ?_)
      refine gl_len rfl Fs22 rfl rfl ?_
      exact gl_dp rfl rfl rfl
    · exact obl_pure rfl rfl rfl rfl rfl rfl rfl rfl
    · skip
      refine gl_ns ?_
      refine g_cond (b := decide (d.i < (List.length d.b : Int))) rfl (fun hc => ?_) (fun hc => ?_)
      · replace h := condT hc h
        refine g_seq ?_
        obtain ⟨x3, hx3, h⟩ := bindS h
        refine g_elemn (mem_at 1 rfl) hx3 ?_
        intro p4 hp4
        refine g_drawD 14 [[], [], [1], [2], [3], [], [5], [6], [7], [4, 8], [9], [10], [0, 11], [0, 12]] [[5], [0], [], [], [], [0], [], [], [], [], [], [], [], []] [.int .i64 x1, .pointer (some ⟨b_d, 0, none⟩), .pointer (some ⟨b_d, 0, none⟩), .pointer (some ⟨b_d, 0, none⟩), .slice a_d_b (List.length d.b) c_d_b, .pointer (some ⟨b_d, 0, none⟩), .pointer (some ⟨b_d, 0, none⟩), .pointer (some ⟨b_d, 1, none⟩), .int .i64 d.i, .pointer (some p4), .int .u8 x3, .int .i64 (IntKind.i64.wrap x3), .int .i64 (IntKind.i64.wrap (x1 + (IntKind.i64.wrap x3))), .int .i64 (IntKind.i64.wrap (x1 + (IntKind.i64.wrap x3)))] mixed rfl rfl ⟨⟨⟨⟨⟨⟨⟨⟨⟨⟨⟨⟨⟨⟨trivial, ?_⟩, ?_⟩, ?_⟩, ?_⟩, ?_⟩, ?_⟩, ?_⟩, ?_⟩, ?_⟩, ?_⟩, ?_⟩, ?_⟩, ?_⟩, ?_⟩ ?_
        · exact obl_pure rfl rfl rfl rfl rfl rfl rfl rfl
        · exact obl_pure rfl rfl rfl rfl rfl rfl rfl rfl
        · exact obl_pure rfl rfl rfl rfl rfl rfl rfl rfl
        · refine obl_in rfl rfl rfl rfl (fun R' O' => ?_)
          refine gl_run (v := .pointer (some ⟨b_d, 0, none⟩)) rfl rfl rfl (fun w => by kernel_rfl) ?_
          exact gl_dp rfl rfl rfl
        · refine obl_in rfl rfl rfl rfl (fun R' O' => ?_)
          refine gl_ld1 0 hasBK (memV (mem_at 0 rfl)) rfl rfl Fo22 rfl rfl rfl ?_
          exact gl_dp rfl rfl rfl
        · exact obl_pure rfl rfl rfl rfl rfl rfl rfl rfl
        · exact obl_pure rfl rfl rfl rfl rfl rfl rfl rfl
        · refine obl_in rfl rfl rfl rfl (fun R' O' => ?_)
          refine gl_run (v := .pointer (some ⟨b_d, 1, none⟩)) rfl rfl rfl (fun w => by kernel_rfl) ?_
          exact gl_dp rfl rfl rfl
        · refine obl_in rfl rfl rfl rfl (fun R' O' => ?_)
          refine gl_ld1 1 hasBK (memV (mem_at 0 rfl)) rfl rfl Fo3 rfl rfl rfl ?_
          exact gl_dp rfl rfl rfl
        · refine obl_in rfl rfl rfl rfl (fun R' O' => ?_)
          refine gl_idxVn (k := .i64) (memO (mem_at 0 rfl)) rfl rfl Fs22 Fz5 hx3 rfl rfl ?_
          intro p_ hp_
          obtain rfl : p4 = p_ := Option.some.inj (hp4.symm.trans hp_)
          exact gl_dp rfl rfl rfl
        · refine obl_in rfl rfl rfl rfl (fun R' O' => ?_)
          refine gl_elemVn (memO (mem_at 0 rfl)) hx3 hp4 ?_
          refine gl_ld1 0 hasAT (memV (mem_at 0 rfl)) rfl rfl Fo5 rfl rfl rfl ?_
          exact gl_dp rfl rfl rfl
        · refine obl_in rfl rfl rfl rfl (fun R' O' => ?_)
          refine gl_run (v := .int .i64 (IntKind.i64.wrap x3)) rfl rfl rfl (fun w => by kernel_rfl) ?_
          exact gl_dp rfl rfl rfl
        · exact obl_pure rfl rfl rfl rfl rfl rfl rfl rfl
        · exact obl_pure rfl rfl rfl rfl rfl rfl rfl rfl
        · skip
          refine gl_ns ?_
          refine g_region ?_
          refine gl_batch 3 [(47, .pointer (some ⟨b_d, 0, none⟩)), (46, .pointer (some ⟨b_d, 0, none⟩)), (45, .pointer (some ⟨b_d, 0, none⟩))] rfl ?_
          refine gl_run (v := .pointer (some ⟨b_d, 1, none⟩)) rfl rfl rfl (fun w => by kernel_rfl) ?_
          refine gl_ld1 1 hasBK (mem_at 0 rfl) rfl rfl Fo3 rfl rfl rfl ?_
          refine gl_batch 2 [(51, .pointer (some ⟨b_d, 0, none⟩)), (50, .int .i64 (IntKind.i64.wrap (d.i + 1)))] rfl ?_
          refine gl_run (v := .pointer (some ⟨b_d, 1, none⟩)) rfl rfl rfl (fun w => by kernel_rfl) ?_
          refine gl_stB (cells' := [.slice a_d_b (List.length d.b) c_d_b, .int .i64 (IntKind.i64.wrap (d.i + 1)), .int .u64 (IntKind.u64.wrap ((IntKind.u64.wrap (d.h_v * 6364136223846793005)) + 1442695040888963407))]) 1 [.int .i64 (IntKind.i64.wrap (d.i + 1))] rfl rfl rfl Fz3 rfl rfl rfl rfl ?_
          refine gl_nil ?_
          obtain rfl := Option.some.inj h
          exact gx_of (fun a w hE hS => ⟨rfl, hE.sub ⟨rfl, rfl, trivial⟩, (hS.take 1).facts _ _ [] (consItem (mem_at 0 rfl) (consItem (mem_at 1 rfl) (consItem (mem_at 2 rfl) (consItem (mem_at 3 rfl) noItem)))) (consItem (mem_at 0 rfl) noItem) noItem⟩)
      · replace h := condF hc h
        refine g_skip ?_
        obtain rfl := Option.some.inj h
        exact gx_of (fun a w hE hS => ⟨rfl, hE.sub ⟨rfl, rfl, trivial⟩, (hS.take 1).facts _ _ [] (consItem (mem_at 0 rfl) (consItem (mem_at 1 rfl) (consItem (mem_at 2 rfl) (consItem (mem_at 3 rfl) noItem)))) (consItem (mem_at 0 rfl) noItem) noItem⟩)
  · intro e a w hm
    obtain ⟨rfl, hE, hS⟩ := hm
    refine gx_to hE hS ?_
    refine gx_seq ?_
    refine g_sr ?_
    refine gl_batch 2 [(54, .int .i64 n_v), (53, .int .i64 o2.1)] rfl ?_
    obtain ⟨z5, hz5, h⟩ := bindS h
    refine gl_rem rfl rfl hz5 rfl rfl ?_
    refine gl_batch 1 [(4, .int .i64 z5)] rfl ?_
    refine gl_ns ?_
    refine g_ret ?_
    obtain rfl := Option.some.inj h
    exact gx_fin rfl [.int .i64 z5] _ _ [] ⟨_, _, rfl, rfl, rfl⟩ rfl ⟨rfl, rfl, rfl⟩ (fun w hS => (hS.take 1).facts [] [] [] noItem noItem noItem) (Or.inl rfl)

end Go.Proofs.YtneifoepoccjaaaGreatDoor
