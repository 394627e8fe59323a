/- A part of the proof that AliasThings and AliasMeets return true for every module: texts on an abstract reading of the code (AmTypes2, AmTypes3, AmRead, AmRead2, AmLaw). -/
import Derived.Test.YtdmaniffgdpfeaaXAmIr4
import Derived.OpenShut
import Derived.ChangeArms
import Derived.Test.YtdmaniffgdpfeaaXAmLate
import Derived.WalkKit
import Derived.ProofKit
import Derived.ShutString
import Derived.ChangeOld
import Derived.Below
import Derived.Carry
import Derived.SizedLaws
set_option linter.unusedVariables false
set_option linter.unusedSimpArgs false
set_option linter.unusedSectionVars false
set_option linter.unusedSimpArgs false
namespace Go.Am
open Go Go.Proofs
theorem sub_MSlot_name {x : MSlot} {p} : x.enc.sub (0 :: p) = AV.sub (.val (.string x.name)) p := nr rfl
theorem offs_MSlot_name {x : MSlot} {p} : x.enc.offs (0 :: p) = offsO 0 (AV.offs (.val (.string x.name)) p) := by
  simp only [MSlot.enc, go_sem, Nat.reduceAdd]
theorem upd_MSlot_name {x : MSlot} {v : ByteArray} : x.enc.upd [0] (.val (.string v)) = some (MSlot.enc { x with name := v }) := nr rfl
theorem sub_MSlot_size {x : MSlot} {p} : x.enc.sub (1 :: p) = AV.sub (I x.size) p := nr rfl
theorem offs_MSlot_size {x : MSlot} {p} : x.enc.offs (1 :: p) = offsO 1 (AV.offs (I x.size) p) := by
  simp only [MSlot.enc, go_sem, Nat.reduceAdd]
theorem upd_MSlot_size {x : MSlot} {v : Int} : x.enc.upd [1] (I v) = some (MSlot.enc { x with size := v }) := nr rfl
theorem af_MSlot_size {x : MSlot} {h K} : afield Try.prog 95 1 h K (.iptr x.enc) = K (.iptr (I x.size)) h := by
  simp only [MSlot.enc, go_sem, Nat.reduceAdd]
theorem sub_MSlot_align {x : MSlot} {p} : x.enc.sub (2 :: p) = AV.sub (I x.align) p := nr rfl
theorem offs_MSlot_align {x : MSlot} {p} : x.enc.offs (2 :: p) = offsO 2 (AV.offs (I x.align) p) := by
  simp only [MSlot.enc, go_sem, Nat.reduceAdd]
theorem upd_MSlot_align {x : MSlot} {v : Int} : x.enc.upd [2] (I v) = some (MSlot.enc { x with align := v }) := nr rfl
theorem af_MSlot_align {x : MSlot} {h K} : afield Try.prog 95 2 h K (.iptr x.enc) = K (.iptr (I x.align)) h := by
  simp only [MSlot.enc, go_sem, Nat.reduceAdd]
theorem sub_MSlot_cell {x : MSlot} {p} : x.enc.sub (3 :: p) = AV.sub (I x.cell) p := nr rfl
theorem offs_MSlot_cell {x : MSlot} {p} : x.enc.offs (3 :: p) = offsO 3 (AV.offs (I x.cell) p) := by
  simp only [MSlot.enc, go_sem, Nat.reduceAdd]
theorem upd_MSlot_cell {x : MSlot} {v : Int} : x.enc.upd [3] (I v) = some (MSlot.enc { x with cell := v }) := nr rfl
theorem sub_MIns_op {x : MIns} {p} : x.enc.sub (0 :: p) = AV.sub (I x.op) p := nr rfl
theorem offs_MIns_op {x : MIns} {p} : x.enc.offs (0 :: p) = offsO 0 (AV.offs (I x.op) p) := by
  simp only [MIns.enc, go_sem, Nat.reduceAdd]
theorem upd_MIns_op {x : MIns} {v : Int} : x.enc.upd [0] (I v) = some (MIns.enc { x with op := v }) := nr rfl
theorem af_MIns_op {x : MIns} {h K} : afield Try.prog 39 0 h K (.iptr x.enc) = K (.iptr (I x.op)) h := by
  simp only [MIns.enc, go_sem, Nat.reduceAdd]
theorem sub_MIns_d {x : MIns} {p} : x.enc.sub (1 :: p) = AV.sub (I x.d) p := nr rfl
theorem offs_MIns_d {x : MIns} {p} : x.enc.offs (1 :: p) = offsO 1 (AV.offs (I x.d) p) := by
  simp only [MIns.enc, go_sem, Nat.reduceAdd]
theorem upd_MIns_d {x : MIns} {v : Int} : x.enc.upd [1] (I v) = some (MIns.enc { x with d := v }) := nr rfl
theorem af_MIns_d {x : MIns} {h K} : afield Try.prog 39 1 h K (.iptr x.enc) = K (.iptr (I x.d)) h := by
  simp only [MIns.enc, go_sem, Nat.reduceAdd]
theorem sub_MIns_a {x : MIns} {p} : x.enc.sub (2 :: p) = AV.sub (I x.a) p := nr rfl
theorem offs_MIns_a {x : MIns} {p} : x.enc.offs (2 :: p) = offsO 2 (AV.offs (I x.a) p) := by
  simp only [MIns.enc, go_sem, Nat.reduceAdd]
theorem upd_MIns_a {x : MIns} {v : Int} : x.enc.upd [2] (I v) = some (MIns.enc { x with a := v }) := nr rfl
theorem af_MIns_a {x : MIns} {h K} : afield Try.prog 39 2 h K (.iptr x.enc) = K (.iptr (I x.a)) h := by
  simp only [MIns.enc, go_sem, Nat.reduceAdd]
theorem sub_MIns_b {x : MIns} {p} : x.enc.sub (3 :: p) = AV.sub (I x.b) p := nr rfl
theorem offs_MIns_b {x : MIns} {p} : x.enc.offs (3 :: p) = offsO 3 (AV.offs (I x.b) p) := by
  simp only [MIns.enc, go_sem, Nat.reduceAdd]
theorem upd_MIns_b {x : MIns} {v : Int} : x.enc.upd [3] (I v) = some (MIns.enc { x with b := v }) := nr rfl
theorem af_MIns_b {x : MIns} {h K} : afield Try.prog 39 3 h K (.iptr x.enc) = K (.iptr (I x.b)) h := by
  simp only [MIns.enc, go_sem, Nat.reduceAdd]
theorem sub_MIns_fn {x : MIns} {p} : x.enc.sub (4 :: p) = AV.sub (I x.fn) p := nr rfl
theorem offs_MIns_fn {x : MIns} {p} : x.enc.offs (4 :: p) = offsO 4 (AV.offs (I x.fn) p) := by
  simp only [MIns.enc, go_sem, Nat.reduceAdd]
theorem upd_MIns_fn {x : MIns} {v : Int} : x.enc.upd [4] (I v) = some (MIns.enc { x with fn := v }) := nr rfl
theorem af_MIns_fn {x : MIns} {h K} : afield Try.prog 39 4 h K (.iptr x.enc) = K (.iptr (I x.fn)) h := by
  simp only [MIns.enc, go_sem, Nat.reduceAdd]
theorem sub_MIns_obj {x : MIns} {p} : x.enc.sub (5 :: p) = AV.sub (I x.obj) p := nr rfl
theorem offs_MIns_obj {x : MIns} {p} : x.enc.offs (5 :: p) = offsO 5 (AV.offs (I x.obj) p) := by
  simp only [MIns.enc, go_sem, Nat.reduceAdd]
theorem upd_MIns_obj {x : MIns} {v : Int} : x.enc.upd [5] (I v) = some (MIns.enc { x with obj := v }) := nr rfl
theorem af_MIns_obj {x : MIns} {h K} : afield Try.prog 39 5 h K (.iptr x.enc) = K (.iptr (I x.obj)) h := by
  simp only [MIns.enc, go_sem, Nat.reduceAdd]
theorem sub_MIns_off {x : MIns} {p} : x.enc.sub (6 :: p) = AV.sub (I x.off) p := nr rfl
theorem offs_MIns_off {x : MIns} {p} : x.enc.offs (6 :: p) = offsO 6 (AV.offs (I x.off) p) := by
  simp only [MIns.enc, go_sem, Nat.reduceAdd]
theorem upd_MIns_off {x : MIns} {v : Int} : x.enc.upd [6] (I v) = some (MIns.enc { x with off := v }) := nr rfl
theorem af_MIns_off {x : MIns} {h K} : afield Try.prog 39 6 h K (.iptr x.enc) = K (.iptr (I x.off)) h := by
  simp only [MIns.enc, go_sem, Nat.reduceAdd]
theorem sub_MIns_size {x : MIns} {p} : x.enc.sub (7 :: p) = AV.sub (I x.size) p := nr rfl
theorem offs_MIns_size {x : MIns} {p} : x.enc.offs (7 :: p) = offsO 7 (AV.offs (I x.size) p) := by
  simp only [MIns.enc, go_sem, Nat.reduceAdd]
theorem upd_MIns_size {x : MIns} {v : Int} : x.enc.upd [7] (I v) = some (MIns.enc { x with size := v }) := nr rfl
theorem af_MIns_size {x : MIns} {h K} : afield Try.prog 39 7 h K (.iptr x.enc) = K (.iptr (I x.size)) h := by
  simp only [MIns.enc, go_sem, Nat.reduceAdd]
theorem sub_MIns_num {x : MIns} {p} : x.enc.sub (8 :: p) = AV.sub (U32 x.num) p := nr rfl
theorem offs_MIns_num {x : MIns} {p} : x.enc.offs (8 :: p) = offsO 8 (AV.offs (U32 x.num) p) := by
  simp only [MIns.enc, go_sem, Nat.reduceAdd]
theorem upd_MIns_num {x : MIns} {v : Int} : x.enc.upd [8] (U32 v) = some (MIns.enc { x with num := v }) := nr rfl
theorem af_MIns_num {x : MIns} {h K} : afield Try.prog 39 8 h K (.iptr x.enc) = K (.iptr (U32 x.num)) h := by
  simp only [MIns.enc, go_sem, Nat.reduceAdd]
theorem sub_MIns_args {x : MIns} {p} : x.enc.sub (9 :: p) = AV.sub (.il 1 ((x.args).map I)) p := nr rfl
theorem offs_MIns_args {x : MIns} {p} : x.enc.offs (9 :: p) = offsO 9 (AV.offs (.il 1 ((x.args).map I)) p) := by
  simp only [MIns.enc, go_sem, Nat.reduceAdd]
theorem upd_MIns_args {x : MIns} {v : List Int} : x.enc.upd [9] (.il 1 ((v).map I)) = some (MIns.enc { x with args := v }) := nr rfl
theorem af_MIns_args {x : MIns} {h K} : afield Try.prog 39 9 h K (.iptr x.enc) = K (.iptr (.il 1 ((x.args).map I))) h := by
  simp only [MIns.enc, go_sem, Nat.reduceAdd]
theorem sub_MIns_log {x : MIns} {p} : x.enc.sub (10 :: p) = AV.sub (B x.log) p := nr rfl
theorem offs_MIns_log {x : MIns} {p} : x.enc.offs (10 :: p) = offsO 10 (AV.offs (B x.log) p) := by
  simp only [MIns.enc, go_sem, Nat.reduceAdd]
theorem upd_MIns_log {x : MIns} {v : Bool} : x.enc.upd [10] (B v) = some (MIns.enc { x with log := v }) := nr rfl
theorem af_MIns_log {x : MIns} {h K} : afield Try.prog 39 10 h K (.iptr x.enc) = K (.iptr (B x.log)) h := by
  simp only [MIns.enc, go_sem, Nat.reduceAdd]
theorem sub_MBlk_ins {x : MBlk} {p} : x.enc.sub (0 :: p) = AV.sub (.il 11 ((x.ins).map MIns.enc)) p := nr rfl
theorem offs_MBlk_ins {x : MBlk} {p} : x.enc.offs (0 :: p) = offsO 0 (AV.offs (.il 11 ((x.ins).map MIns.enc)) p) := by
  simp only [MBlk.enc, go_sem, Nat.reduceAdd]
theorem upd_MBlk_ins {x : MBlk} {v : List MIns} : x.enc.upd [0] (.il 11 ((v).map MIns.enc)) = some (MBlk.enc { x with ins := v }) := nr rfl
theorem af_MBlk_ins {x : MBlk} {h K} : afield Try.prog 35 0 h K (.iptr x.enc) = K (.iptr (.il 11 ((x.ins).map MIns.enc))) h := by
  simp only [MBlk.enc, go_sem, Nat.reduceAdd]
theorem sub_MBlk_kind {x : MBlk} {p} : x.enc.sub (1 :: p) = AV.sub (I x.kind) p := nr rfl
theorem offs_MBlk_kind {x : MBlk} {p} : x.enc.offs (1 :: p) = offsO 1 (AV.offs (I x.kind) p) := by
  simp only [MBlk.enc, go_sem, Nat.reduceAdd]
theorem upd_MBlk_kind {x : MBlk} {v : Int} : x.enc.upd [1] (I v) = some (MBlk.enc { x with kind := v }) := nr rfl
theorem af_MBlk_kind {x : MBlk} {h K} : afield Try.prog 35 1 h K (.iptr x.enc) = K (.iptr (I x.kind)) h := by
  simp only [MBlk.enc, go_sem, Nat.reduceAdd]
theorem sub_MBlk_a {x : MBlk} {p} : x.enc.sub (2 :: p) = AV.sub (I x.a) p := nr rfl
theorem offs_MBlk_a {x : MBlk} {p} : x.enc.offs (2 :: p) = offsO 2 (AV.offs (I x.a) p) := by
  simp only [MBlk.enc, go_sem, Nat.reduceAdd]
theorem upd_MBlk_a {x : MBlk} {v : Int} : x.enc.upd [2] (I v) = some (MBlk.enc { x with a := v }) := nr rfl
theorem af_MBlk_a {x : MBlk} {h K} : afield Try.prog 35 2 h K (.iptr x.enc) = K (.iptr (I x.a)) h := by
  simp only [MBlk.enc, go_sem, Nat.reduceAdd]
theorem sub_MBlk_to {x : MBlk} {p} : x.enc.sub (3 :: p) = AV.sub (I x.to) p := nr rfl
theorem offs_MBlk_to {x : MBlk} {p} : x.enc.offs (3 :: p) = offsO 3 (AV.offs (I x.to) p) := by
  simp only [MBlk.enc, go_sem, Nat.reduceAdd]
theorem upd_MBlk_to {x : MBlk} {v : Int} : x.enc.upd [3] (I v) = some (MBlk.enc { x with to := v }) := nr rfl
theorem af_MBlk_to {x : MBlk} {h K} : afield Try.prog 35 3 h K (.iptr x.enc) = K (.iptr (I x.to)) h := by
  simp only [MBlk.enc, go_sem, Nat.reduceAdd]
theorem sub_MBlk_els {x : MBlk} {p} : x.enc.sub (4 :: p) = AV.sub (I x.els) p := nr rfl
theorem offs_MBlk_els {x : MBlk} {p} : x.enc.offs (4 :: p) = offsO 4 (AV.offs (I x.els) p) := by
  simp only [MBlk.enc, go_sem, Nat.reduceAdd]
theorem upd_MBlk_els {x : MBlk} {v : Int} : x.enc.upd [4] (I v) = some (MBlk.enc { x with els := v }) := nr rfl
theorem af_MBlk_els {x : MBlk} {h K} : afield Try.prog 35 4 h K (.iptr x.enc) = K (.iptr (I x.els)) h := by
  simp only [MBlk.enc, go_sem, Nat.reduceAdd]
theorem sub_MProc_name {x : MProc} {p} : x.enc.sub (0 :: p) = AV.sub (.val (.string x.name)) p := nr rfl
theorem offs_MProc_name {x : MProc} {p} : x.enc.offs (0 :: p) = offsO 0 (AV.offs (.val (.string x.name)) p) := by
  simp only [MProc.enc, go_sem, Nat.reduceAdd]
theorem upd_MProc_name {x : MProc} {v : ByteArray} : x.enc.upd [0] (.val (.string v)) = some (MProc.enc { x with name := v }) := nr rfl
theorem sub_MProc_void {x : MProc} {p} : x.enc.sub (1 :: p) = AV.sub (B x.void) p := nr rfl
theorem offs_MProc_void {x : MProc} {p} : x.enc.offs (1 :: p) = offsO 1 (AV.offs (B x.void) p) := by
  simp only [MProc.enc, go_sem, Nat.reduceAdd]
theorem upd_MProc_void {x : MProc} {v : Bool} : x.enc.upd [1] (B v) = some (MProc.enc { x with void := v }) := nr rfl
theorem af_MProc_void {x : MProc} {h K} : afield Try.prog 32 1 h K (.iptr x.enc) = K (.iptr (B x.void)) h := by
  simp only [MProc.enc, go_sem, Nat.reduceAdd]
theorem sub_MProc_params {x : MProc} {p} : x.enc.sub (2 :: p) = AV.sub (I x.params) p := nr rfl
theorem offs_MProc_params {x : MProc} {p} : x.enc.offs (2 :: p) = offsO 2 (AV.offs (I x.params) p) := by
  simp only [MProc.enc, go_sem, Nat.reduceAdd]
theorem upd_MProc_params {x : MProc} {v : Int} : x.enc.upd [2] (I v) = some (MProc.enc { x with params := v }) := nr rfl
theorem af_MProc_params {x : MProc} {h K} : afield Try.prog 32 2 h K (.iptr x.enc) = K (.iptr (I x.params)) h := by
  simp only [MProc.enc, go_sem, Nat.reduceAdd]
theorem sub_MProc_regs {x : MProc} {p} : x.enc.sub (3 :: p) = AV.sub (I x.regs) p := nr rfl
theorem offs_MProc_regs {x : MProc} {p} : x.enc.offs (3 :: p) = offsO 3 (AV.offs (I x.regs) p) := by
  simp only [MProc.enc, go_sem, Nat.reduceAdd]
theorem upd_MProc_regs {x : MProc} {v : Int} : x.enc.upd [3] (I v) = some (MProc.enc { x with regs := v }) := nr rfl
theorem af_MProc_regs {x : MProc} {h K} : afield Try.prog 32 3 h K (.iptr x.enc) = K (.iptr (I x.regs)) h := by
  simp only [MProc.enc, go_sem, Nat.reduceAdd]
theorem sub_MProc_objects {x : MProc} {p} : x.enc.sub (4 :: p) = AV.sub (.il 4 ((x.objects).map MSlot.enc)) p := nr rfl
theorem offs_MProc_objects {x : MProc} {p} : x.enc.offs (4 :: p) = offsO 4 (AV.offs (.il 4 ((x.objects).map MSlot.enc)) p) := by
  simp only [MProc.enc, go_sem, Nat.reduceAdd]
theorem upd_MProc_objects {x : MProc} {v : List MSlot} : x.enc.upd [4] (.il 4 ((v).map MSlot.enc)) = some (MProc.enc { x with objects := v }) := nr rfl
theorem af_MProc_objects {x : MProc} {h K} : afield Try.prog 32 4 h K (.iptr x.enc) = K (.iptr (.il 4 ((x.objects).map MSlot.enc))) h := by
  simp only [MProc.enc, go_sem, Nat.reduceAdd]
theorem sub_MProc_blocks {x : MProc} {p} : x.enc.sub (5 :: p) = AV.sub (.il 5 ((x.blocks).map MBlk.enc)) p := nr rfl
theorem offs_MProc_blocks {x : MProc} {p} : x.enc.offs (5 :: p) = offsO 5 (AV.offs (.il 5 ((x.blocks).map MBlk.enc)) p) := by
  simp only [MProc.enc, go_sem, Nat.reduceAdd]
theorem upd_MProc_blocks {x : MProc} {v : List MBlk} : x.enc.upd [5] (.il 5 ((v).map MBlk.enc)) = some (MProc.enc { x with blocks := v }) := nr rfl
theorem af_MProc_blocks {x : MProc} {h K} : afield Try.prog 32 5 h K (.iptr x.enc) = K (.iptr (.il 5 ((x.blocks).map MBlk.enc))) h := by
  simp only [MProc.enc, go_sem, Nat.reduceAdd]
theorem sub_MMod_globals {x : MMod} {p} : x.enc.sub (0 :: p) = AV.sub (.il 4 ((x.globals).map MSlot.enc)) p := nr rfl
theorem offs_MMod_globals {x : MMod} {p} : x.enc.offs (0 :: p) = offsO 0 (AV.offs (.il 4 ((x.globals).map MSlot.enc)) p) := by
  simp only [MMod.enc, go_sem, Nat.reduceAdd]
theorem upd_MMod_globals {x : MMod} {v : List MSlot} : x.enc.upd [0] (.il 4 ((v).map MSlot.enc)) = some (MMod.enc { x with globals := v }) := nr rfl
theorem af_MMod_globals {x : MMod} {h K} : afield Try.prog 26 0 h K (.iptr x.enc) = K (.iptr (.il 4 ((x.globals).map MSlot.enc))) h := by
  simp only [MMod.enc, go_sem, Nat.reduceAdd]
theorem sub_MMod_data {x : MMod} {p} : x.enc.sub (1 :: p) = AV.sub (.il 1 ((x.data).map bytesAV)) p := nr rfl
theorem offs_MMod_data {x : MMod} {p} : x.enc.offs (1 :: p) = offsO 1 (AV.offs (.il 1 ((x.data).map bytesAV)) p) := by
  simp only [MMod.enc, go_sem, Nat.reduceAdd]
theorem upd_MMod_data {x : MMod} {v : List (List Int)} : x.enc.upd [1] (.il 1 ((v).map bytesAV)) = some (MMod.enc { x with data := v }) := nr rfl
theorem af_MMod_data {x : MMod} {h K} : afield Try.prog 26 1 h K (.iptr x.enc) = K (.iptr (.il 1 ((x.data).map bytesAV))) h := by
  simp only [MMod.enc, go_sem, Nat.reduceAdd]
theorem sub_MMod_procs {x : MMod} {p} : x.enc.sub (2 :: p) = AV.sub (.il 6 ((x.procs).map MProc.enc)) p := nr rfl
theorem offs_MMod_procs {x : MMod} {p} : x.enc.offs (2 :: p) = offsO 2 (AV.offs (.il 6 ((x.procs).map MProc.enc)) p) := by
  simp only [MMod.enc, go_sem, Nat.reduceAdd]
theorem upd_MMod_procs {x : MMod} {v : List MProc} : x.enc.upd [2] (.il 6 ((v).map MProc.enc)) = some (MMod.enc { x with procs := v }) := nr rfl
theorem af_MMod_procs {x : MMod} {h K} : afield Try.prog 26 2 h K (.iptr x.enc) = K (.iptr (.il 6 ((x.procs).map MProc.enc))) h := by
  simp only [MMod.enc, go_sem, Nat.reduceAdd]
theorem sub_MMod_main {x : MMod} {p} : x.enc.sub (3 :: p) = AV.sub (I x.main) p := nr rfl
theorem offs_MMod_main {x : MMod} {p} : x.enc.offs (3 :: p) = offsO 3 (AV.offs (I x.main) p) := by
  simp only [MMod.enc, go_sem, Nat.reduceAdd]
theorem upd_MMod_main {x : MMod} {v : Int} : x.enc.upd [3] (I v) = some (MMod.enc { x with main := v }) := nr rfl
theorem af_MMod_main {x : MMod} {h K} : afield Try.prog 26 3 h K (.iptr x.enc) = K (.iptr (I x.main)) h := by
  simp only [MMod.enc, go_sem, Nat.reduceAdd]
attribute [go_sem] sub_MSlot_name offs_MSlot_name upd_MSlot_name sub_MSlot_size offs_MSlot_size upd_MSlot_size af_MSlot_size sub_MSlot_align offs_MSlot_align upd_MSlot_align af_MSlot_align sub_MSlot_cell offs_MSlot_cell upd_MSlot_cell sub_MIns_op offs_MIns_op upd_MIns_op af_MIns_op sub_MIns_d offs_MIns_d upd_MIns_d af_MIns_d sub_MIns_a offs_MIns_a upd_MIns_a af_MIns_a sub_MIns_b offs_MIns_b upd_MIns_b af_MIns_b sub_MIns_fn offs_MIns_fn upd_MIns_fn af_MIns_fn sub_MIns_obj offs_MIns_obj upd_MIns_obj af_MIns_obj sub_MIns_off offs_MIns_off upd_MIns_off af_MIns_off sub_MIns_size offs_MIns_size upd_MIns_size af_MIns_size sub_MIns_num offs_MIns_num upd_MIns_num af_MIns_num sub_MIns_args offs_MIns_args upd_MIns_args af_MIns_args sub_MIns_log offs_MIns_log upd_MIns_log af_MIns_log sub_MBlk_ins offs_MBlk_ins upd_MBlk_ins af_MBlk_ins sub_MBlk_kind offs_MBlk_kind upd_MBlk_kind af_MBlk_kind sub_MBlk_a offs_MBlk_a upd_MBlk_a af_MBlk_a sub_MBlk_to offs_MBlk_to upd_MBlk_to af_MBlk_to sub_MBlk_els offs_MBlk_els upd_MBlk_els af_MBlk_els sub_MProc_name offs_MProc_name upd_MProc_name sub_MProc_void offs_MProc_void upd_MProc_void af_MProc_void sub_MProc_params offs_MProc_params upd_MProc_params af_MProc_params sub_MProc_regs offs_MProc_regs upd_MProc_regs af_MProc_regs sub_MProc_objects offs_MProc_objects upd_MProc_objects af_MProc_objects sub_MProc_blocks offs_MProc_blocks upd_MProc_blocks af_MProc_blocks sub_MMod_globals offs_MMod_globals upd_MMod_globals af_MMod_globals sub_MMod_data offs_MMod_data upd_MMod_data af_MMod_data sub_MMod_procs offs_MMod_procs upd_MMod_procs af_MMod_procs sub_MMod_main offs_MMod_main upd_MMod_main af_MMod_main
end Go.Am

set_option linter.unusedSimpArgs false
namespace Go.Am
open Go Go.Proofs
theorem sub_Lk_m {x : Lk} {p} : x.enc.sub (0 :: p) = AV.sub ((x.m).enc) p := nr rfl
theorem offs_Lk_m {x : Lk} {p} : x.enc.offs (0 :: p) = offsO 0 (AV.offs ((x.m).enc) p) := by
  simp only [Lk.enc, go_sem, Nat.reduceAdd]
theorem upd_Lk_m {x : Lk} {v : MMod} : x.enc.upd [0] ((v).enc) = some (Lk.enc { x with m := v }) := nr rfl
theorem af_Lk_m {x : Lk} {h K} : afield Try.prog 234 0 h K (.iptr x.enc) = K (.iptr ((x.m).enc)) h := by
  simp only [Lk.enc, go_sem, Nat.reduceAdd]
theorem sub_Lk_p {x : Lk} {p} : x.enc.sub (1 :: p) = AV.sub ((x.p).enc) p := nr rfl
theorem offs_Lk_p {x : Lk} {p} : x.enc.offs (1 :: p) = offsO 4 (AV.offs ((x.p).enc) p) := by
  simp only [Lk.enc, go_sem, Nat.reduceAdd]
theorem upd_Lk_p {x : Lk} {v : MProc} : x.enc.upd [1] ((v).enc) = some (Lk.enc { x with p := v }) := nr rfl
theorem af_Lk_p {x : Lk} {h K} : afield Try.prog 234 1 h K (.iptr x.enc) = K (.iptr ((x.p).enc)) h := by
  simp only [Lk.enc, go_sem, Nat.reduceAdd]
attribute [go_sem] sub_Lk_m offs_Lk_m upd_Lk_m af_Lk_m sub_Lk_p offs_Lk_p upd_Lk_p af_Lk_p
end Go.Am

set_option linter.unusedVariables false
namespace Go.Am
open Go Go.Proofs

section
variable {H : Type} {enc : TypeId × Value → H} {P : Program} {w : World} {α : Type}
abbrev MA : MM := fun _ => .absent
theorem CR.none {M : MM} : CR M w [] [] := ⟨rfl, fun i x v h => by simp at h⟩
theorem CR.one {M : MM} {x v} (h : VRel M w x v) : CR M w [x] [v] := ⟨rfl, fun i y u h1 h2 => by cases i with | zero => simp at h1 h2; subst h1; subst h2; exact h | succ i => simp at h1⟩
theorem CR.step {M : MM} {a b : List AV} {cs : List Value} {off n : Nat} (h1 : CR M w a ((cs.drop off).take n)) (h2 : CR M w b (cs.drop (off + n))) : CR M w (a ++ b) (cs.drop off) := by
  have := h1.append h2
  rw [← List.drop_drop, List.take_append_drop] at this
  exact this
theorem CR.last {M : MM} {a : List AV} {cs : List Value} {off n : Nat} (h1 : CR M w a ((cs.drop off).take n)) (hl : cs.length = off + n) : CR M w a (cs.drop off) := by
  rw [List.take_of_length_le (by simp; omega)] at h1
  exact h1
/-- cells that are read as of a type -/
def Rd (enc : TypeId × Value → H) (P : Program) (w : World) (t : TypeId) (en : α → AV) (good : α → Prop) : Prop :=
  ∀ (fuel : Nat) (cs : List Value) (x : DataW H × List MemPlace), DataW.trod enc P w 0 (fun _ => true) true fuel t cs = some x → ∃ a, CR MA w (flat (en a)) cs ∧ good a
theorem rd_int {t k} (ht : P.underlying t = some (.int k)) : Rd enc P w t (fun n => .val (.int k n)) (fun n => (Lit.int k n).wf = true) := by
  intro fuel cs x h
  obtain ⟨n, rfl, -, hw⟩ := DataW.trod_int ht h
  exact ⟨n, CR.one (.val _ rfl), hw⟩
theorem rd_bool {t} (ht : P.underlying t = some .bool) : Rd enc P w t (fun n => .val (.bool n)) (fun _ => True) := by
  intro fuel cs x h
  obtain ⟨n, rfl, -⟩ := DataW.trod_bool ht h
  exact ⟨n, CR.one (.val _ rfl), trivial⟩
theorem rd_string {t} (ht : P.underlying t = some .string) : Rd enc P w t (fun n => .val (.string n)) (fun n => n.size ≤ maxLen) := by
  intro fuel cs x h
  obtain ⟨n, rfl, -, hs⟩ := DataW.trod_string ht h
  exact ⟨n, CR.one (.val _ rfl), hs⟩
theorem rd_array {t n e sz} {en : α → AV} {good : α → Prop} (ht : P.underlying t = some (.array n e)) (hsz : P.cellsOf e = sz) (hall : P.cellsOf t = n * sz) (hel : Rd enc P w e en good) :
    Rd enc P w t (fun l : List α => .agg (l.map en)) (fun l => l.length = n ∧ ∀ a ∈ l, good a) := by
  intro fuel cs x h
  obtain ⟨xs, m, -, -, hl, hxl, hf⟩ := DataW.trod_array ht h
  have key : ∀ k, k ≤ n → ∃ l : List α, l.length = k ∧ (∀ a ∈ l, good a) ∧ CR MA w (flats (l.map en)) (cs.take (k * sz)) := by
    intro k
    induction k with
    | zero => intro _; exact ⟨[], rfl, by simp, by simpa [flats] using CR.none⟩
    | succ k ih =>
      intro hk
      obtain ⟨l, h1, h2, h3⟩ := ih (by omega)
      have h4 := hf k (by omega)
      obtain ⟨a, h5, h6⟩ := hel _ _ _ (h4.trans (List.getElem?_eq_getElem (by omega)))
      refine ⟨l ++ [a], by simp [h1], fun b hb => ?_, ?_⟩
      · rcases List.mem_append.1 hb with hb | hb
        · exact h2 b hb
        · simp at hb; subst hb; exact h6
      · rw [hsz] at h5
        have := h3.append h5
        rw [List.map_append, flats_append]
        have e : List.take ((k + 1) * sz) cs = List.take (k * sz) cs ++ List.take sz (List.drop (k * sz) cs) := by
          rw [Nat.succ_mul, List.take_add]
        rw [e]
        simpa [flats] using this
  obtain ⟨l, h1, h2, h3⟩ := key n (Nat.le_refl _)
  refine ⟨l, ?_, h1, h2⟩
  rw [List.take_of_length_le (by omega)] at h3
  simpa [flat] using h3
theorem cellsAt_add {a b : List Value} {bl off : Nat} (h1 : CellsAt w bl off a) (h2 : CellsAt w bl (off + a.length) b) : CellsAt w bl off (a ++ b) := by
  intro i v hv
  by_cases hi : i < a.length
  · rw [List.getElem?_append_left hi] at hv
    exact h1 i v hv
  · rw [List.getElem?_append_right (by omega)] at hv
    have := h2 _ v hv
    rwa [show off + a.length + (i - a.length) = off + i by omega] at this
theorem rd_slice {t e sz} {en : α → AV} {good : α → Prop} (ht : P.underlying t = some (.slice e)) (hsz : P.cellsOf e = sz) (hpos : 0 < sz) (hfl : ∀ a, (flat (en a)).length = sz ∧ storable (en a) = true) (hel : Rd enc P w e en good) :
    Rd enc P w t (fun l : List α => .il sz (l.map en)) (fun l => l.length < 9223372036854775808 ∧ ∀ a ∈ l, good a) := by
  intro fuel cs x h
  rcases DataW.trod_slice ht h with ⟨rfl, -⟩ | ⟨a, len, cap, els, rest, m, -, rfl, -, -, hlc, hcm, hel0, hf, -, -⟩
  · exact ⟨[], CR.one (.il sz [] none 0 [] (Nat.le_refl _) (by simp) (by simp [flats]) (fun h => absurd rfl h) (by simp)), by simp, by simp⟩
  · obtain ⟨b, off, spot⟩ := a
    have hsp : 0 < len → spot = none := by
      intro hi
      have h4 := (hf 0 hi).trans (List.getElem?_eq_getElem (by omega))
      simp only [Option.bind_eq_some_iff] at h4
      obtain ⟨us, h5, h6⟩ := h4
      obtain ⟨-, h9, h10⟩ := World.cells?_some h5
      rw [hsz] at h9 h10
      have h0 := h10 0 hpos
      rw [List.getElem?_eq_getElem (by omega)] at h0
      simpa [Addr.add] using World.cell?_spot h0
    have one : ∀ i, i < len → ∃ (v : α) (us : List Value), good v ∧ us.length = sz ∧ CR MA w (flat (en v)) us ∧ CellsAt w b (off + i * sz) us := by
      intro i hi
      have h4 := (hf i hi).trans (List.getElem?_eq_getElem (by omega))
      simp only [Option.bind_eq_some_iff] at h4
      obtain ⟨us, h5, h6⟩ := h4
      obtain ⟨v, h7, h8⟩ := hel _ _ _ h6
      obtain ⟨-, h9, h10⟩ := World.cells?_some h5
      rw [hsz] at h9 h10
      have hs := hsp (by omega)
      subst hs
      refine ⟨v, us, h8, h9, h7, fun j u hj => ?_⟩
      have hj' : j < sz := by rw [← h9]; exact (List.getElem?_eq_some_iff.1 hj).1
      have := h10 j hj'
      rw [hj, Go.WideShapes.add_plain, Go.WideShapes.add_plain] at this
      exact this
    have key : ∀ k, k ≤ len → ∃ (l : List α) (vs : List Value), l.length = k ∧ (∀ a ∈ l, good a) ∧ vs.length = k * sz ∧ CR MA w (flats (l.map en)) vs ∧ CellsAt w b off vs := by
      intro k
      induction k with
      | zero => intro _; exact ⟨[], [], rfl, by simp, by simp, by simpa [flats] using CR.none, fun i v hv => by simp at hv⟩
      | succ k ih =>
        intro hk
        obtain ⟨l, vs, h1, h2, h3, h4, h5⟩ := ih (by omega)
        obtain ⟨v, us, k1, k2, k3, k4⟩ := one k (by omega)
        refine ⟨l ++ [v], vs ++ us, by simp [h1], fun b hb => ?_, by simp [h3, k2, Nat.succ_mul], ?_, ?_⟩
        · rcases List.mem_append.1 hb with hb | hb
          · exact h2 b hb
          · simp at hb; subst hb; exact k1
        · rw [List.map_append, flats_append]
          simpa [flats] using h4.append k3
        · refine cellsAt_add h5 ?_
          rw [h3]; exact k4
    obtain ⟨l, vs, h1, h2, h3, h4, h5⟩ := key len (Nat.le_refl _)
    refine ⟨l, CR.one ?_, by unfold maxLen at hcm; omega, h2⟩
    have hll : (l.map en).length = len := by simp [h1]
    rw [← hll]
    refine .il sz (l.map en) _ cap vs (by omega) (fun x hx => ?_) h4.1 (fun hne => ?_) h4.2
    · obtain ⟨a, -, rfl⟩ := List.mem_map.1 hx
      exact hfl a
    · have hp : 0 < len := by rw [← hll]; exact List.length_pos_iff.2 hne
      have hs := hsp hp
      subst hs
      refine ⟨b, off, rfl, (fun hb => by obtain ⟨o, a, ho, -⟩ := hb; cases ho), ?_, h5⟩
      have : 0 < vs.length := by rw [h3]; exact Nat.mul_pos hp hpos
      have h6 := h5 0 _ (List.getElem?_eq_getElem this)
      exact World.block_lt_of_cell? w _ h6
end
end Go.Am

set_option linter.unusedVariables false
namespace Go.Am
open Go Go.Proofs
section
variable {H : Type} {enc : TypeId × Value → H} {w : World}
theorem rd_args : Rd enc Try.prog w 37 (fun l : List Int => AV.il 1 (l.map I)) Len := by
  intro fuel cs x h
  obtain ⟨l, h1, h2, h3⟩ := rd_slice (sz := 1) Try.underlying37 (by kernel_rfl) (by decide) (fun a => ⟨rfl, rfl⟩) (rd_int (k := .i64) Try.underlying3) _ _ _ h
  exact ⟨l, h1, h2⟩
theorem rd_bytes : Rd enc Try.prog w 146 bytesAV Len := by
  intro fuel cs x h
  obtain ⟨l, h1, h2, h3⟩ := rd_slice (sz := 1) Try.underlying146 (by kernel_rfl) (by decide) (fun a => ⟨rfl, rfl⟩) (rd_int (k := .u8) Try.underlying5) _ _ _ h
  exact ⟨l, h1, h2⟩
theorem rd_ins : Rd enc Try.prog w 39 MIns.enc MIns.Lens := by
  intro fuel cs x h
  obtain ⟨xs, n, -, -, hl, hxl, hf⟩ := DataW.trod_struct Try.underlying39 h
  rw [show Try.prog.cellsOf 39 = 11 by kernel_rfl] at hl
  have hxl : xs.length = 11 := hxl
  have e0 : DataW.trod enc Try.prog w 0 (fun _ => true) true n 3 ((cs.drop 0).take (Try.prog.cellsOf 3)) = xs[0]? := hf 0 _ rfl
  rw [show Try.prog.cellsOf 3 = 1 by kernel_rfl] at e0
  obtain ⟨a0, c0, g0⟩ := rd_int (k := .i64) Try.underlying3 _ _ _ (e0.trans (List.getElem?_eq_getElem (by omega)))
  have e1 : DataW.trod enc Try.prog w 0 (fun _ => true) true n 3 ((cs.drop 1).take (Try.prog.cellsOf 3)) = xs[1]? := hf 1 _ rfl
  rw [show Try.prog.cellsOf 3 = 1 by kernel_rfl] at e1
  obtain ⟨a1, c1, g1⟩ := rd_int (k := .i64) Try.underlying3 _ _ _ (e1.trans (List.getElem?_eq_getElem (by omega)))
  have e2 : DataW.trod enc Try.prog w 0 (fun _ => true) true n 3 ((cs.drop 2).take (Try.prog.cellsOf 3)) = xs[2]? := hf 2 _ rfl
  rw [show Try.prog.cellsOf 3 = 1 by kernel_rfl] at e2
  obtain ⟨a2, c2, g2⟩ := rd_int (k := .i64) Try.underlying3 _ _ _ (e2.trans (List.getElem?_eq_getElem (by omega)))
  have e3 : DataW.trod enc Try.prog w 0 (fun _ => true) true n 3 ((cs.drop 3).take (Try.prog.cellsOf 3)) = xs[3]? := hf 3 _ rfl
  rw [show Try.prog.cellsOf 3 = 1 by kernel_rfl] at e3
  obtain ⟨a3, c3, g3⟩ := rd_int (k := .i64) Try.underlying3 _ _ _ (e3.trans (List.getElem?_eq_getElem (by omega)))
  have e4 : DataW.trod enc Try.prog w 0 (fun _ => true) true n 3 ((cs.drop 4).take (Try.prog.cellsOf 3)) = xs[4]? := hf 4 _ rfl
  rw [show Try.prog.cellsOf 3 = 1 by kernel_rfl] at e4
  obtain ⟨a4, c4, g4⟩ := rd_int (k := .i64) Try.underlying3 _ _ _ (e4.trans (List.getElem?_eq_getElem (by omega)))
  have e5 : DataW.trod enc Try.prog w 0 (fun _ => true) true n 3 ((cs.drop 5).take (Try.prog.cellsOf 3)) = xs[5]? := hf 5 _ rfl
  rw [show Try.prog.cellsOf 3 = 1 by kernel_rfl] at e5
  obtain ⟨a5, c5, g5⟩ := rd_int (k := .i64) Try.underlying3 _ _ _ (e5.trans (List.getElem?_eq_getElem (by omega)))
  have e6 : DataW.trod enc Try.prog w 0 (fun _ => true) true n 3 ((cs.drop 6).take (Try.prog.cellsOf 3)) = xs[6]? := hf 6 _ rfl
  rw [show Try.prog.cellsOf 3 = 1 by kernel_rfl] at e6
  obtain ⟨a6, c6, g6⟩ := rd_int (k := .i64) Try.underlying3 _ _ _ (e6.trans (List.getElem?_eq_getElem (by omega)))
  have e7 : DataW.trod enc Try.prog w 0 (fun _ => true) true n 3 ((cs.drop 7).take (Try.prog.cellsOf 3)) = xs[7]? := hf 7 _ rfl
  rw [show Try.prog.cellsOf 3 = 1 by kernel_rfl] at e7
  obtain ⟨a7, c7, g7⟩ := rd_int (k := .i64) Try.underlying3 _ _ _ (e7.trans (List.getElem?_eq_getElem (by omega)))
  have e8 : DataW.trod enc Try.prog w 0 (fun _ => true) true n 36 ((cs.drop 8).take (Try.prog.cellsOf 36)) = xs[8]? := hf 8 _ rfl
  rw [show Try.prog.cellsOf 36 = 1 by kernel_rfl] at e8
  obtain ⟨a8, c8, g8⟩ := rd_int (k := .u32) Try.underlying36 _ _ _ (e8.trans (List.getElem?_eq_getElem (by omega)))
  have e9 : DataW.trod enc Try.prog w 0 (fun _ => true) true n 37 ((cs.drop 9).take (Try.prog.cellsOf 37)) = xs[9]? := hf 9 _ rfl
  rw [show Try.prog.cellsOf 37 = 1 by kernel_rfl] at e9
  obtain ⟨a9, c9, g9⟩ := rd_args _ _ _ (e9.trans (List.getElem?_eq_getElem (by omega)))
  have e10 : DataW.trod enc Try.prog w 0 (fun _ => true) true n 4 ((cs.drop 10).take (Try.prog.cellsOf 4)) = xs[10]? := hf 10 _ rfl
  rw [show Try.prog.cellsOf 4 = 1 by kernel_rfl] at e10
  obtain ⟨a10, c10, g10⟩ := rd_bool Try.underlying4 _ _ _ (e10.trans (List.getElem?_eq_getElem (by omega)))
  exact ⟨⟨a0, a1, a2, a3, a4, a5, a6, a7, a8, a9, a10⟩, (CR.step c0 (CR.step c1 (CR.step c2 (CR.step c3 (CR.step c4 (CR.step c5 (CR.step c6 (CR.step c7 (CR.step c8 (CR.step c9 (CR.last c10 hl))))))))))), ⟨g9⟩⟩
theorem rd_insl : Rd enc Try.prog w 33 (fun l : List MIns => AV.il 11 (l.map MIns.enc)) (fun l => Len l ∧ ∀ i ∈ l, i.Lens) := by
  intro fuel cs x h
  obtain ⟨l, h1, h2, h3⟩ := rd_slice (sz := 11) Try.underlying33 (by kernel_rfl) (by decide) (fun a => ⟨flen_ins, by simp only [MIns.enc, go_sem]⟩) (rd_ins) _ _ _ h
  exact ⟨l, h1, ⟨h2, h3⟩⟩
theorem rd_blk : Rd enc Try.prog w 35 MBlk.enc MBlk.Lens := by
  intro fuel cs x h
  obtain ⟨xs, n, -, -, hl, hxl, hf⟩ := DataW.trod_struct Try.underlying35 h
  rw [show Try.prog.cellsOf 35 = 5 by kernel_rfl] at hl
  have hxl : xs.length = 5 := hxl
  have e0 : DataW.trod enc Try.prog w 0 (fun _ => true) true n 33 ((cs.drop 0).take (Try.prog.cellsOf 33)) = xs[0]? := hf 0 _ rfl
  rw [show Try.prog.cellsOf 33 = 1 by kernel_rfl] at e0
  obtain ⟨a0, c0, g0⟩ := rd_insl _ _ _ (e0.trans (List.getElem?_eq_getElem (by omega)))
  have e1 : DataW.trod enc Try.prog w 0 (fun _ => true) true n 3 ((cs.drop 1).take (Try.prog.cellsOf 3)) = xs[1]? := hf 1 _ rfl
  rw [show Try.prog.cellsOf 3 = 1 by kernel_rfl] at e1
  obtain ⟨a1, c1, g1⟩ := rd_int (k := .i64) Try.underlying3 _ _ _ (e1.trans (List.getElem?_eq_getElem (by omega)))
  have e2 : DataW.trod enc Try.prog w 0 (fun _ => true) true n 3 ((cs.drop 2).take (Try.prog.cellsOf 3)) = xs[2]? := hf 2 _ rfl
  rw [show Try.prog.cellsOf 3 = 1 by kernel_rfl] at e2
  obtain ⟨a2, c2, g2⟩ := rd_int (k := .i64) Try.underlying3 _ _ _ (e2.trans (List.getElem?_eq_getElem (by omega)))
  have e3 : DataW.trod enc Try.prog w 0 (fun _ => true) true n 3 ((cs.drop 3).take (Try.prog.cellsOf 3)) = xs[3]? := hf 3 _ rfl
  rw [show Try.prog.cellsOf 3 = 1 by kernel_rfl] at e3
  obtain ⟨a3, c3, g3⟩ := rd_int (k := .i64) Try.underlying3 _ _ _ (e3.trans (List.getElem?_eq_getElem (by omega)))
  have e4 : DataW.trod enc Try.prog w 0 (fun _ => true) true n 3 ((cs.drop 4).take (Try.prog.cellsOf 3)) = xs[4]? := hf 4 _ rfl
  rw [show Try.prog.cellsOf 3 = 1 by kernel_rfl] at e4
  obtain ⟨a4, c4, g4⟩ := rd_int (k := .i64) Try.underlying3 _ _ _ (e4.trans (List.getElem?_eq_getElem (by omega)))
  exact ⟨⟨a0, a1, a2, a3, a4⟩, (CR.step c0 (CR.step c1 (CR.step c2 (CR.step c3 (CR.last c4 hl))))), ⟨g0.1, g0.2⟩⟩
theorem rd_blks : Rd enc Try.prog w 30 (fun l : List MBlk => AV.il 5 (l.map MBlk.enc)) (fun l => Len l ∧ ∀ i ∈ l, i.Lens) := by
  intro fuel cs x h
  obtain ⟨l, h1, h2, h3⟩ := rd_slice (sz := 5) Try.underlying30 (by kernel_rfl) (by decide) (fun a => ⟨flen_blk, by simp only [MBlk.enc, go_sem]⟩) (rd_blk) _ _ _ h
  exact ⟨l, h1, ⟨h2, h3⟩⟩
theorem rd_slot : Rd enc Try.prog w 95 MSlot.enc (fun _ => True) := by
  intro fuel cs x h
  obtain ⟨xs, n, -, -, hl, hxl, hf⟩ := DataW.trod_struct Try.underlying95 h
  rw [show Try.prog.cellsOf 95 = 4 by kernel_rfl] at hl
  have hxl : xs.length = 4 := hxl
  have e0 : DataW.trod enc Try.prog w 0 (fun _ => true) true n 9 ((cs.drop 0).take (Try.prog.cellsOf 9)) = xs[0]? := hf 0 _ rfl
  rw [show Try.prog.cellsOf 9 = 1 by kernel_rfl] at e0
  obtain ⟨a0, c0, g0⟩ := rd_string Try.underlying9 _ _ _ (e0.trans (List.getElem?_eq_getElem (by omega)))
  have e1 : DataW.trod enc Try.prog w 0 (fun _ => true) true n 3 ((cs.drop 1).take (Try.prog.cellsOf 3)) = xs[1]? := hf 1 _ rfl
  rw [show Try.prog.cellsOf 3 = 1 by kernel_rfl] at e1
  obtain ⟨a1, c1, g1⟩ := rd_int (k := .i64) Try.underlying3 _ _ _ (e1.trans (List.getElem?_eq_getElem (by omega)))
  have e2 : DataW.trod enc Try.prog w 0 (fun _ => true) true n 3 ((cs.drop 2).take (Try.prog.cellsOf 3)) = xs[2]? := hf 2 _ rfl
  rw [show Try.prog.cellsOf 3 = 1 by kernel_rfl] at e2
  obtain ⟨a2, c2, g2⟩ := rd_int (k := .i64) Try.underlying3 _ _ _ (e2.trans (List.getElem?_eq_getElem (by omega)))
  have e3 : DataW.trod enc Try.prog w 0 (fun _ => true) true n 3 ((cs.drop 3).take (Try.prog.cellsOf 3)) = xs[3]? := hf 3 _ rfl
  rw [show Try.prog.cellsOf 3 = 1 by kernel_rfl] at e3
  obtain ⟨a3, c3, g3⟩ := rd_int (k := .i64) Try.underlying3 _ _ _ (e3.trans (List.getElem?_eq_getElem (by omega)))
  exact ⟨⟨a0, a1, a2, a3⟩, (CR.step c0 (CR.step c1 (CR.step c2 (CR.last c3 hl)))), trivial⟩
theorem rd_slots : Rd enc Try.prog w 22 (fun l : List MSlot => AV.il 4 (l.map MSlot.enc)) Len := by
  intro fuel cs x h
  obtain ⟨l, h1, h2, h3⟩ := rd_slice (sz := 4) Try.underlying22 (by kernel_rfl) (by decide) (fun a => ⟨flen_slot, by simp only [MSlot.enc, go_sem]⟩) (rd_slot) _ _ _ h
  exact ⟨l, h1, h2⟩
theorem rd_proc : Rd enc Try.prog w 32 MProc.enc MProc.Lens := by
  intro fuel cs x h
  obtain ⟨xs, n, -, -, hl, hxl, hf⟩ := DataW.trod_struct Try.underlying32 h
  rw [show Try.prog.cellsOf 32 = 6 by kernel_rfl] at hl
  have hxl : xs.length = 6 := hxl
  have e0 : DataW.trod enc Try.prog w 0 (fun _ => true) true n 9 ((cs.drop 0).take (Try.prog.cellsOf 9)) = xs[0]? := hf 0 _ rfl
  rw [show Try.prog.cellsOf 9 = 1 by kernel_rfl] at e0
  obtain ⟨a0, c0, g0⟩ := rd_string Try.underlying9 _ _ _ (e0.trans (List.getElem?_eq_getElem (by omega)))
  have e1 : DataW.trod enc Try.prog w 0 (fun _ => true) true n 4 ((cs.drop 1).take (Try.prog.cellsOf 4)) = xs[1]? := hf 1 _ rfl
  rw [show Try.prog.cellsOf 4 = 1 by kernel_rfl] at e1
  obtain ⟨a1, c1, g1⟩ := rd_bool Try.underlying4 _ _ _ (e1.trans (List.getElem?_eq_getElem (by omega)))
  have e2 : DataW.trod enc Try.prog w 0 (fun _ => true) true n 3 ((cs.drop 2).take (Try.prog.cellsOf 3)) = xs[2]? := hf 2 _ rfl
  rw [show Try.prog.cellsOf 3 = 1 by kernel_rfl] at e2
  obtain ⟨a2, c2, g2⟩ := rd_int (k := .i64) Try.underlying3 _ _ _ (e2.trans (List.getElem?_eq_getElem (by omega)))
  have e3 : DataW.trod enc Try.prog w 0 (fun _ => true) true n 3 ((cs.drop 3).take (Try.prog.cellsOf 3)) = xs[3]? := hf 3 _ rfl
  rw [show Try.prog.cellsOf 3 = 1 by kernel_rfl] at e3
  obtain ⟨a3, c3, g3⟩ := rd_int (k := .i64) Try.underlying3 _ _ _ (e3.trans (List.getElem?_eq_getElem (by omega)))
  have e4 : DataW.trod enc Try.prog w 0 (fun _ => true) true n 22 ((cs.drop 4).take (Try.prog.cellsOf 22)) = xs[4]? := hf 4 _ rfl
  rw [show Try.prog.cellsOf 22 = 1 by kernel_rfl] at e4
  obtain ⟨a4, c4, g4⟩ := rd_slots _ _ _ (e4.trans (List.getElem?_eq_getElem (by omega)))
  have e5 : DataW.trod enc Try.prog w 0 (fun _ => true) true n 30 ((cs.drop 5).take (Try.prog.cellsOf 30)) = xs[5]? := hf 5 _ rfl
  rw [show Try.prog.cellsOf 30 = 1 by kernel_rfl] at e5
  obtain ⟨a5, c5, g5⟩ := rd_blks _ _ _ (e5.trans (List.getElem?_eq_getElem (by omega)))
  exact ⟨⟨a0, a1, a2, a3, a4, a5⟩, (CR.step c0 (CR.step c1 (CR.step c2 (CR.step c3 (CR.step c4 (CR.last c5 hl)))))), ⟨g4, g5.1, g5.2⟩⟩
theorem rd_procs : Rd enc Try.prog w 24 (fun l : List MProc => AV.il 6 (l.map MProc.enc)) (fun l => Len l ∧ ∀ i ∈ l, i.Lens) := by
  intro fuel cs x h
  obtain ⟨l, h1, h2, h3⟩ := rd_slice (sz := 6) Try.underlying24 (by kernel_rfl) (by decide) (fun a => ⟨flen_proc, by simp only [MProc.enc, go_sem]⟩) (rd_proc) _ _ _ h
  exact ⟨l, h1, ⟨h2, h3⟩⟩
theorem rd_datas : Rd enc Try.prog w 23 (fun l : List (List Int) => AV.il 1 (l.map bytesAV)) (fun l => Len l ∧ ∀ i ∈ l, Len i) := by
  intro fuel cs x h
  obtain ⟨l, h1, h2, h3⟩ := rd_slice (sz := 1) Try.underlying23 (by kernel_rfl) (by decide) (fun a => ⟨rfl, rfl⟩) (rd_bytes) _ _ _ h
  exact ⟨l, h1, ⟨h2, h3⟩⟩
theorem rd_mod : Rd enc Try.prog w 26 MMod.enc MMod.Lens := by
  intro fuel cs x h
  obtain ⟨xs, n, -, -, hl, hxl, hf⟩ := DataW.trod_struct Try.underlying26 h
  rw [show Try.prog.cellsOf 26 = 4 by kernel_rfl] at hl
  have hxl : xs.length = 4 := hxl
  have e0 : DataW.trod enc Try.prog w 0 (fun _ => true) true n 22 ((cs.drop 0).take (Try.prog.cellsOf 22)) = xs[0]? := hf 0 _ rfl
  rw [show Try.prog.cellsOf 22 = 1 by kernel_rfl] at e0
  obtain ⟨a0, c0, g0⟩ := rd_slots _ _ _ (e0.trans (List.getElem?_eq_getElem (by omega)))
  have e1 : DataW.trod enc Try.prog w 0 (fun _ => true) true n 23 ((cs.drop 1).take (Try.prog.cellsOf 23)) = xs[1]? := hf 1 _ rfl
  rw [show Try.prog.cellsOf 23 = 1 by kernel_rfl] at e1
  obtain ⟨a1, c1, g1⟩ := rd_datas _ _ _ (e1.trans (List.getElem?_eq_getElem (by omega)))
  have e2 : DataW.trod enc Try.prog w 0 (fun _ => true) true n 24 ((cs.drop 2).take (Try.prog.cellsOf 24)) = xs[2]? := hf 2 _ rfl
  rw [show Try.prog.cellsOf 24 = 1 by kernel_rfl] at e2
  obtain ⟨a2, c2, g2⟩ := rd_procs _ _ _ (e2.trans (List.getElem?_eq_getElem (by omega)))
  have e3 : DataW.trod enc Try.prog w 0 (fun _ => true) true n 3 ((cs.drop 3).take (Try.prog.cellsOf 3)) = xs[3]? := hf 3 _ rfl
  rw [show Try.prog.cellsOf 3 = 1 by kernel_rfl] at e3
  obtain ⟨a3, c3, g3⟩ := rd_int (k := .i64) Try.underlying3 _ _ _ (e3.trans (List.getElem?_eq_getElem (by omega)))
  exact ⟨⟨a0, a1, a2, a3⟩, (CR.step c0 (CR.step c1 (CR.step c2 (CR.last c3 hl)))), ⟨g0, g1.1, g1.2, g2.1, g2.2⟩⟩
end
end Go.Am

set_option linter.unusedVariables false
namespace Go.Am
open Go Go.Proofs Go.RowKit
theorem inv0 {W : World} : Inv MA [] W := ⟨fun o ob h => (by simp at h), fun o h => (by simp at h), fun _ _ => rfl, fun o o' a a' h => (by cases h), fun o a h => (by cases h)⟩
theorem law_calls {P : Program} {f : FuncId} {args : List AV} {cargs : Array Value} {W : World} (hr : RunsK P f args [] (fun a _ => a = .val (.bool true))) (ht : Tmps MA W args cargs) :
    Calls P f cargs W fun e W' => e = .returned (.bool true) ∧ Below W.heap.size W W' := by
  refine (hr.2 MA W cargs inv0 ht).mono fun e W' hx => ?_
  obtain ⟨v, he, y, h', M', hk, -, hv, hev, -, -⟩ := hx
  subst hk
  have := vrel_bool hv
  subst this
  exact ⟨he, hev.os, hev.tape, hev.output, hev.size, fun k hk => hev.same k hk (fun hb => by obtain ⟨o, a, ho, -⟩ := hb; cases ho)⟩
theorem agg_of {M : MM} {w : World} {xs : List AV} {cs : Array Value} (h : CR M w (flats xs) cs.toList) : VRel M w (.agg xs) (.agg cs) :=
  .agg xs cs (by have := h.1; simpa using this) fun i x v h1 h2 => h.2 i x v h1 (by simpa using h2)
theorem mod_of {M : MM} {w : World} {m : MMod} {cs : Array Value} (h : CR M w (flat m.enc) cs.toList) : VRel M w m.enc (.agg cs) := by
  unfold MMod.enc at *
  rw [flat_agg] at h
  exact agg_of h
theorem tmps_nil {M : MM} {w : World} : Tmps M w [] #[] := ⟨rfl, fun i x v h => (by simp at h)⟩
theorem tmps_cons {M : MM} {w : World} {x v} {xs : List AV} {vs : List Value} (h : VRel M w x v) (ht : Tmps M w xs vs.toArray) : Tmps M w (x :: xs) (v :: vs).toArray := by
  refine ⟨by have := ht.1; simpa using this, fun i y u h1 h2 => ?_⟩
  cases i with
  | zero => simp at h1 h2; subst h1; subst h2; exact h
  | succ i => exact ht.2 i y u (by simpa using h1) (by simpa using h2)
end Go.Am
