import Derived.Test.YtdlfodakdapghaaCode2
import Derived.Test.YtdlfodakdapghaaSig
set_option linter.unusedVariables false
set_option maxRecDepth 100000
namespace Go.Proofs.Ytdlfodakdapghaa
open Go.Ev
/-! zugzwang/commit.Coin -/
def commit_Coin.body (m0 : Option Addr) (game1 : Array Value) (player2 : Int) (side3 : Int) (nonce4 : Array Value) (R : Value → Heap → Prop) (h : Heap) : Prop :=
  newK h game1 T.api_Tag (fun (game_1 : Option Addr) h =>
  newK h nonce4 T.api_Tag (fun (nonce_2 : Option Addr) h =>
  newK h (zerosOf Try.prog T.api_Tag) T.api_Tag (fun (v3 : Option Addr) h =>
  sliceArrK game_1 32 none none none (sizeOfT Try.prog T.uint8) (fun (v4 : Sl) =>
  loadAggK (sizeOfT Try.prog T.api_Tag) h nonce_2 (fun (v5 : Array Value) =>
  ((callK Try.prog .bool F.commit_bit #[.int .i64 player2] (fun (v6 : Bool) h =>
  stillAggK (sizeOfT Try.prog T.api_Tag) h nonce_2 v5 ∧
  if v6 = true then
  ((callK Try.prog .bool F.commit_bit #[.int .i64 side3] (fun (v7 : Bool) h =>
  stillAggK (sizeOfT Try.prog T.api_Tag) h nonce_2 v5 ∧
  ((newSlK h 4 #[.int .u8 99, .int .u8 111, .int .u8 105, .int .u8 110] T.uint8 (fun (v8 : Sl) h =>
  ((opK Try.prog .slice (convert T.sl_uint8 T.sl_uint8 (.slice v8.a v8.n v8.c)) (fun (v9 : Sl) h =>
  ((newSlK h 1 #[(.int .u8 (IntKind.u8.wrap player2))] T.uint8 (fun (v10 : Sl) h =>
  newSlK h 1 #[(.int .u8 (IntKind.u8.wrap side3))] T.uint8 (fun (v11 : Sl) h =>
  newSlK h 4 #[.slice v9.a v9.n v9.c, .slice v4.a v4.n v4.c, .slice v10.a v10.n v10.c, .slice v11.a v11.n v11.c] T.sl_uint8 (fun (v12 : Sl) h =>
  callK Try.prog (Kd.pair .agg (.int .i64)) F.commit_some #[.pointer m0, .bool v7, .agg v5, .slice v12.a v12.n v12.c] (fun (v13 : Array Value × Int) h =>
  storeAggK (sizeOfT Try.prog T.api_Tag) h v3 v13.1 (fun h =>
  quietK Try.prog .agg (Instr.loadAt T.api_Tag (.pointer v3)) (fun (r14 : Array Value) =>
  R (.tuple #[.agg r14, .int .i64 v13.2]) h) h)) h)))) ∧
  (newSlK h 1 #[(.int .u8 (IntKind.u8.wrap side3))] T.uint8 (fun (v15 : Sl) h =>
  newSlK h 1 #[(.int .u8 (IntKind.u8.wrap player2))] T.uint8 (fun (v16 : Sl) h =>
  newSlK h 4 #[.slice v9.a v9.n v9.c, .slice v4.a v4.n v4.c, .slice v16.a v16.n v16.c, .slice v15.a v15.n v15.c] T.sl_uint8 (fun (v17 : Sl) h =>
  callK Try.prog (Kd.pair .agg (.int .i64)) F.commit_some #[.pointer m0, .bool v7, .agg v5, .slice v17.a v17.n v17.c] (fun (v18 : Array Value × Int) h =>
  storeAggK (sizeOfT Try.prog T.api_Tag) h v3 v18.1 (fun h =>
  quietK Try.prog .agg (Instr.loadAt T.api_Tag (.pointer v3)) (fun (r19 : Array Value) =>
  R (.tuple #[.agg r19, .int .i64 v18.2]) h) h)) h)))))) h) ∧
  (((newSlK h 1 #[(.int .u8 (IntKind.u8.wrap player2))] T.uint8 (fun (v20 : Sl) h =>
  ((opK Try.prog .slice (convert T.sl_uint8 T.sl_uint8 (.slice v8.a v8.n v8.c)) (fun (v21 : Sl) h =>
  newSlK h 1 #[(.int .u8 (IntKind.u8.wrap side3))] T.uint8 (fun (v22 : Sl) h =>
  newSlK h 4 #[.slice v21.a v21.n v21.c, .slice v4.a v4.n v4.c, .slice v20.a v20.n v20.c, .slice v22.a v22.n v22.c] T.sl_uint8 (fun (v23 : Sl) h =>
  callK Try.prog (Kd.pair .agg (.int .i64)) F.commit_some #[.pointer m0, .bool v7, .agg v5, .slice v23.a v23.n v23.c] (fun (v24 : Array Value × Int) h =>
  storeAggK (sizeOfT Try.prog T.api_Tag) h v3 v24.1 (fun h =>
  quietK Try.prog .agg (Instr.loadAt T.api_Tag (.pointer v3)) (fun (r25 : Array Value) =>
  R (.tuple #[.agg r25, .int .i64 v24.2]) h) h)) h))) h) ∧
  (newSlK h 1 #[(.int .u8 (IntKind.u8.wrap side3))] T.uint8 (fun (v26 : Sl) h =>
  opK Try.prog .slice (convert T.sl_uint8 T.sl_uint8 (.slice v8.a v8.n v8.c)) (fun (v27 : Sl) h =>
  newSlK h 4 #[.slice v27.a v27.n v27.c, .slice v4.a v4.n v4.c, .slice v20.a v20.n v20.c, .slice v26.a v26.n v26.c] T.sl_uint8 (fun (v28 : Sl) h =>
  callK Try.prog (Kd.pair .agg (.int .i64)) F.commit_some #[.pointer m0, .bool v7, .agg v5, .slice v28.a v28.n v28.c] (fun (v29 : Array Value × Int) h =>
  storeAggK (sizeOfT Try.prog T.api_Tag) h v3 v29.1 (fun h =>
  quietK Try.prog .agg (Instr.loadAt T.api_Tag (.pointer v3)) (fun (r30 : Array Value) =>
  R (.tuple #[.agg r30, .int .i64 v29.2]) h) h)) h)) h))))) ∧
  (newSlK h 1 #[(.int .u8 (IntKind.u8.wrap side3))] T.uint8 (fun (v31 : Sl) h =>
  ((opK Try.prog .slice (convert T.sl_uint8 T.sl_uint8 (.slice v8.a v8.n v8.c)) (fun (v32 : Sl) h =>
  newSlK h 1 #[(.int .u8 (IntKind.u8.wrap player2))] T.uint8 (fun (v33 : Sl) h =>
  newSlK h 4 #[.slice v32.a v32.n v32.c, .slice v4.a v4.n v4.c, .slice v33.a v33.n v33.c, .slice v31.a v31.n v31.c] T.sl_uint8 (fun (v34 : Sl) h =>
  callK Try.prog (Kd.pair .agg (.int .i64)) F.commit_some #[.pointer m0, .bool v7, .agg v5, .slice v34.a v34.n v34.c] (fun (v35 : Array Value × Int) h =>
  storeAggK (sizeOfT Try.prog T.api_Tag) h v3 v35.1 (fun h =>
  quietK Try.prog .agg (Instr.loadAt T.api_Tag (.pointer v3)) (fun (r36 : Array Value) =>
  R (.tuple #[.agg r36, .int .i64 v35.2]) h) h)) h))) h) ∧
  (newSlK h 1 #[(.int .u8 (IntKind.u8.wrap player2))] T.uint8 (fun (v37 : Sl) h =>
  opK Try.prog .slice (convert T.sl_uint8 T.sl_uint8 (.slice v8.a v8.n v8.c)) (fun (v38 : Sl) h =>
  newSlK h 4 #[.slice v38.a v38.n v38.c, .slice v4.a v4.n v4.c, .slice v37.a v37.n v37.c, .slice v31.a v31.n v31.c] T.sl_uint8 (fun (v39 : Sl) h =>
  callK Try.prog (Kd.pair .agg (.int .i64)) F.commit_some #[.pointer m0, .bool v7, .agg v5, .slice v39.a v39.n v39.c] (fun (v40 : Array Value × Int) h =>
  storeAggK (sizeOfT Try.prog T.api_Tag) h v3 v40.1 (fun h =>
  quietK Try.prog .agg (Instr.loadAt T.api_Tag (.pointer v3)) (fun (r41 : Array Value) =>
  R (.tuple #[.agg r41, .int .i64 v40.2]) h) h)) h)) h)))))))))) ∧
  (((newSlK h 1 #[(.int .u8 (IntKind.u8.wrap player2))] T.uint8 (fun (v42 : Sl) h =>
  ((newSlK h 4 #[.int .u8 99, .int .u8 111, .int .u8 105, .int .u8 110] T.uint8 (fun (v43 : Sl) h =>
  ((opK Try.prog .slice (convert T.sl_uint8 T.sl_uint8 (.slice v43.a v43.n v43.c)) (fun (v44 : Sl) h =>
  newSlK h 1 #[(.int .u8 (IntKind.u8.wrap side3))] T.uint8 (fun (v45 : Sl) h =>
  newSlK h 4 #[.slice v44.a v44.n v44.c, .slice v4.a v4.n v4.c, .slice v42.a v42.n v42.c, .slice v45.a v45.n v45.c] T.sl_uint8 (fun (v46 : Sl) h =>
  callK Try.prog (Kd.pair .agg (.int .i64)) F.commit_some #[.pointer m0, .bool v7, .agg v5, .slice v46.a v46.n v46.c] (fun (v47 : Array Value × Int) h =>
  storeAggK (sizeOfT Try.prog T.api_Tag) h v3 v47.1 (fun h =>
  quietK Try.prog .agg (Instr.loadAt T.api_Tag (.pointer v3)) (fun (r48 : Array Value) =>
  R (.tuple #[.agg r48, .int .i64 v47.2]) h) h)) h))) h) ∧
  (newSlK h 1 #[(.int .u8 (IntKind.u8.wrap side3))] T.uint8 (fun (v49 : Sl) h =>
  opK Try.prog .slice (convert T.sl_uint8 T.sl_uint8 (.slice v43.a v43.n v43.c)) (fun (v50 : Sl) h =>
  newSlK h 4 #[.slice v50.a v50.n v50.c, .slice v4.a v4.n v4.c, .slice v42.a v42.n v42.c, .slice v49.a v49.n v49.c] T.sl_uint8 (fun (v51 : Sl) h =>
  callK Try.prog (Kd.pair .agg (.int .i64)) F.commit_some #[.pointer m0, .bool v7, .agg v5, .slice v51.a v51.n v51.c] (fun (v52 : Array Value × Int) h =>
  storeAggK (sizeOfT Try.prog T.api_Tag) h v3 v52.1 (fun h =>
  quietK Try.prog .agg (Instr.loadAt T.api_Tag (.pointer v3)) (fun (r53 : Array Value) =>
  R (.tuple #[.agg r53, .int .i64 v52.2]) h) h)) h)) h))))) ∧
  (newSlK h 1 #[(.int .u8 (IntKind.u8.wrap side3))] T.uint8 (fun (v54 : Sl) h =>
  newSlK h 4 #[.int .u8 99, .int .u8 111, .int .u8 105, .int .u8 110] T.uint8 (fun (v55 : Sl) h =>
  opK Try.prog .slice (convert T.sl_uint8 T.sl_uint8 (.slice v55.a v55.n v55.c)) (fun (v56 : Sl) h =>
  newSlK h 4 #[.slice v56.a v56.n v56.c, .slice v4.a v4.n v4.c, .slice v42.a v42.n v42.c, .slice v54.a v54.n v54.c] T.sl_uint8 (fun (v57 : Sl) h =>
  callK Try.prog (Kd.pair .agg (.int .i64)) F.commit_some #[.pointer m0, .bool v7, .agg v5, .slice v57.a v57.n v57.c] (fun (v58 : Array Value × Int) h =>
  storeAggK (sizeOfT Try.prog T.api_Tag) h v3 v58.1 (fun h =>
  quietK Try.prog .agg (Instr.loadAt T.api_Tag (.pointer v3)) (fun (r59 : Array Value) =>
  R (.tuple #[.agg r59, .int .i64 v58.2]) h) h)) h)) h)))))) ∧
  (newSlK h 1 #[(.int .u8 (IntKind.u8.wrap side3))] T.uint8 (fun (v60 : Sl) h =>
  ((newSlK h 4 #[.int .u8 99, .int .u8 111, .int .u8 105, .int .u8 110] T.uint8 (fun (v61 : Sl) h =>
  ((opK Try.prog .slice (convert T.sl_uint8 T.sl_uint8 (.slice v61.a v61.n v61.c)) (fun (v62 : Sl) h =>
  newSlK h 1 #[(.int .u8 (IntKind.u8.wrap player2))] T.uint8 (fun (v63 : Sl) h =>
  newSlK h 4 #[.slice v62.a v62.n v62.c, .slice v4.a v4.n v4.c, .slice v63.a v63.n v63.c, .slice v60.a v60.n v60.c] T.sl_uint8 (fun (v64 : Sl) h =>
  callK Try.prog (Kd.pair .agg (.int .i64)) F.commit_some #[.pointer m0, .bool v7, .agg v5, .slice v64.a v64.n v64.c] (fun (v65 : Array Value × Int) h =>
  storeAggK (sizeOfT Try.prog T.api_Tag) h v3 v65.1 (fun h =>
  quietK Try.prog .agg (Instr.loadAt T.api_Tag (.pointer v3)) (fun (r66 : Array Value) =>
  R (.tuple #[.agg r66, .int .i64 v65.2]) h) h)) h))) h) ∧
  (newSlK h 1 #[(.int .u8 (IntKind.u8.wrap player2))] T.uint8 (fun (v67 : Sl) h =>
  opK Try.prog .slice (convert T.sl_uint8 T.sl_uint8 (.slice v61.a v61.n v61.c)) (fun (v68 : Sl) h =>
  newSlK h 4 #[.slice v68.a v68.n v68.c, .slice v4.a v4.n v4.c, .slice v67.a v67.n v67.c, .slice v60.a v60.n v60.c] T.sl_uint8 (fun (v69 : Sl) h =>
  callK Try.prog (Kd.pair .agg (.int .i64)) F.commit_some #[.pointer m0, .bool v7, .agg v5, .slice v69.a v69.n v69.c] (fun (v70 : Array Value × Int) h =>
  storeAggK (sizeOfT Try.prog T.api_Tag) h v3 v70.1 (fun h =>
  quietK Try.prog .agg (Instr.loadAt T.api_Tag (.pointer v3)) (fun (r71 : Array Value) =>
  R (.tuple #[.agg r71, .int .i64 v70.2]) h) h)) h)) h))))) ∧
  (newSlK h 1 #[(.int .u8 (IntKind.u8.wrap player2))] T.uint8 (fun (v72 : Sl) h =>
  newSlK h 4 #[.int .u8 99, .int .u8 111, .int .u8 105, .int .u8 110] T.uint8 (fun (v73 : Sl) h =>
  opK Try.prog .slice (convert T.sl_uint8 T.sl_uint8 (.slice v73.a v73.n v73.c)) (fun (v74 : Sl) h =>
  newSlK h 4 #[.slice v74.a v74.n v74.c, .slice v4.a v4.n v4.c, .slice v72.a v72.n v72.c, .slice v60.a v60.n v60.c] T.sl_uint8 (fun (v75 : Sl) h =>
  callK Try.prog (Kd.pair .agg (.int .i64)) F.commit_some #[.pointer m0, .bool v7, .agg v5, .slice v75.a v75.n v75.c] (fun (v76 : Array Value × Int) h =>
  storeAggK (sizeOfT Try.prog T.api_Tag) h v3 v76.1 (fun h =>
  quietK Try.prog .agg (Instr.loadAt T.api_Tag (.pointer v3)) (fun (r77 : Array Value) =>
  R (.tuple #[.agg r77, .int .i64 v76.2]) h) h)) h)) h)))))))))) h) ∧
  (((newSlK h 4 #[.int .u8 99, .int .u8 111, .int .u8 105, .int .u8 110] T.uint8 (fun (v78 : Sl) h =>
  ((callK Try.prog .bool F.commit_bit #[.int .i64 side3] (fun (v79 : Bool) h =>
  stillAggK (sizeOfT Try.prog T.api_Tag) h nonce_2 v5 ∧
  ((opK Try.prog .slice (convert T.sl_uint8 T.sl_uint8 (.slice v78.a v78.n v78.c)) (fun (v80 : Sl) h =>
  ((newSlK h 1 #[(.int .u8 (IntKind.u8.wrap player2))] T.uint8 (fun (v81 : Sl) h =>
  newSlK h 1 #[(.int .u8 (IntKind.u8.wrap side3))] T.uint8 (fun (v82 : Sl) h =>
  newSlK h 4 #[.slice v80.a v80.n v80.c, .slice v4.a v4.n v4.c, .slice v81.a v81.n v81.c, .slice v82.a v82.n v82.c] T.sl_uint8 (fun (v83 : Sl) h =>
  callK Try.prog (Kd.pair .agg (.int .i64)) F.commit_some #[.pointer m0, .bool v79, .agg v5, .slice v83.a v83.n v83.c] (fun (v84 : Array Value × Int) h =>
  storeAggK (sizeOfT Try.prog T.api_Tag) h v3 v84.1 (fun h =>
  quietK Try.prog .agg (Instr.loadAt T.api_Tag (.pointer v3)) (fun (r85 : Array Value) =>
  R (.tuple #[.agg r85, .int .i64 v84.2]) h) h)) h)))) ∧
  (newSlK h 1 #[(.int .u8 (IntKind.u8.wrap side3))] T.uint8 (fun (v86 : Sl) h =>
  newSlK h 1 #[(.int .u8 (IntKind.u8.wrap player2))] T.uint8 (fun (v87 : Sl) h =>
  newSlK h 4 #[.slice v80.a v80.n v80.c, .slice v4.a v4.n v4.c, .slice v87.a v87.n v87.c, .slice v86.a v86.n v86.c] T.sl_uint8 (fun (v88 : Sl) h =>
  callK Try.prog (Kd.pair .agg (.int .i64)) F.commit_some #[.pointer m0, .bool v79, .agg v5, .slice v88.a v88.n v88.c] (fun (v89 : Array Value × Int) h =>
  storeAggK (sizeOfT Try.prog T.api_Tag) h v3 v89.1 (fun h =>
  quietK Try.prog .agg (Instr.loadAt T.api_Tag (.pointer v3)) (fun (r90 : Array Value) =>
  R (.tuple #[.agg r90, .int .i64 v89.2]) h) h)) h)))))) h) ∧
  (((newSlK h 1 #[(.int .u8 (IntKind.u8.wrap player2))] T.uint8 (fun (v91 : Sl) h =>
  ((opK Try.prog .slice (convert T.sl_uint8 T.sl_uint8 (.slice v78.a v78.n v78.c)) (fun (v92 : Sl) h =>
  newSlK h 1 #[(.int .u8 (IntKind.u8.wrap side3))] T.uint8 (fun (v93 : Sl) h =>
  newSlK h 4 #[.slice v92.a v92.n v92.c, .slice v4.a v4.n v4.c, .slice v91.a v91.n v91.c, .slice v93.a v93.n v93.c] T.sl_uint8 (fun (v94 : Sl) h =>
  callK Try.prog (Kd.pair .agg (.int .i64)) F.commit_some #[.pointer m0, .bool v79, .agg v5, .slice v94.a v94.n v94.c] (fun (v95 : Array Value × Int) h =>
  storeAggK (sizeOfT Try.prog T.api_Tag) h v3 v95.1 (fun h =>
  quietK Try.prog .agg (Instr.loadAt T.api_Tag (.pointer v3)) (fun (r96 : Array Value) =>
  R (.tuple #[.agg r96, .int .i64 v95.2]) h) h)) h))) h) ∧
  (newSlK h 1 #[(.int .u8 (IntKind.u8.wrap side3))] T.uint8 (fun (v97 : Sl) h =>
  opK Try.prog .slice (convert T.sl_uint8 T.sl_uint8 (.slice v78.a v78.n v78.c)) (fun (v98 : Sl) h =>
  newSlK h 4 #[.slice v98.a v98.n v98.c, .slice v4.a v4.n v4.c, .slice v91.a v91.n v91.c, .slice v97.a v97.n v97.c] T.sl_uint8 (fun (v99 : Sl) h =>
  callK Try.prog (Kd.pair .agg (.int .i64)) F.commit_some #[.pointer m0, .bool v79, .agg v5, .slice v99.a v99.n v99.c] (fun (v100 : Array Value × Int) h =>
  storeAggK (sizeOfT Try.prog T.api_Tag) h v3 v100.1 (fun h =>
  quietK Try.prog .agg (Instr.loadAt T.api_Tag (.pointer v3)) (fun (r101 : Array Value) =>
  R (.tuple #[.agg r101, .int .i64 v100.2]) h) h)) h)) h))))) ∧
  (newSlK h 1 #[(.int .u8 (IntKind.u8.wrap side3))] T.uint8 (fun (v102 : Sl) h =>
  ((opK Try.prog .slice (convert T.sl_uint8 T.sl_uint8 (.slice v78.a v78.n v78.c)) (fun (v103 : Sl) h =>
  newSlK h 1 #[(.int .u8 (IntKind.u8.wrap player2))] T.uint8 (fun (v104 : Sl) h =>
  newSlK h 4 #[.slice v103.a v103.n v103.c, .slice v4.a v4.n v4.c, .slice v104.a v104.n v104.c, .slice v102.a v102.n v102.c] T.sl_uint8 (fun (v105 : Sl) h =>
  callK Try.prog (Kd.pair .agg (.int .i64)) F.commit_some #[.pointer m0, .bool v79, .agg v5, .slice v105.a v105.n v105.c] (fun (v106 : Array Value × Int) h =>
  storeAggK (sizeOfT Try.prog T.api_Tag) h v3 v106.1 (fun h =>
  quietK Try.prog .agg (Instr.loadAt T.api_Tag (.pointer v3)) (fun (r107 : Array Value) =>
  R (.tuple #[.agg r107, .int .i64 v106.2]) h) h)) h))) h) ∧
  (newSlK h 1 #[(.int .u8 (IntKind.u8.wrap player2))] T.uint8 (fun (v108 : Sl) h =>
  opK Try.prog .slice (convert T.sl_uint8 T.sl_uint8 (.slice v78.a v78.n v78.c)) (fun (v109 : Sl) h =>
  newSlK h 4 #[.slice v109.a v109.n v109.c, .slice v4.a v4.n v4.c, .slice v108.a v108.n v108.c, .slice v102.a v102.n v102.c] T.sl_uint8 (fun (v110 : Sl) h =>
  callK Try.prog (Kd.pair .agg (.int .i64)) F.commit_some #[.pointer m0, .bool v79, .agg v5, .slice v110.a v110.n v110.c] (fun (v111 : Array Value × Int) h =>
  storeAggK (sizeOfT Try.prog T.api_Tag) h v3 v111.1 (fun h =>
  quietK Try.prog .agg (Instr.loadAt T.api_Tag (.pointer v3)) (fun (r112 : Array Value) =>
  R (.tuple #[.agg r112, .int .i64 v111.2]) h) h)) h)) h))))))))) h) ∧
  (((opK Try.prog .slice (convert T.sl_uint8 T.sl_uint8 (.slice v78.a v78.n v78.c)) (fun (v113 : Sl) h =>
  ((callK Try.prog .bool F.commit_bit #[.int .i64 side3] (fun (v114 : Bool) h =>
  stillAggK (sizeOfT Try.prog T.api_Tag) h nonce_2 v5 ∧
  ((newSlK h 1 #[(.int .u8 (IntKind.u8.wrap player2))] T.uint8 (fun (v115 : Sl) h =>
  newSlK h 1 #[(.int .u8 (IntKind.u8.wrap side3))] T.uint8 (fun (v116 : Sl) h =>
  newSlK h 4 #[.slice v113.a v113.n v113.c, .slice v4.a v4.n v4.c, .slice v115.a v115.n v115.c, .slice v116.a v116.n v116.c] T.sl_uint8 (fun (v117 : Sl) h =>
  callK Try.prog (Kd.pair .agg (.int .i64)) F.commit_some #[.pointer m0, .bool v114, .agg v5, .slice v117.a v117.n v117.c] (fun (v118 : Array Value × Int) h =>
  storeAggK (sizeOfT Try.prog T.api_Tag) h v3 v118.1 (fun h =>
  quietK Try.prog .agg (Instr.loadAt T.api_Tag (.pointer v3)) (fun (r119 : Array Value) =>
  R (.tuple #[.agg r119, .int .i64 v118.2]) h) h)) h)))) ∧
  (newSlK h 1 #[(.int .u8 (IntKind.u8.wrap side3))] T.uint8 (fun (v120 : Sl) h =>
  newSlK h 1 #[(.int .u8 (IntKind.u8.wrap player2))] T.uint8 (fun (v121 : Sl) h =>
  newSlK h 4 #[.slice v113.a v113.n v113.c, .slice v4.a v4.n v4.c, .slice v121.a v121.n v121.c, .slice v120.a v120.n v120.c] T.sl_uint8 (fun (v122 : Sl) h =>
  callK Try.prog (Kd.pair .agg (.int .i64)) F.commit_some #[.pointer m0, .bool v114, .agg v5, .slice v122.a v122.n v122.c] (fun (v123 : Array Value × Int) h =>
  storeAggK (sizeOfT Try.prog T.api_Tag) h v3 v123.1 (fun h =>
  quietK Try.prog .agg (Instr.loadAt T.api_Tag (.pointer v3)) (fun (r124 : Array Value) =>
  R (.tuple #[.agg r124, .int .i64 v123.2]) h) h)) h)))))) h) ∧
  (((newSlK h 1 #[(.int .u8 (IntKind.u8.wrap player2))] T.uint8 (fun (v125 : Sl) h =>
  ((callK Try.prog .bool F.commit_bit #[.int .i64 side3] (fun (v126 : Bool) h =>
  stillAggK (sizeOfT Try.prog T.api_Tag) h nonce_2 v5 ∧
  newSlK h 1 #[(.int .u8 (IntKind.u8.wrap side3))] T.uint8 (fun (v127 : Sl) h =>
  newSlK h 4 #[.slice v113.a v113.n v113.c, .slice v4.a v4.n v4.c, .slice v125.a v125.n v125.c, .slice v127.a v127.n v127.c] T.sl_uint8 (fun (v128 : Sl) h =>
  callK Try.prog (Kd.pair .agg (.int .i64)) F.commit_some #[.pointer m0, .bool v126, .agg v5, .slice v128.a v128.n v128.c] (fun (v129 : Array Value × Int) h =>
  storeAggK (sizeOfT Try.prog T.api_Tag) h v3 v129.1 (fun h =>
  quietK Try.prog .agg (Instr.loadAt T.api_Tag (.pointer v3)) (fun (r130 : Array Value) =>
  R (.tuple #[.agg r130, .int .i64 v129.2]) h) h)) h))) h) ∧
  (newSlK h 1 #[(.int .u8 (IntKind.u8.wrap side3))] T.uint8 (fun (v131 : Sl) h =>
  ((callK Try.prog .bool F.commit_bit #[.int .i64 side3] (fun (v132 : Bool) h =>
  stillAggK (sizeOfT Try.prog T.api_Tag) h nonce_2 v5 ∧
  newSlK h 4 #[.slice v113.a v113.n v113.c, .slice v4.a v4.n v4.c, .slice v125.a v125.n v125.c, .slice v131.a v131.n v131.c] T.sl_uint8 (fun (v133 : Sl) h =>
  callK Try.prog (Kd.pair .agg (.int .i64)) F.commit_some #[.pointer m0, .bool v132, .agg v5, .slice v133.a v133.n v133.c] (fun (v134 : Array Value × Int) h =>
  storeAggK (sizeOfT Try.prog T.api_Tag) h v3 v134.1 (fun h =>
  quietK Try.prog .agg (Instr.loadAt T.api_Tag (.pointer v3)) (fun (r135 : Array Value) =>
  R (.tuple #[.agg r135, .int .i64 v134.2]) h) h)) h)) h) ∧
  (newSlK h 4 #[.slice v113.a v113.n v113.c, .slice v4.a v4.n v4.c, .slice v125.a v125.n v125.c, .slice v131.a v131.n v131.c] T.sl_uint8 (fun (v136 : Sl) h =>
  callK Try.prog .bool F.commit_bit #[.int .i64 side3] (fun (v137 : Bool) h =>
  stillAggK (sizeOfT Try.prog T.api_Tag) h nonce_2 v5 ∧
  callK Try.prog (Kd.pair .agg (.int .i64)) F.commit_some #[.pointer m0, .bool v137, .agg v5, .slice v136.a v136.n v136.c] (fun (v138 : Array Value × Int) h =>
  storeAggK (sizeOfT Try.prog T.api_Tag) h v3 v138.1 (fun h =>
  quietK Try.prog .agg (Instr.loadAt T.api_Tag (.pointer v3)) (fun (r139 : Array Value) =>
  R (.tuple #[.agg r139, .int .i64 v138.2]) h) h)) h) h)))))))) ∧
  (newSlK h 1 #[(.int .u8 (IntKind.u8.wrap side3))] T.uint8 (fun (v140 : Sl) h =>
  ((callK Try.prog .bool F.commit_bit #[.int .i64 side3] (fun (v141 : Bool) h =>
  stillAggK (sizeOfT Try.prog T.api_Tag) h nonce_2 v5 ∧
  newSlK h 1 #[(.int .u8 (IntKind.u8.wrap player2))] T.uint8 (fun (v142 : Sl) h =>
  newSlK h 4 #[.slice v113.a v113.n v113.c, .slice v4.a v4.n v4.c, .slice v142.a v142.n v142.c, .slice v140.a v140.n v140.c] T.sl_uint8 (fun (v143 : Sl) h =>
  callK Try.prog (Kd.pair .agg (.int .i64)) F.commit_some #[.pointer m0, .bool v141, .agg v5, .slice v143.a v143.n v143.c] (fun (v144 : Array Value × Int) h =>
  storeAggK (sizeOfT Try.prog T.api_Tag) h v3 v144.1 (fun h =>
  quietK Try.prog .agg (Instr.loadAt T.api_Tag (.pointer v3)) (fun (r145 : Array Value) =>
  R (.tuple #[.agg r145, .int .i64 v144.2]) h) h)) h))) h) ∧
  (newSlK h 1 #[(.int .u8 (IntKind.u8.wrap player2))] T.uint8 (fun (v146 : Sl) h =>
  ((callK Try.prog .bool F.commit_bit #[.int .i64 side3] (fun (v147 : Bool) h =>
  stillAggK (sizeOfT Try.prog T.api_Tag) h nonce_2 v5 ∧
  newSlK h 4 #[.slice v113.a v113.n v113.c, .slice v4.a v4.n v4.c, .slice v146.a v146.n v146.c, .slice v140.a v140.n v140.c] T.sl_uint8 (fun (v148 : Sl) h =>
  callK Try.prog (Kd.pair .agg (.int .i64)) F.commit_some #[.pointer m0, .bool v147, .agg v5, .slice v148.a v148.n v148.c] (fun (v149 : Array Value × Int) h =>
  storeAggK (sizeOfT Try.prog T.api_Tag) h v3 v149.1 (fun h =>
  quietK Try.prog .agg (Instr.loadAt T.api_Tag (.pointer v3)) (fun (r150 : Array Value) =>
  R (.tuple #[.agg r150, .int .i64 v149.2]) h) h)) h)) h) ∧
  (newSlK h 4 #[.slice v113.a v113.n v113.c, .slice v4.a v4.n v4.c, .slice v146.a v146.n v146.c, .slice v140.a v140.n v140.c] T.sl_uint8 (fun (v151 : Sl) h =>
  callK Try.prog .bool F.commit_bit #[.int .i64 side3] (fun (v152 : Bool) h =>
  stillAggK (sizeOfT Try.prog T.api_Tag) h nonce_2 v5 ∧
  callK Try.prog (Kd.pair .agg (.int .i64)) F.commit_some #[.pointer m0, .bool v152, .agg v5, .slice v151.a v151.n v151.c] (fun (v153 : Array Value × Int) h =>
  storeAggK (sizeOfT Try.prog T.api_Tag) h v3 v153.1 (fun h =>
  quietK Try.prog .agg (Instr.loadAt T.api_Tag (.pointer v3)) (fun (r154 : Array Value) =>
  R (.tuple #[.agg r154, .int .i64 v153.2]) h) h)) h) h)))))))))))) h) ∧
  (((newSlK h 1 #[(.int .u8 (IntKind.u8.wrap player2))] T.uint8 (fun (v155 : Sl) h =>
  ((callK Try.prog .bool F.commit_bit #[.int .i64 side3] (fun (v156 : Bool) h =>
  stillAggK (sizeOfT Try.prog T.api_Tag) h nonce_2 v5 ∧
  ((opK Try.prog .slice (convert T.sl_uint8 T.sl_uint8 (.slice v78.a v78.n v78.c)) (fun (v157 : Sl) h =>
  newSlK h 1 #[(.int .u8 (IntKind.u8.wrap side3))] T.uint8 (fun (v158 : Sl) h =>
  newSlK h 4 #[.slice v157.a v157.n v157.c, .slice v4.a v4.n v4.c, .slice v155.a v155.n v155.c, .slice v158.a v158.n v158.c] T.sl_uint8 (fun (v159 : Sl) h =>
  callK Try.prog (Kd.pair .agg (.int .i64)) F.commit_some #[.pointer m0, .bool v156, .agg v5, .slice v159.a v159.n v159.c] (fun (v160 : Array Value × Int) h =>
  storeAggK (sizeOfT Try.prog T.api_Tag) h v3 v160.1 (fun h =>
  quietK Try.prog .agg (Instr.loadAt T.api_Tag (.pointer v3)) (fun (r161 : Array Value) =>
  R (.tuple #[.agg r161, .int .i64 v160.2]) h) h)) h))) h) ∧
  (newSlK h 1 #[(.int .u8 (IntKind.u8.wrap side3))] T.uint8 (fun (v162 : Sl) h =>
  opK Try.prog .slice (convert T.sl_uint8 T.sl_uint8 (.slice v78.a v78.n v78.c)) (fun (v163 : Sl) h =>
  newSlK h 4 #[.slice v163.a v163.n v163.c, .slice v4.a v4.n v4.c, .slice v155.a v155.n v155.c, .slice v162.a v162.n v162.c] T.sl_uint8 (fun (v164 : Sl) h =>
  callK Try.prog (Kd.pair .agg (.int .i64)) F.commit_some #[.pointer m0, .bool v156, .agg v5, .slice v164.a v164.n v164.c] (fun (v165 : Array Value × Int) h =>
  storeAggK (sizeOfT Try.prog T.api_Tag) h v3 v165.1 (fun h =>
  quietK Try.prog .agg (Instr.loadAt T.api_Tag (.pointer v3)) (fun (r166 : Array Value) =>
  R (.tuple #[.agg r166, .int .i64 v165.2]) h) h)) h)) h)))) h) ∧
  (((opK Try.prog .slice (convert T.sl_uint8 T.sl_uint8 (.slice v78.a v78.n v78.c)) (fun (v167 : Sl) h =>
  ((callK Try.prog .bool F.commit_bit #[.int .i64 side3] (fun (v168 : Bool) h =>
  stillAggK (sizeOfT Try.prog T.api_Tag) h nonce_2 v5 ∧
  newSlK h 1 #[(.int .u8 (IntKind.u8.wrap side3))] T.uint8 (fun (v169 : Sl) h =>
  newSlK h 4 #[.slice v167.a v167.n v167.c, .slice v4.a v4.n v4.c, .slice v155.a v155.n v155.c, .slice v169.a v169.n v169.c] T.sl_uint8 (fun (v170 : Sl) h =>
  callK Try.prog (Kd.pair .agg (.int .i64)) F.commit_some #[.pointer m0, .bool v168, .agg v5, .slice v170.a v170.n v170.c] (fun (v171 : Array Value × Int) h =>
  storeAggK (sizeOfT Try.prog T.api_Tag) h v3 v171.1 (fun h =>
  quietK Try.prog .agg (Instr.loadAt T.api_Tag (.pointer v3)) (fun (r172 : Array Value) =>
  R (.tuple #[.agg r172, .int .i64 v171.2]) h) h)) h))) h) ∧
  (newSlK h 1 #[(.int .u8 (IntKind.u8.wrap side3))] T.uint8 (fun (v173 : Sl) h =>
  ((callK Try.prog .bool F.commit_bit #[.int .i64 side3] (fun (v174 : Bool) h =>
  stillAggK (sizeOfT Try.prog T.api_Tag) h nonce_2 v5 ∧
  newSlK h 4 #[.slice v167.a v167.n v167.c, .slice v4.a v4.n v4.c, .slice v155.a v155.n v155.c, .slice v173.a v173.n v173.c] T.sl_uint8 (fun (v175 : Sl) h =>
  callK Try.prog (Kd.pair .agg (.int .i64)) F.commit_some #[.pointer m0, .bool v174, .agg v5, .slice v175.a v175.n v175.c] (fun (v176 : Array Value × Int) h =>
  storeAggK (sizeOfT Try.prog T.api_Tag) h v3 v176.1 (fun h =>
  quietK Try.prog .agg (Instr.loadAt T.api_Tag (.pointer v3)) (fun (r177 : Array Value) =>
  R (.tuple #[.agg r177, .int .i64 v176.2]) h) h)) h)) h) ∧
  (newSlK h 4 #[.slice v167.a v167.n v167.c, .slice v4.a v4.n v4.c, .slice v155.a v155.n v155.c, .slice v173.a v173.n v173.c] T.sl_uint8 (fun (v178 : Sl) h =>
  callK Try.prog .bool F.commit_bit #[.int .i64 side3] (fun (v179 : Bool) h =>
  stillAggK (sizeOfT Try.prog T.api_Tag) h nonce_2 v5 ∧
  callK Try.prog (Kd.pair .agg (.int .i64)) F.commit_some #[.pointer m0, .bool v179, .agg v5, .slice v178.a v178.n v178.c] (fun (v180 : Array Value × Int) h =>
  storeAggK (sizeOfT Try.prog T.api_Tag) h v3 v180.1 (fun h =>
  quietK Try.prog .agg (Instr.loadAt T.api_Tag (.pointer v3)) (fun (r181 : Array Value) =>
  R (.tuple #[.agg r181, .int .i64 v180.2]) h) h)) h) h))))))) h) ∧
  (newSlK h 1 #[(.int .u8 (IntKind.u8.wrap side3))] T.uint8 (fun (v182 : Sl) h =>
  ((callK Try.prog .bool F.commit_bit #[.int .i64 side3] (fun (v183 : Bool) h =>
  stillAggK (sizeOfT Try.prog T.api_Tag) h nonce_2 v5 ∧
  opK Try.prog .slice (convert T.sl_uint8 T.sl_uint8 (.slice v78.a v78.n v78.c)) (fun (v184 : Sl) h =>
  newSlK h 4 #[.slice v184.a v184.n v184.c, .slice v4.a v4.n v4.c, .slice v155.a v155.n v155.c, .slice v182.a v182.n v182.c] T.sl_uint8 (fun (v185 : Sl) h =>
  callK Try.prog (Kd.pair .agg (.int .i64)) F.commit_some #[.pointer m0, .bool v183, .agg v5, .slice v185.a v185.n v185.c] (fun (v186 : Array Value × Int) h =>
  storeAggK (sizeOfT Try.prog T.api_Tag) h v3 v186.1 (fun h =>
  quietK Try.prog .agg (Instr.loadAt T.api_Tag (.pointer v3)) (fun (r187 : Array Value) =>
  R (.tuple #[.agg r187, .int .i64 v186.2]) h) h)) h)) h) h) ∧
  (opK Try.prog .slice (convert T.sl_uint8 T.sl_uint8 (.slice v78.a v78.n v78.c)) (fun (v188 : Sl) h =>
  ((callK Try.prog .bool F.commit_bit #[.int .i64 side3] (fun (v189 : Bool) h =>
  stillAggK (sizeOfT Try.prog T.api_Tag) h nonce_2 v5 ∧
  newSlK h 4 #[.slice v188.a v188.n v188.c, .slice v4.a v4.n v4.c, .slice v155.a v155.n v155.c, .slice v182.a v182.n v182.c] T.sl_uint8 (fun (v190 : Sl) h =>
  callK Try.prog (Kd.pair .agg (.int .i64)) F.commit_some #[.pointer m0, .bool v189, .agg v5, .slice v190.a v190.n v190.c] (fun (v191 : Array Value × Int) h =>
  storeAggK (sizeOfT Try.prog T.api_Tag) h v3 v191.1 (fun h =>
  quietK Try.prog .agg (Instr.loadAt T.api_Tag (.pointer v3)) (fun (r192 : Array Value) =>
  R (.tuple #[.agg r192, .int .i64 v191.2]) h) h)) h)) h) ∧
  (newSlK h 4 #[.slice v188.a v188.n v188.c, .slice v4.a v4.n v4.c, .slice v155.a v155.n v155.c, .slice v182.a v182.n v182.c] T.sl_uint8 (fun (v193 : Sl) h =>
  callK Try.prog .bool F.commit_bit #[.int .i64 side3] (fun (v194 : Bool) h =>
  stillAggK (sizeOfT Try.prog T.api_Tag) h nonce_2 v5 ∧
  callK Try.prog (Kd.pair .agg (.int .i64)) F.commit_some #[.pointer m0, .bool v194, .agg v5, .slice v193.a v193.n v193.c] (fun (v195 : Array Value × Int) h =>
  storeAggK (sizeOfT Try.prog T.api_Tag) h v3 v195.1 (fun h =>
  quietK Try.prog .agg (Instr.loadAt T.api_Tag (.pointer v3)) (fun (r196 : Array Value) =>
  R (.tuple #[.agg r196, .int .i64 v195.2]) h) h)) h) h)))) h))))))))) ∧
  (newSlK h 1 #[(.int .u8 (IntKind.u8.wrap side3))] T.uint8 (fun (v197 : Sl) h =>
  ((callK Try.prog .bool F.commit_bit #[.int .i64 side3] (fun (v198 : Bool) h =>
  stillAggK (sizeOfT Try.prog T.api_Tag) h nonce_2 v5 ∧
  ((opK Try.prog .slice (convert T.sl_uint8 T.sl_uint8 (.slice v78.a v78.n v78.c)) (fun (v199 : Sl) h =>
  newSlK h 1 #[(.int .u8 (IntKind.u8.wrap player2))] T.uint8 (fun (v200 : Sl) h =>
  newSlK h 4 #[.slice v199.a v199.n v199.c, .slice v4.a v4.n v4.c, .slice v200.a v200.n v200.c, .slice v197.a v197.n v197.c] T.sl_uint8 (fun (v201 : Sl) h =>
  callK Try.prog (Kd.pair .agg (.int .i64)) F.commit_some #[.pointer m0, .bool v198, .agg v5, .slice v201.a v201.n v201.c] (fun (v202 : Array Value × Int) h =>
  storeAggK (sizeOfT Try.prog T.api_Tag) h v3 v202.1 (fun h =>
  quietK Try.prog .agg (Instr.loadAt T.api_Tag (.pointer v3)) (fun (r203 : Array Value) =>
  R (.tuple #[.agg r203, .int .i64 v202.2]) h) h)) h))) h) ∧
  (newSlK h 1 #[(.int .u8 (IntKind.u8.wrap player2))] T.uint8 (fun (v204 : Sl) h =>
  opK Try.prog .slice (convert T.sl_uint8 T.sl_uint8 (.slice v78.a v78.n v78.c)) (fun (v205 : Sl) h =>
  newSlK h 4 #[.slice v205.a v205.n v205.c, .slice v4.a v4.n v4.c, .slice v204.a v204.n v204.c, .slice v197.a v197.n v197.c] T.sl_uint8 (fun (v206 : Sl) h =>
  callK Try.prog (Kd.pair .agg (.int .i64)) F.commit_some #[.pointer m0, .bool v198, .agg v5, .slice v206.a v206.n v206.c] (fun (v207 : Array Value × Int) h =>
  storeAggK (sizeOfT Try.prog T.api_Tag) h v3 v207.1 (fun h =>
  quietK Try.prog .agg (Instr.loadAt T.api_Tag (.pointer v3)) (fun (r208 : Array Value) =>
  R (.tuple #[.agg r208, .int .i64 v207.2]) h) h)) h)) h)))) h) ∧
  (((opK Try.prog .slice (convert T.sl_uint8 T.sl_uint8 (.slice v78.a v78.n v78.c)) (fun (v209 : Sl) h =>
  ((callK Try.prog .bool F.commit_bit #[.int .i64 side3] (fun (v210 : Bool) h =>
  stillAggK (sizeOfT Try.prog T.api_Tag) h nonce_2 v5 ∧
  newSlK h 1 #[(.int .u8 (IntKind.u8.wrap player2))] T.uint8 (fun (v211 : Sl) h =>
  newSlK h 4 #[.slice v209.a v209.n v209.c, .slice v4.a v4.n v4.c, .slice v211.a v211.n v211.c, .slice v197.a v197.n v197.c] T.sl_uint8 (fun (v212 : Sl) h =>
  callK Try.prog (Kd.pair .agg (.int .i64)) F.commit_some #[.pointer m0, .bool v210, .agg v5, .slice v212.a v212.n v212.c] (fun (v213 : Array Value × Int) h =>
  storeAggK (sizeOfT Try.prog T.api_Tag) h v3 v213.1 (fun h =>
  quietK Try.prog .agg (Instr.loadAt T.api_Tag (.pointer v3)) (fun (r214 : Array Value) =>
  R (.tuple #[.agg r214, .int .i64 v213.2]) h) h)) h))) h) ∧
  (newSlK h 1 #[(.int .u8 (IntKind.u8.wrap player2))] T.uint8 (fun (v215 : Sl) h =>
  ((callK Try.prog .bool F.commit_bit #[.int .i64 side3] (fun (v216 : Bool) h =>
  stillAggK (sizeOfT Try.prog T.api_Tag) h nonce_2 v5 ∧
  newSlK h 4 #[.slice v209.a v209.n v209.c, .slice v4.a v4.n v4.c, .slice v215.a v215.n v215.c, .slice v197.a v197.n v197.c] T.sl_uint8 (fun (v217 : Sl) h =>
  callK Try.prog (Kd.pair .agg (.int .i64)) F.commit_some #[.pointer m0, .bool v216, .agg v5, .slice v217.a v217.n v217.c] (fun (v218 : Array Value × Int) h =>
  storeAggK (sizeOfT Try.prog T.api_Tag) h v3 v218.1 (fun h =>
  quietK Try.prog .agg (Instr.loadAt T.api_Tag (.pointer v3)) (fun (r219 : Array Value) =>
  R (.tuple #[.agg r219, .int .i64 v218.2]) h) h)) h)) h) ∧
  (newSlK h 4 #[.slice v209.a v209.n v209.c, .slice v4.a v4.n v4.c, .slice v215.a v215.n v215.c, .slice v197.a v197.n v197.c] T.sl_uint8 (fun (v220 : Sl) h =>
  callK Try.prog .bool F.commit_bit #[.int .i64 side3] (fun (v221 : Bool) h =>
  stillAggK (sizeOfT Try.prog T.api_Tag) h nonce_2 v5 ∧
  callK Try.prog (Kd.pair .agg (.int .i64)) F.commit_some #[.pointer m0, .bool v221, .agg v5, .slice v220.a v220.n v220.c] (fun (v222 : Array Value × Int) h =>
  storeAggK (sizeOfT Try.prog T.api_Tag) h v3 v222.1 (fun h =>
  quietK Try.prog .agg (Instr.loadAt T.api_Tag (.pointer v3)) (fun (r223 : Array Value) =>
  R (.tuple #[.agg r223, .int .i64 v222.2]) h) h)) h) h))))))) h) ∧
  (newSlK h 1 #[(.int .u8 (IntKind.u8.wrap player2))] T.uint8 (fun (v224 : Sl) h =>
  ((callK Try.prog .bool F.commit_bit #[.int .i64 side3] (fun (v225 : Bool) h =>
  stillAggK (sizeOfT Try.prog T.api_Tag) h nonce_2 v5 ∧
  opK Try.prog .slice (convert T.sl_uint8 T.sl_uint8 (.slice v78.a v78.n v78.c)) (fun (v226 : Sl) h =>
  newSlK h 4 #[.slice v226.a v226.n v226.c, .slice v4.a v4.n v4.c, .slice v224.a v224.n v224.c, .slice v197.a v197.n v197.c] T.sl_uint8 (fun (v227 : Sl) h =>
  callK Try.prog (Kd.pair .agg (.int .i64)) F.commit_some #[.pointer m0, .bool v225, .agg v5, .slice v227.a v227.n v227.c] (fun (v228 : Array Value × Int) h =>
  storeAggK (sizeOfT Try.prog T.api_Tag) h v3 v228.1 (fun h =>
  quietK Try.prog .agg (Instr.loadAt T.api_Tag (.pointer v3)) (fun (r229 : Array Value) =>
  R (.tuple #[.agg r229, .int .i64 v228.2]) h) h)) h)) h) h) ∧
  (opK Try.prog .slice (convert T.sl_uint8 T.sl_uint8 (.slice v78.a v78.n v78.c)) (fun (v230 : Sl) h =>
  ((callK Try.prog .bool F.commit_bit #[.int .i64 side3] (fun (v231 : Bool) h =>
  stillAggK (sizeOfT Try.prog T.api_Tag) h nonce_2 v5 ∧
  newSlK h 4 #[.slice v230.a v230.n v230.c, .slice v4.a v4.n v4.c, .slice v224.a v224.n v224.c, .slice v197.a v197.n v197.c] T.sl_uint8 (fun (v232 : Sl) h =>
  callK Try.prog (Kd.pair .agg (.int .i64)) F.commit_some #[.pointer m0, .bool v231, .agg v5, .slice v232.a v232.n v232.c] (fun (v233 : Array Value × Int) h =>
  storeAggK (sizeOfT Try.prog T.api_Tag) h v3 v233.1 (fun h =>
  quietK Try.prog .agg (Instr.loadAt T.api_Tag (.pointer v3)) (fun (r234 : Array Value) =>
  R (.tuple #[.agg r234, .int .i64 v233.2]) h) h)) h)) h) ∧
  (newSlK h 4 #[.slice v230.a v230.n v230.c, .slice v4.a v4.n v4.c, .slice v224.a v224.n v224.c, .slice v197.a v197.n v197.c] T.sl_uint8 (fun (v235 : Sl) h =>
  callK Try.prog .bool F.commit_bit #[.int .i64 side3] (fun (v236 : Bool) h =>
  stillAggK (sizeOfT Try.prog T.api_Tag) h nonce_2 v5 ∧
  callK Try.prog (Kd.pair .agg (.int .i64)) F.commit_some #[.pointer m0, .bool v236, .agg v5, .slice v235.a v235.n v235.c] (fun (v237 : Array Value × Int) h =>
  storeAggK (sizeOfT Try.prog T.api_Tag) h v3 v237.1 (fun h =>
  quietK Try.prog .agg (Instr.loadAt T.api_Tag (.pointer v3)) (fun (r238 : Array Value) =>
  R (.tuple #[.agg r238, .int .i64 v237.2]) h) h)) h) h)))) h)))))))))))))))) ∧
  (((newSlK h 1 #[(.int .u8 (IntKind.u8.wrap player2))] T.uint8 (fun (v239 : Sl) h =>
  ((callK Try.prog .bool F.commit_bit #[.int .i64 side3] (fun (v240 : Bool) h =>
  stillAggK (sizeOfT Try.prog T.api_Tag) h nonce_2 v5 ∧
  ((newSlK h 4 #[.int .u8 99, .int .u8 111, .int .u8 105, .int .u8 110] T.uint8 (fun (v241 : Sl) h =>
  ((opK Try.prog .slice (convert T.sl_uint8 T.sl_uint8 (.slice v241.a v241.n v241.c)) (fun (v242 : Sl) h =>
  newSlK h 1 #[(.int .u8 (IntKind.u8.wrap side3))] T.uint8 (fun (v243 : Sl) h =>
  newSlK h 4 #[.slice v242.a v242.n v242.c, .slice v4.a v4.n v4.c, .slice v239.a v239.n v239.c, .slice v243.a v243.n v243.c] T.sl_uint8 (fun (v244 : Sl) h =>
  callK Try.prog (Kd.pair .agg (.int .i64)) F.commit_some #[.pointer m0, .bool v240, .agg v5, .slice v244.a v244.n v244.c] (fun (v245 : Array Value × Int) h =>
  storeAggK (sizeOfT Try.prog T.api_Tag) h v3 v245.1 (fun h =>
  quietK Try.prog .agg (Instr.loadAt T.api_Tag (.pointer v3)) (fun (r246 : Array Value) =>
  R (.tuple #[.agg r246, .int .i64 v245.2]) h) h)) h))) h) ∧
  (newSlK h 1 #[(.int .u8 (IntKind.u8.wrap side3))] T.uint8 (fun (v247 : Sl) h =>
  opK Try.prog .slice (convert T.sl_uint8 T.sl_uint8 (.slice v241.a v241.n v241.c)) (fun (v248 : Sl) h =>
  newSlK h 4 #[.slice v248.a v248.n v248.c, .slice v4.a v4.n v4.c, .slice v239.a v239.n v239.c, .slice v247.a v247.n v247.c] T.sl_uint8 (fun (v249 : Sl) h =>
  callK Try.prog (Kd.pair .agg (.int .i64)) F.commit_some #[.pointer m0, .bool v240, .agg v5, .slice v249.a v249.n v249.c] (fun (v250 : Array Value × Int) h =>
  storeAggK (sizeOfT Try.prog T.api_Tag) h v3 v250.1 (fun h =>
  quietK Try.prog .agg (Instr.loadAt T.api_Tag (.pointer v3)) (fun (r251 : Array Value) =>
  R (.tuple #[.agg r251, .int .i64 v250.2]) h) h)) h)) h))))) ∧
  (newSlK h 1 #[(.int .u8 (IntKind.u8.wrap side3))] T.uint8 (fun (v252 : Sl) h =>
  newSlK h 4 #[.int .u8 99, .int .u8 111, .int .u8 105, .int .u8 110] T.uint8 (fun (v253 : Sl) h =>
  opK Try.prog .slice (convert T.sl_uint8 T.sl_uint8 (.slice v253.a v253.n v253.c)) (fun (v254 : Sl) h =>
  newSlK h 4 #[.slice v254.a v254.n v254.c, .slice v4.a v4.n v4.c, .slice v239.a v239.n v239.c, .slice v252.a v252.n v252.c] T.sl_uint8 (fun (v255 : Sl) h =>
  callK Try.prog (Kd.pair .agg (.int .i64)) F.commit_some #[.pointer m0, .bool v240, .agg v5, .slice v255.a v255.n v255.c] (fun (v256 : Array Value × Int) h =>
  storeAggK (sizeOfT Try.prog T.api_Tag) h v3 v256.1 (fun h =>
  quietK Try.prog .agg (Instr.loadAt T.api_Tag (.pointer v3)) (fun (r257 : Array Value) =>
  R (.tuple #[.agg r257, .int .i64 v256.2]) h) h)) h)) h))))) h) ∧
  (((newSlK h 4 #[.int .u8 99, .int .u8 111, .int .u8 105, .int .u8 110] T.uint8 (fun (v258 : Sl) h =>
  ((callK Try.prog .bool F.commit_bit #[.int .i64 side3] (fun (v259 : Bool) h =>
  stillAggK (sizeOfT Try.prog T.api_Tag) h nonce_2 v5 ∧
  ((opK Try.prog .slice (convert T.sl_uint8 T.sl_uint8 (.slice v258.a v258.n v258.c)) (fun (v260 : Sl) h =>
  newSlK h 1 #[(.int .u8 (IntKind.u8.wrap side3))] T.uint8 (fun (v261 : Sl) h =>
  newSlK h 4 #[.slice v260.a v260.n v260.c, .slice v4.a v4.n v4.c, .slice v239.a v239.n v239.c, .slice v261.a v261.n v261.c] T.sl_uint8 (fun (v262 : Sl) h =>
  callK Try.prog (Kd.pair .agg (.int .i64)) F.commit_some #[.pointer m0, .bool v259, .agg v5, .slice v262.a v262.n v262.c] (fun (v263 : Array Value × Int) h =>
  storeAggK (sizeOfT Try.prog T.api_Tag) h v3 v263.1 (fun h =>
  quietK Try.prog .agg (Instr.loadAt T.api_Tag (.pointer v3)) (fun (r264 : Array Value) =>
  R (.tuple #[.agg r264, .int .i64 v263.2]) h) h)) h))) h) ∧
  (newSlK h 1 #[(.int .u8 (IntKind.u8.wrap side3))] T.uint8 (fun (v265 : Sl) h =>
  opK Try.prog .slice (convert T.sl_uint8 T.sl_uint8 (.slice v258.a v258.n v258.c)) (fun (v266 : Sl) h =>
  newSlK h 4 #[.slice v266.a v266.n v266.c, .slice v4.a v4.n v4.c, .slice v239.a v239.n v239.c, .slice v265.a v265.n v265.c] T.sl_uint8 (fun (v267 : Sl) h =>
  callK Try.prog (Kd.pair .agg (.int .i64)) F.commit_some #[.pointer m0, .bool v259, .agg v5, .slice v267.a v267.n v267.c] (fun (v268 : Array Value × Int) h =>
  storeAggK (sizeOfT Try.prog T.api_Tag) h v3 v268.1 (fun h =>
  quietK Try.prog .agg (Instr.loadAt T.api_Tag (.pointer v3)) (fun (r269 : Array Value) =>
  R (.tuple #[.agg r269, .int .i64 v268.2]) h) h)) h)) h)))) h) ∧
  (((opK Try.prog .slice (convert T.sl_uint8 T.sl_uint8 (.slice v258.a v258.n v258.c)) (fun (v270 : Sl) h =>
  ((callK Try.prog .bool F.commit_bit #[.int .i64 side3] (fun (v271 : Bool) h =>
  stillAggK (sizeOfT Try.prog T.api_Tag) h nonce_2 v5 ∧
  newSlK h 1 #[(.int .u8 (IntKind.u8.wrap side3))] T.uint8 (fun (v272 : Sl) h =>
  newSlK h 4 #[.slice v270.a v270.n v270.c, .slice v4.a v4.n v4.c, .slice v239.a v239.n v239.c, .slice v272.a v272.n v272.c] T.sl_uint8 (fun (v273 : Sl) h =>
  callK Try.prog (Kd.pair .agg (.int .i64)) F.commit_some #[.pointer m0, .bool v271, .agg v5, .slice v273.a v273.n v273.c] (fun (v274 : Array Value × Int) h =>
  storeAggK (sizeOfT Try.prog T.api_Tag) h v3 v274.1 (fun h =>
  quietK Try.prog .agg (Instr.loadAt T.api_Tag (.pointer v3)) (fun (r275 : Array Value) =>
  R (.tuple #[.agg r275, .int .i64 v274.2]) h) h)) h))) h) ∧
  (newSlK h 1 #[(.int .u8 (IntKind.u8.wrap side3))] T.uint8 (fun (v276 : Sl) h =>
  ((callK Try.prog .bool F.commit_bit #[.int .i64 side3] (fun (v277 : Bool) h =>
  stillAggK (sizeOfT Try.prog T.api_Tag) h nonce_2 v5 ∧
  newSlK h 4 #[.slice v270.a v270.n v270.c, .slice v4.a v4.n v4.c, .slice v239.a v239.n v239.c, .slice v276.a v276.n v276.c] T.sl_uint8 (fun (v278 : Sl) h =>
  callK Try.prog (Kd.pair .agg (.int .i64)) F.commit_some #[.pointer m0, .bool v277, .agg v5, .slice v278.a v278.n v278.c] (fun (v279 : Array Value × Int) h =>
  storeAggK (sizeOfT Try.prog T.api_Tag) h v3 v279.1 (fun h =>
  quietK Try.prog .agg (Instr.loadAt T.api_Tag (.pointer v3)) (fun (r280 : Array Value) =>
  R (.tuple #[.agg r280, .int .i64 v279.2]) h) h)) h)) h) ∧
  (newSlK h 4 #[.slice v270.a v270.n v270.c, .slice v4.a v4.n v4.c, .slice v239.a v239.n v239.c, .slice v276.a v276.n v276.c] T.sl_uint8 (fun (v281 : Sl) h =>
  callK Try.prog .bool F.commit_bit #[.int .i64 side3] (fun (v282 : Bool) h =>
  stillAggK (sizeOfT Try.prog T.api_Tag) h nonce_2 v5 ∧
  callK Try.prog (Kd.pair .agg (.int .i64)) F.commit_some #[.pointer m0, .bool v282, .agg v5, .slice v281.a v281.n v281.c] (fun (v283 : Array Value × Int) h =>
  storeAggK (sizeOfT Try.prog T.api_Tag) h v3 v283.1 (fun h =>
  quietK Try.prog .agg (Instr.loadAt T.api_Tag (.pointer v3)) (fun (r284 : Array Value) =>
  R (.tuple #[.agg r284, .int .i64 v283.2]) h) h)) h) h))))))) h) ∧
  (newSlK h 1 #[(.int .u8 (IntKind.u8.wrap side3))] T.uint8 (fun (v285 : Sl) h =>
  ((callK Try.prog .bool F.commit_bit #[.int .i64 side3] (fun (v286 : Bool) h =>
  stillAggK (sizeOfT Try.prog T.api_Tag) h nonce_2 v5 ∧
  opK Try.prog .slice (convert T.sl_uint8 T.sl_uint8 (.slice v258.a v258.n v258.c)) (fun (v287 : Sl) h =>
  newSlK h 4 #[.slice v287.a v287.n v287.c, .slice v4.a v4.n v4.c, .slice v239.a v239.n v239.c, .slice v285.a v285.n v285.c] T.sl_uint8 (fun (v288 : Sl) h =>
  callK Try.prog (Kd.pair .agg (.int .i64)) F.commit_some #[.pointer m0, .bool v286, .agg v5, .slice v288.a v288.n v288.c] (fun (v289 : Array Value × Int) h =>
  storeAggK (sizeOfT Try.prog T.api_Tag) h v3 v289.1 (fun h =>
  quietK Try.prog .agg (Instr.loadAt T.api_Tag (.pointer v3)) (fun (r290 : Array Value) =>
  R (.tuple #[.agg r290, .int .i64 v289.2]) h) h)) h)) h) h) ∧
  (opK Try.prog .slice (convert T.sl_uint8 T.sl_uint8 (.slice v258.a v258.n v258.c)) (fun (v291 : Sl) h =>
  ((callK Try.prog .bool F.commit_bit #[.int .i64 side3] (fun (v292 : Bool) h =>
  stillAggK (sizeOfT Try.prog T.api_Tag) h nonce_2 v5 ∧
  newSlK h 4 #[.slice v291.a v291.n v291.c, .slice v4.a v4.n v4.c, .slice v239.a v239.n v239.c, .slice v285.a v285.n v285.c] T.sl_uint8 (fun (v293 : Sl) h =>
  callK Try.prog (Kd.pair .agg (.int .i64)) F.commit_some #[.pointer m0, .bool v292, .agg v5, .slice v293.a v293.n v293.c] (fun (v294 : Array Value × Int) h =>
  storeAggK (sizeOfT Try.prog T.api_Tag) h v3 v294.1 (fun h =>
  quietK Try.prog .agg (Instr.loadAt T.api_Tag (.pointer v3)) (fun (r295 : Array Value) =>
  R (.tuple #[.agg r295, .int .i64 v294.2]) h) h)) h)) h) ∧
  (newSlK h 4 #[.slice v291.a v291.n v291.c, .slice v4.a v4.n v4.c, .slice v239.a v239.n v239.c, .slice v285.a v285.n v285.c] T.sl_uint8 (fun (v296 : Sl) h =>
  callK Try.prog .bool F.commit_bit #[.int .i64 side3] (fun (v297 : Bool) h =>
  stillAggK (sizeOfT Try.prog T.api_Tag) h nonce_2 v5 ∧
  callK Try.prog (Kd.pair .agg (.int .i64)) F.commit_some #[.pointer m0, .bool v297, .agg v5, .slice v296.a v296.n v296.c] (fun (v298 : Array Value × Int) h =>
  storeAggK (sizeOfT Try.prog T.api_Tag) h v3 v298.1 (fun h =>
  quietK Try.prog .agg (Instr.loadAt T.api_Tag (.pointer v3)) (fun (r299 : Array Value) =>
  R (.tuple #[.agg r299, .int .i64 v298.2]) h) h)) h) h)))) h))))))))) ∧
  (newSlK h 1 #[(.int .u8 (IntKind.u8.wrap side3))] T.uint8 (fun (v300 : Sl) h =>
  ((callK Try.prog .bool F.commit_bit #[.int .i64 side3] (fun (v301 : Bool) h =>
  stillAggK (sizeOfT Try.prog T.api_Tag) h nonce_2 v5 ∧
  newSlK h 4 #[.int .u8 99, .int .u8 111, .int .u8 105, .int .u8 110] T.uint8 (fun (v302 : Sl) h =>
  opK Try.prog .slice (convert T.sl_uint8 T.sl_uint8 (.slice v302.a v302.n v302.c)) (fun (v303 : Sl) h =>
  newSlK h 4 #[.slice v303.a v303.n v303.c, .slice v4.a v4.n v4.c, .slice v239.a v239.n v239.c, .slice v300.a v300.n v300.c] T.sl_uint8 (fun (v304 : Sl) h =>
  callK Try.prog (Kd.pair .agg (.int .i64)) F.commit_some #[.pointer m0, .bool v301, .agg v5, .slice v304.a v304.n v304.c] (fun (v305 : Array Value × Int) h =>
  storeAggK (sizeOfT Try.prog T.api_Tag) h v3 v305.1 (fun h =>
  quietK Try.prog .agg (Instr.loadAt T.api_Tag (.pointer v3)) (fun (r306 : Array Value) =>
  R (.tuple #[.agg r306, .int .i64 v305.2]) h) h)) h)) h)) h) ∧
  (newSlK h 4 #[.int .u8 99, .int .u8 111, .int .u8 105, .int .u8 110] T.uint8 (fun (v307 : Sl) h =>
  ((callK Try.prog .bool F.commit_bit #[.int .i64 side3] (fun (v308 : Bool) h =>
  stillAggK (sizeOfT Try.prog T.api_Tag) h nonce_2 v5 ∧
  opK Try.prog .slice (convert T.sl_uint8 T.sl_uint8 (.slice v307.a v307.n v307.c)) (fun (v309 : Sl) h =>
  newSlK h 4 #[.slice v309.a v309.n v309.c, .slice v4.a v4.n v4.c, .slice v239.a v239.n v239.c, .slice v300.a v300.n v300.c] T.sl_uint8 (fun (v310 : Sl) h =>
  callK Try.prog (Kd.pair .agg (.int .i64)) F.commit_some #[.pointer m0, .bool v308, .agg v5, .slice v310.a v310.n v310.c] (fun (v311 : Array Value × Int) h =>
  storeAggK (sizeOfT Try.prog T.api_Tag) h v3 v311.1 (fun h =>
  quietK Try.prog .agg (Instr.loadAt T.api_Tag (.pointer v3)) (fun (r312 : Array Value) =>
  R (.tuple #[.agg r312, .int .i64 v311.2]) h) h)) h)) h) h) ∧
  (opK Try.prog .slice (convert T.sl_uint8 T.sl_uint8 (.slice v307.a v307.n v307.c)) (fun (v313 : Sl) h =>
  ((callK Try.prog .bool F.commit_bit #[.int .i64 side3] (fun (v314 : Bool) h =>
  stillAggK (sizeOfT Try.prog T.api_Tag) h nonce_2 v5 ∧
  newSlK h 4 #[.slice v313.a v313.n v313.c, .slice v4.a v4.n v4.c, .slice v239.a v239.n v239.c, .slice v300.a v300.n v300.c] T.sl_uint8 (fun (v315 : Sl) h =>
  callK Try.prog (Kd.pair .agg (.int .i64)) F.commit_some #[.pointer m0, .bool v314, .agg v5, .slice v315.a v315.n v315.c] (fun (v316 : Array Value × Int) h =>
  storeAggK (sizeOfT Try.prog T.api_Tag) h v3 v316.1 (fun h =>
  quietK Try.prog .agg (Instr.loadAt T.api_Tag (.pointer v3)) (fun (r317 : Array Value) =>
  R (.tuple #[.agg r317, .int .i64 v316.2]) h) h)) h)) h) ∧
  (newSlK h 4 #[.slice v313.a v313.n v313.c, .slice v4.a v4.n v4.c, .slice v239.a v239.n v239.c, .slice v300.a v300.n v300.c] T.sl_uint8 (fun (v318 : Sl) h =>
  callK Try.prog .bool F.commit_bit #[.int .i64 side3] (fun (v319 : Bool) h =>
  stillAggK (sizeOfT Try.prog T.api_Tag) h nonce_2 v5 ∧
  callK Try.prog (Kd.pair .agg (.int .i64)) F.commit_some #[.pointer m0, .bool v319, .agg v5, .slice v318.a v318.n v318.c] (fun (v320 : Array Value × Int) h =>
  storeAggK (sizeOfT Try.prog T.api_Tag) h v3 v320.1 (fun h =>
  quietK Try.prog .agg (Instr.loadAt T.api_Tag (.pointer v3)) (fun (r321 : Array Value) =>
  R (.tuple #[.agg r321, .int .i64 v320.2]) h) h)) h) h)))) h)))))))))))) ∧
  (newSlK h 1 #[(.int .u8 (IntKind.u8.wrap side3))] T.uint8 (fun (v322 : Sl) h =>
  ((callK Try.prog .bool F.commit_bit #[.int .i64 side3] (fun (v323 : Bool) h =>
  stillAggK (sizeOfT Try.prog T.api_Tag) h nonce_2 v5 ∧
  ((newSlK h 4 #[.int .u8 99, .int .u8 111, .int .u8 105, .int .u8 110] T.uint8 (fun (v324 : Sl) h =>
  ((opK Try.prog .slice (convert T.sl_uint8 T.sl_uint8 (.slice v324.a v324.n v324.c)) (fun (v325 : Sl) h =>
  newSlK h 1 #[(.int .u8 (IntKind.u8.wrap player2))] T.uint8 (fun (v326 : Sl) h =>
  newSlK h 4 #[.slice v325.a v325.n v325.c, .slice v4.a v4.n v4.c, .slice v326.a v326.n v326.c, .slice v322.a v322.n v322.c] T.sl_uint8 (fun (v327 : Sl) h =>
  callK Try.prog (Kd.pair .agg (.int .i64)) F.commit_some #[.pointer m0, .bool v323, .agg v5, .slice v327.a v327.n v327.c] (fun (v328 : Array Value × Int) h =>
  storeAggK (sizeOfT Try.prog T.api_Tag) h v3 v328.1 (fun h =>
  quietK Try.prog .agg (Instr.loadAt T.api_Tag (.pointer v3)) (fun (r329 : Array Value) =>
  R (.tuple #[.agg r329, .int .i64 v328.2]) h) h)) h))) h) ∧
  (newSlK h 1 #[(.int .u8 (IntKind.u8.wrap player2))] T.uint8 (fun (v330 : Sl) h =>
  opK Try.prog .slice (convert T.sl_uint8 T.sl_uint8 (.slice v324.a v324.n v324.c)) (fun (v331 : Sl) h =>
  newSlK h 4 #[.slice v331.a v331.n v331.c, .slice v4.a v4.n v4.c, .slice v330.a v330.n v330.c, .slice v322.a v322.n v322.c] T.sl_uint8 (fun (v332 : Sl) h =>
  callK Try.prog (Kd.pair .agg (.int .i64)) F.commit_some #[.pointer m0, .bool v323, .agg v5, .slice v332.a v332.n v332.c] (fun (v333 : Array Value × Int) h =>
  storeAggK (sizeOfT Try.prog T.api_Tag) h v3 v333.1 (fun h =>
  quietK Try.prog .agg (Instr.loadAt T.api_Tag (.pointer v3)) (fun (r334 : Array Value) =>
  R (.tuple #[.agg r334, .int .i64 v333.2]) h) h)) h)) h))))) ∧
  (newSlK h 1 #[(.int .u8 (IntKind.u8.wrap player2))] T.uint8 (fun (v335 : Sl) h =>
  newSlK h 4 #[.int .u8 99, .int .u8 111, .int .u8 105, .int .u8 110] T.uint8 (fun (v336 : Sl) h =>
  opK Try.prog .slice (convert T.sl_uint8 T.sl_uint8 (.slice v336.a v336.n v336.c)) (fun (v337 : Sl) h =>
  newSlK h 4 #[.slice v337.a v337.n v337.c, .slice v4.a v4.n v4.c, .slice v335.a v335.n v335.c, .slice v322.a v322.n v322.c] T.sl_uint8 (fun (v338 : Sl) h =>
  callK Try.prog (Kd.pair .agg (.int .i64)) F.commit_some #[.pointer m0, .bool v323, .agg v5, .slice v338.a v338.n v338.c] (fun (v339 : Array Value × Int) h =>
  storeAggK (sizeOfT Try.prog T.api_Tag) h v3 v339.1 (fun h =>
  quietK Try.prog .agg (Instr.loadAt T.api_Tag (.pointer v3)) (fun (r340 : Array Value) =>
  R (.tuple #[.agg r340, .int .i64 v339.2]) h) h)) h)) h))))) h) ∧
  (((newSlK h 4 #[.int .u8 99, .int .u8 111, .int .u8 105, .int .u8 110] T.uint8 (fun (v341 : Sl) h =>
  ((callK Try.prog .bool F.commit_bit #[.int .i64 side3] (fun (v342 : Bool) h =>
  stillAggK (sizeOfT Try.prog T.api_Tag) h nonce_2 v5 ∧
  ((opK Try.prog .slice (convert T.sl_uint8 T.sl_uint8 (.slice v341.a v341.n v341.c)) (fun (v343 : Sl) h =>
  newSlK h 1 #[(.int .u8 (IntKind.u8.wrap player2))] T.uint8 (fun (v344 : Sl) h =>
  newSlK h 4 #[.slice v343.a v343.n v343.c, .slice v4.a v4.n v4.c, .slice v344.a v344.n v344.c, .slice v322.a v322.n v322.c] T.sl_uint8 (fun (v345 : Sl) h =>
  callK Try.prog (Kd.pair .agg (.int .i64)) F.commit_some #[.pointer m0, .bool v342, .agg v5, .slice v345.a v345.n v345.c] (fun (v346 : Array Value × Int) h =>
  storeAggK (sizeOfT Try.prog T.api_Tag) h v3 v346.1 (fun h =>
  quietK Try.prog .agg (Instr.loadAt T.api_Tag (.pointer v3)) (fun (r347 : Array Value) =>
  R (.tuple #[.agg r347, .int .i64 v346.2]) h) h)) h))) h) ∧
  (newSlK h 1 #[(.int .u8 (IntKind.u8.wrap player2))] T.uint8 (fun (v348 : Sl) h =>
  opK Try.prog .slice (convert T.sl_uint8 T.sl_uint8 (.slice v341.a v341.n v341.c)) (fun (v349 : Sl) h =>
  newSlK h 4 #[.slice v349.a v349.n v349.c, .slice v4.a v4.n v4.c, .slice v348.a v348.n v348.c, .slice v322.a v322.n v322.c] T.sl_uint8 (fun (v350 : Sl) h =>
  callK Try.prog (Kd.pair .agg (.int .i64)) F.commit_some #[.pointer m0, .bool v342, .agg v5, .slice v350.a v350.n v350.c] (fun (v351 : Array Value × Int) h =>
  storeAggK (sizeOfT Try.prog T.api_Tag) h v3 v351.1 (fun h =>
  quietK Try.prog .agg (Instr.loadAt T.api_Tag (.pointer v3)) (fun (r352 : Array Value) =>
  R (.tuple #[.agg r352, .int .i64 v351.2]) h) h)) h)) h)))) h) ∧
  (((opK Try.prog .slice (convert T.sl_uint8 T.sl_uint8 (.slice v341.a v341.n v341.c)) (fun (v353 : Sl) h =>
  ((callK Try.prog .bool F.commit_bit #[.int .i64 side3] (fun (v354 : Bool) h =>
  stillAggK (sizeOfT Try.prog T.api_Tag) h nonce_2 v5 ∧
  newSlK h 1 #[(.int .u8 (IntKind.u8.wrap player2))] T.uint8 (fun (v355 : Sl) h =>
  newSlK h 4 #[.slice v353.a v353.n v353.c, .slice v4.a v4.n v4.c, .slice v355.a v355.n v355.c, .slice v322.a v322.n v322.c] T.sl_uint8 (fun (v356 : Sl) h =>
  callK Try.prog (Kd.pair .agg (.int .i64)) F.commit_some #[.pointer m0, .bool v354, .agg v5, .slice v356.a v356.n v356.c] (fun (v357 : Array Value × Int) h =>
  storeAggK (sizeOfT Try.prog T.api_Tag) h v3 v357.1 (fun h =>
  quietK Try.prog .agg (Instr.loadAt T.api_Tag (.pointer v3)) (fun (r358 : Array Value) =>
  R (.tuple #[.agg r358, .int .i64 v357.2]) h) h)) h))) h) ∧
  (newSlK h 1 #[(.int .u8 (IntKind.u8.wrap player2))] T.uint8 (fun (v359 : Sl) h =>
  ((callK Try.prog .bool F.commit_bit #[.int .i64 side3] (fun (v360 : Bool) h =>
  stillAggK (sizeOfT Try.prog T.api_Tag) h nonce_2 v5 ∧
  newSlK h 4 #[.slice v353.a v353.n v353.c, .slice v4.a v4.n v4.c, .slice v359.a v359.n v359.c, .slice v322.a v322.n v322.c] T.sl_uint8 (fun (v361 : Sl) h =>
  callK Try.prog (Kd.pair .agg (.int .i64)) F.commit_some #[.pointer m0, .bool v360, .agg v5, .slice v361.a v361.n v361.c] (fun (v362 : Array Value × Int) h =>
  storeAggK (sizeOfT Try.prog T.api_Tag) h v3 v362.1 (fun h =>
  quietK Try.prog .agg (Instr.loadAt T.api_Tag (.pointer v3)) (fun (r363 : Array Value) =>
  R (.tuple #[.agg r363, .int .i64 v362.2]) h) h)) h)) h) ∧
  (newSlK h 4 #[.slice v353.a v353.n v353.c, .slice v4.a v4.n v4.c, .slice v359.a v359.n v359.c, .slice v322.a v322.n v322.c] T.sl_uint8 (fun (v364 : Sl) h =>
  callK Try.prog .bool F.commit_bit #[.int .i64 side3] (fun (v365 : Bool) h =>
  stillAggK (sizeOfT Try.prog T.api_Tag) h nonce_2 v5 ∧
  callK Try.prog (Kd.pair .agg (.int .i64)) F.commit_some #[.pointer m0, .bool v365, .agg v5, .slice v364.a v364.n v364.c] (fun (v366 : Array Value × Int) h =>
  storeAggK (sizeOfT Try.prog T.api_Tag) h v3 v366.1 (fun h =>
  quietK Try.prog .agg (Instr.loadAt T.api_Tag (.pointer v3)) (fun (r367 : Array Value) =>
  R (.tuple #[.agg r367, .int .i64 v366.2]) h) h)) h) h))))))) h) ∧
  (newSlK h 1 #[(.int .u8 (IntKind.u8.wrap player2))] T.uint8 (fun (v368 : Sl) h =>
  ((callK Try.prog .bool F.commit_bit #[.int .i64 side3] (fun (v369 : Bool) h =>
  stillAggK (sizeOfT Try.prog T.api_Tag) h nonce_2 v5 ∧
  opK Try.prog .slice (convert T.sl_uint8 T.sl_uint8 (.slice v341.a v341.n v341.c)) (fun (v370 : Sl) h =>
  newSlK h 4 #[.slice v370.a v370.n v370.c, .slice v4.a v4.n v4.c, .slice v368.a v368.n v368.c, .slice v322.a v322.n v322.c] T.sl_uint8 (fun (v371 : Sl) h =>
  callK Try.prog (Kd.pair .agg (.int .i64)) F.commit_some #[.pointer m0, .bool v369, .agg v5, .slice v371.a v371.n v371.c] (fun (v372 : Array Value × Int) h =>
  storeAggK (sizeOfT Try.prog T.api_Tag) h v3 v372.1 (fun h =>
  quietK Try.prog .agg (Instr.loadAt T.api_Tag (.pointer v3)) (fun (r373 : Array Value) =>
  R (.tuple #[.agg r373, .int .i64 v372.2]) h) h)) h)) h) h) ∧
  (opK Try.prog .slice (convert T.sl_uint8 T.sl_uint8 (.slice v341.a v341.n v341.c)) (fun (v374 : Sl) h =>
  ((callK Try.prog .bool F.commit_bit #[.int .i64 side3] (fun (v375 : Bool) h =>
  stillAggK (sizeOfT Try.prog T.api_Tag) h nonce_2 v5 ∧
  newSlK h 4 #[.slice v374.a v374.n v374.c, .slice v4.a v4.n v4.c, .slice v368.a v368.n v368.c, .slice v322.a v322.n v322.c] T.sl_uint8 (fun (v376 : Sl) h =>
  callK Try.prog (Kd.pair .agg (.int .i64)) F.commit_some #[.pointer m0, .bool v375, .agg v5, .slice v376.a v376.n v376.c] (fun (v377 : Array Value × Int) h =>
  storeAggK (sizeOfT Try.prog T.api_Tag) h v3 v377.1 (fun h =>
  quietK Try.prog .agg (Instr.loadAt T.api_Tag (.pointer v3)) (fun (r378 : Array Value) =>
  R (.tuple #[.agg r378, .int .i64 v377.2]) h) h)) h)) h) ∧
  (newSlK h 4 #[.slice v374.a v374.n v374.c, .slice v4.a v4.n v4.c, .slice v368.a v368.n v368.c, .slice v322.a v322.n v322.c] T.sl_uint8 (fun (v379 : Sl) h =>
  callK Try.prog .bool F.commit_bit #[.int .i64 side3] (fun (v380 : Bool) h =>
  stillAggK (sizeOfT Try.prog T.api_Tag) h nonce_2 v5 ∧
  callK Try.prog (Kd.pair .agg (.int .i64)) F.commit_some #[.pointer m0, .bool v380, .agg v5, .slice v379.a v379.n v379.c] (fun (v381 : Array Value × Int) h =>
  storeAggK (sizeOfT Try.prog T.api_Tag) h v3 v381.1 (fun h =>
  quietK Try.prog .agg (Instr.loadAt T.api_Tag (.pointer v3)) (fun (r382 : Array Value) =>
  R (.tuple #[.agg r382, .int .i64 v381.2]) h) h)) h) h)))) h))))))))) ∧
  (newSlK h 1 #[(.int .u8 (IntKind.u8.wrap player2))] T.uint8 (fun (v383 : Sl) h =>
  ((callK Try.prog .bool F.commit_bit #[.int .i64 side3] (fun (v384 : Bool) h =>
  stillAggK (sizeOfT Try.prog T.api_Tag) h nonce_2 v5 ∧
  newSlK h 4 #[.int .u8 99, .int .u8 111, .int .u8 105, .int .u8 110] T.uint8 (fun (v385 : Sl) h =>
  opK Try.prog .slice (convert T.sl_uint8 T.sl_uint8 (.slice v385.a v385.n v385.c)) (fun (v386 : Sl) h =>
  newSlK h 4 #[.slice v386.a v386.n v386.c, .slice v4.a v4.n v4.c, .slice v383.a v383.n v383.c, .slice v322.a v322.n v322.c] T.sl_uint8 (fun (v387 : Sl) h =>
  callK Try.prog (Kd.pair .agg (.int .i64)) F.commit_some #[.pointer m0, .bool v384, .agg v5, .slice v387.a v387.n v387.c] (fun (v388 : Array Value × Int) h =>
  storeAggK (sizeOfT Try.prog T.api_Tag) h v3 v388.1 (fun h =>
  quietK Try.prog .agg (Instr.loadAt T.api_Tag (.pointer v3)) (fun (r389 : Array Value) =>
  R (.tuple #[.agg r389, .int .i64 v388.2]) h) h)) h)) h)) h) ∧
  (newSlK h 4 #[.int .u8 99, .int .u8 111, .int .u8 105, .int .u8 110] T.uint8 (fun (v390 : Sl) h =>
  ((callK Try.prog .bool F.commit_bit #[.int .i64 side3] (fun (v391 : Bool) h =>
  stillAggK (sizeOfT Try.prog T.api_Tag) h nonce_2 v5 ∧
  opK Try.prog .slice (convert T.sl_uint8 T.sl_uint8 (.slice v390.a v390.n v390.c)) (fun (v392 : Sl) h =>
  newSlK h 4 #[.slice v392.a v392.n v392.c, .slice v4.a v4.n v4.c, .slice v383.a v383.n v383.c, .slice v322.a v322.n v322.c] T.sl_uint8 (fun (v393 : Sl) h =>
  callK Try.prog (Kd.pair .agg (.int .i64)) F.commit_some #[.pointer m0, .bool v391, .agg v5, .slice v393.a v393.n v393.c] (fun (v394 : Array Value × Int) h =>
  storeAggK (sizeOfT Try.prog T.api_Tag) h v3 v394.1 (fun h =>
  quietK Try.prog .agg (Instr.loadAt T.api_Tag (.pointer v3)) (fun (r395 : Array Value) =>
  R (.tuple #[.agg r395, .int .i64 v394.2]) h) h)) h)) h) h) ∧
  (opK Try.prog .slice (convert T.sl_uint8 T.sl_uint8 (.slice v390.a v390.n v390.c)) (fun (v396 : Sl) h =>
  ((callK Try.prog .bool F.commit_bit #[.int .i64 side3] (fun (v397 : Bool) h =>
  stillAggK (sizeOfT Try.prog T.api_Tag) h nonce_2 v5 ∧
  newSlK h 4 #[.slice v396.a v396.n v396.c, .slice v4.a v4.n v4.c, .slice v383.a v383.n v383.c, .slice v322.a v322.n v322.c] T.sl_uint8 (fun (v398 : Sl) h =>
  callK Try.prog (Kd.pair .agg (.int .i64)) F.commit_some #[.pointer m0, .bool v397, .agg v5, .slice v398.a v398.n v398.c] (fun (v399 : Array Value × Int) h =>
  storeAggK (sizeOfT Try.prog T.api_Tag) h v3 v399.1 (fun h =>
  quietK Try.prog .agg (Instr.loadAt T.api_Tag (.pointer v3)) (fun (r400 : Array Value) =>
  R (.tuple #[.agg r400, .int .i64 v399.2]) h) h)) h)) h) ∧
  (newSlK h 4 #[.slice v396.a v396.n v396.c, .slice v4.a v4.n v4.c, .slice v383.a v383.n v383.c, .slice v322.a v322.n v322.c] T.sl_uint8 (fun (v401 : Sl) h =>
  callK Try.prog .bool F.commit_bit #[.int .i64 side3] (fun (v402 : Bool) h =>
  stillAggK (sizeOfT Try.prog T.api_Tag) h nonce_2 v5 ∧
  callK Try.prog (Kd.pair .agg (.int .i64)) F.commit_some #[.pointer m0, .bool v402, .agg v5, .slice v401.a v401.n v401.c] (fun (v403 : Array Value × Int) h =>
  storeAggK (sizeOfT Try.prog T.api_Tag) h v3 v403.1 (fun h =>
  quietK Try.prog .agg (Instr.loadAt T.api_Tag (.pointer v3)) (fun (r404 : Array Value) =>
  R (.tuple #[.agg r404, .int .i64 v403.2]) h) h)) h) h)))) h)))))))))))))))))
  else
  ((newSlK h 4 #[.int .u8 99, .int .u8 111, .int .u8 105, .int .u8 110] T.uint8 (fun (v405 : Sl) h =>
  ((opK Try.prog .slice (convert T.sl_uint8 T.sl_uint8 (.slice v405.a v405.n v405.c)) (fun (v406 : Sl) h =>
  ((newSlK h 1 #[(.int .u8 (IntKind.u8.wrap player2))] T.uint8 (fun (v407 : Sl) h =>
  newSlK h 1 #[(.int .u8 (IntKind.u8.wrap side3))] T.uint8 (fun (v408 : Sl) h =>
  newSlK h 4 #[.slice v406.a v406.n v406.c, .slice v4.a v4.n v4.c, .slice v407.a v407.n v407.c, .slice v408.a v408.n v408.c] T.sl_uint8 (fun (v409 : Sl) h =>
  callK Try.prog (Kd.pair .agg (.int .i64)) F.commit_some #[.pointer m0, .bool false, .agg v5, .slice v409.a v409.n v409.c] (fun (v410 : Array Value × Int) h =>
  storeAggK (sizeOfT Try.prog T.api_Tag) h v3 v410.1 (fun h =>
  quietK Try.prog .agg (Instr.loadAt T.api_Tag (.pointer v3)) (fun (r411 : Array Value) =>
  R (.tuple #[.agg r411, .int .i64 v410.2]) h) h)) h)))) ∧
  (newSlK h 1 #[(.int .u8 (IntKind.u8.wrap side3))] T.uint8 (fun (v412 : Sl) h =>
  newSlK h 1 #[(.int .u8 (IntKind.u8.wrap player2))] T.uint8 (fun (v413 : Sl) h =>
  newSlK h 4 #[.slice v406.a v406.n v406.c, .slice v4.a v4.n v4.c, .slice v413.a v413.n v413.c, .slice v412.a v412.n v412.c] T.sl_uint8 (fun (v414 : Sl) h =>
  callK Try.prog (Kd.pair .agg (.int .i64)) F.commit_some #[.pointer m0, .bool false, .agg v5, .slice v414.a v414.n v414.c] (fun (v415 : Array Value × Int) h =>
  storeAggK (sizeOfT Try.prog T.api_Tag) h v3 v415.1 (fun h =>
  quietK Try.prog .agg (Instr.loadAt T.api_Tag (.pointer v3)) (fun (r416 : Array Value) =>
  R (.tuple #[.agg r416, .int .i64 v415.2]) h) h)) h)))))) h) ∧
  (((newSlK h 1 #[(.int .u8 (IntKind.u8.wrap player2))] T.uint8 (fun (v417 : Sl) h =>
  ((opK Try.prog .slice (convert T.sl_uint8 T.sl_uint8 (.slice v405.a v405.n v405.c)) (fun (v418 : Sl) h =>
  newSlK h 1 #[(.int .u8 (IntKind.u8.wrap side3))] T.uint8 (fun (v419 : Sl) h =>
  newSlK h 4 #[.slice v418.a v418.n v418.c, .slice v4.a v4.n v4.c, .slice v417.a v417.n v417.c, .slice v419.a v419.n v419.c] T.sl_uint8 (fun (v420 : Sl) h =>
  callK Try.prog (Kd.pair .agg (.int .i64)) F.commit_some #[.pointer m0, .bool false, .agg v5, .slice v420.a v420.n v420.c] (fun (v421 : Array Value × Int) h =>
  storeAggK (sizeOfT Try.prog T.api_Tag) h v3 v421.1 (fun h =>
  quietK Try.prog .agg (Instr.loadAt T.api_Tag (.pointer v3)) (fun (r422 : Array Value) =>
  R (.tuple #[.agg r422, .int .i64 v421.2]) h) h)) h))) h) ∧
  (newSlK h 1 #[(.int .u8 (IntKind.u8.wrap side3))] T.uint8 (fun (v423 : Sl) h =>
  opK Try.prog .slice (convert T.sl_uint8 T.sl_uint8 (.slice v405.a v405.n v405.c)) (fun (v424 : Sl) h =>
  newSlK h 4 #[.slice v424.a v424.n v424.c, .slice v4.a v4.n v4.c, .slice v417.a v417.n v417.c, .slice v423.a v423.n v423.c] T.sl_uint8 (fun (v425 : Sl) h =>
  callK Try.prog (Kd.pair .agg (.int .i64)) F.commit_some #[.pointer m0, .bool false, .agg v5, .slice v425.a v425.n v425.c] (fun (v426 : Array Value × Int) h =>
  storeAggK (sizeOfT Try.prog T.api_Tag) h v3 v426.1 (fun h =>
  quietK Try.prog .agg (Instr.loadAt T.api_Tag (.pointer v3)) (fun (r427 : Array Value) =>
  R (.tuple #[.agg r427, .int .i64 v426.2]) h) h)) h)) h))))) ∧
  (newSlK h 1 #[(.int .u8 (IntKind.u8.wrap side3))] T.uint8 (fun (v428 : Sl) h =>
  ((opK Try.prog .slice (convert T.sl_uint8 T.sl_uint8 (.slice v405.a v405.n v405.c)) (fun (v429 : Sl) h =>
  newSlK h 1 #[(.int .u8 (IntKind.u8.wrap player2))] T.uint8 (fun (v430 : Sl) h =>
  newSlK h 4 #[.slice v429.a v429.n v429.c, .slice v4.a v4.n v4.c, .slice v430.a v430.n v430.c, .slice v428.a v428.n v428.c] T.sl_uint8 (fun (v431 : Sl) h =>
  callK Try.prog (Kd.pair .agg (.int .i64)) F.commit_some #[.pointer m0, .bool false, .agg v5, .slice v431.a v431.n v431.c] (fun (v432 : Array Value × Int) h =>
  storeAggK (sizeOfT Try.prog T.api_Tag) h v3 v432.1 (fun h =>
  quietK Try.prog .agg (Instr.loadAt T.api_Tag (.pointer v3)) (fun (r433 : Array Value) =>
  R (.tuple #[.agg r433, .int .i64 v432.2]) h) h)) h))) h) ∧
  (newSlK h 1 #[(.int .u8 (IntKind.u8.wrap player2))] T.uint8 (fun (v434 : Sl) h =>
  opK Try.prog .slice (convert T.sl_uint8 T.sl_uint8 (.slice v405.a v405.n v405.c)) (fun (v435 : Sl) h =>
  newSlK h 4 #[.slice v435.a v435.n v435.c, .slice v4.a v4.n v4.c, .slice v434.a v434.n v434.c, .slice v428.a v428.n v428.c] T.sl_uint8 (fun (v436 : Sl) h =>
  callK Try.prog (Kd.pair .agg (.int .i64)) F.commit_some #[.pointer m0, .bool false, .agg v5, .slice v436.a v436.n v436.c] (fun (v437 : Array Value × Int) h =>
  storeAggK (sizeOfT Try.prog T.api_Tag) h v3 v437.1 (fun h =>
  quietK Try.prog .agg (Instr.loadAt T.api_Tag (.pointer v3)) (fun (r438 : Array Value) =>
  R (.tuple #[.agg r438, .int .i64 v437.2]) h) h)) h)) h)))))))))) ∧
  (((newSlK h 1 #[(.int .u8 (IntKind.u8.wrap player2))] T.uint8 (fun (v439 : Sl) h =>
  ((newSlK h 4 #[.int .u8 99, .int .u8 111, .int .u8 105, .int .u8 110] T.uint8 (fun (v440 : Sl) h =>
  ((opK Try.prog .slice (convert T.sl_uint8 T.sl_uint8 (.slice v440.a v440.n v440.c)) (fun (v441 : Sl) h =>
  newSlK h 1 #[(.int .u8 (IntKind.u8.wrap side3))] T.uint8 (fun (v442 : Sl) h =>
  newSlK h 4 #[.slice v441.a v441.n v441.c, .slice v4.a v4.n v4.c, .slice v439.a v439.n v439.c, .slice v442.a v442.n v442.c] T.sl_uint8 (fun (v443 : Sl) h =>
  callK Try.prog (Kd.pair .agg (.int .i64)) F.commit_some #[.pointer m0, .bool false, .agg v5, .slice v443.a v443.n v443.c] (fun (v444 : Array Value × Int) h =>
  storeAggK (sizeOfT Try.prog T.api_Tag) h v3 v444.1 (fun h =>
  quietK Try.prog .agg (Instr.loadAt T.api_Tag (.pointer v3)) (fun (r445 : Array Value) =>
  R (.tuple #[.agg r445, .int .i64 v444.2]) h) h)) h))) h) ∧
  (newSlK h 1 #[(.int .u8 (IntKind.u8.wrap side3))] T.uint8 (fun (v446 : Sl) h =>
  opK Try.prog .slice (convert T.sl_uint8 T.sl_uint8 (.slice v440.a v440.n v440.c)) (fun (v447 : Sl) h =>
  newSlK h 4 #[.slice v447.a v447.n v447.c, .slice v4.a v4.n v4.c, .slice v439.a v439.n v439.c, .slice v446.a v446.n v446.c] T.sl_uint8 (fun (v448 : Sl) h =>
  callK Try.prog (Kd.pair .agg (.int .i64)) F.commit_some #[.pointer m0, .bool false, .agg v5, .slice v448.a v448.n v448.c] (fun (v449 : Array Value × Int) h =>
  storeAggK (sizeOfT Try.prog T.api_Tag) h v3 v449.1 (fun h =>
  quietK Try.prog .agg (Instr.loadAt T.api_Tag (.pointer v3)) (fun (r450 : Array Value) =>
  R (.tuple #[.agg r450, .int .i64 v449.2]) h) h)) h)) h))))) ∧
  (newSlK h 1 #[(.int .u8 (IntKind.u8.wrap side3))] T.uint8 (fun (v451 : Sl) h =>
  newSlK h 4 #[.int .u8 99, .int .u8 111, .int .u8 105, .int .u8 110] T.uint8 (fun (v452 : Sl) h =>
  opK Try.prog .slice (convert T.sl_uint8 T.sl_uint8 (.slice v452.a v452.n v452.c)) (fun (v453 : Sl) h =>
  newSlK h 4 #[.slice v453.a v453.n v453.c, .slice v4.a v4.n v4.c, .slice v439.a v439.n v439.c, .slice v451.a v451.n v451.c] T.sl_uint8 (fun (v454 : Sl) h =>
  callK Try.prog (Kd.pair .agg (.int .i64)) F.commit_some #[.pointer m0, .bool false, .agg v5, .slice v454.a v454.n v454.c] (fun (v455 : Array Value × Int) h =>
  storeAggK (sizeOfT Try.prog T.api_Tag) h v3 v455.1 (fun h =>
  quietK Try.prog .agg (Instr.loadAt T.api_Tag (.pointer v3)) (fun (r456 : Array Value) =>
  R (.tuple #[.agg r456, .int .i64 v455.2]) h) h)) h)) h)))))) ∧
  (newSlK h 1 #[(.int .u8 (IntKind.u8.wrap side3))] T.uint8 (fun (v457 : Sl) h =>
  ((newSlK h 4 #[.int .u8 99, .int .u8 111, .int .u8 105, .int .u8 110] T.uint8 (fun (v458 : Sl) h =>
  ((opK Try.prog .slice (convert T.sl_uint8 T.sl_uint8 (.slice v458.a v458.n v458.c)) (fun (v459 : Sl) h =>
  newSlK h 1 #[(.int .u8 (IntKind.u8.wrap player2))] T.uint8 (fun (v460 : Sl) h =>
  newSlK h 4 #[.slice v459.a v459.n v459.c, .slice v4.a v4.n v4.c, .slice v460.a v460.n v460.c, .slice v457.a v457.n v457.c] T.sl_uint8 (fun (v461 : Sl) h =>
  callK Try.prog (Kd.pair .agg (.int .i64)) F.commit_some #[.pointer m0, .bool false, .agg v5, .slice v461.a v461.n v461.c] (fun (v462 : Array Value × Int) h =>
  storeAggK (sizeOfT Try.prog T.api_Tag) h v3 v462.1 (fun h =>
  quietK Try.prog .agg (Instr.loadAt T.api_Tag (.pointer v3)) (fun (r463 : Array Value) =>
  R (.tuple #[.agg r463, .int .i64 v462.2]) h) h)) h))) h) ∧
  (newSlK h 1 #[(.int .u8 (IntKind.u8.wrap player2))] T.uint8 (fun (v464 : Sl) h =>
  opK Try.prog .slice (convert T.sl_uint8 T.sl_uint8 (.slice v458.a v458.n v458.c)) (fun (v465 : Sl) h =>
  newSlK h 4 #[.slice v465.a v465.n v465.c, .slice v4.a v4.n v4.c, .slice v464.a v464.n v464.c, .slice v457.a v457.n v457.c] T.sl_uint8 (fun (v466 : Sl) h =>
  callK Try.prog (Kd.pair .agg (.int .i64)) F.commit_some #[.pointer m0, .bool false, .agg v5, .slice v466.a v466.n v466.c] (fun (v467 : Array Value × Int) h =>
  storeAggK (sizeOfT Try.prog T.api_Tag) h v3 v467.1 (fun h =>
  quietK Try.prog .agg (Instr.loadAt T.api_Tag (.pointer v3)) (fun (r468 : Array Value) =>
  R (.tuple #[.agg r468, .int .i64 v467.2]) h) h)) h)) h))))) ∧
  (newSlK h 1 #[(.int .u8 (IntKind.u8.wrap player2))] T.uint8 (fun (v469 : Sl) h =>
  newSlK h 4 #[.int .u8 99, .int .u8 111, .int .u8 105, .int .u8 110] T.uint8 (fun (v470 : Sl) h =>
  opK Try.prog .slice (convert T.sl_uint8 T.sl_uint8 (.slice v470.a v470.n v470.c)) (fun (v471 : Sl) h =>
  newSlK h 4 #[.slice v471.a v471.n v471.c, .slice v4.a v4.n v4.c, .slice v469.a v469.n v469.c, .slice v457.a v457.n v457.c] T.sl_uint8 (fun (v472 : Sl) h =>
  callK Try.prog (Kd.pair .agg (.int .i64)) F.commit_some #[.pointer m0, .bool false, .agg v5, .slice v472.a v472.n v472.c] (fun (v473 : Array Value × Int) h =>
  storeAggK (sizeOfT Try.prog T.api_Tag) h v3 v473.1 (fun h =>
  quietK Try.prog .agg (Instr.loadAt T.api_Tag (.pointer v3)) (fun (r474 : Array Value) =>
  R (.tuple #[.agg r474, .int .i64 v473.2]) h) h)) h)) h)))))))))) h) ∧
  (((newSlK h 4 #[.int .u8 99, .int .u8 111, .int .u8 105, .int .u8 110] T.uint8 (fun (v475 : Sl) h =>
  ((callK Try.prog .bool F.commit_bit #[.int .i64 player2] (fun (v476 : Bool) h =>
  stillAggK (sizeOfT Try.prog T.api_Tag) h nonce_2 v5 ∧
  if v476 = true then
  ((callK Try.prog .bool F.commit_bit #[.int .i64 side3] (fun (v477 : Bool) h =>
  stillAggK (sizeOfT Try.prog T.api_Tag) h nonce_2 v5 ∧
  ((opK Try.prog .slice (convert T.sl_uint8 T.sl_uint8 (.slice v475.a v475.n v475.c)) (fun (v478 : Sl) h =>
  ((newSlK h 1 #[(.int .u8 (IntKind.u8.wrap player2))] T.uint8 (fun (v479 : Sl) h =>
  newSlK h 1 #[(.int .u8 (IntKind.u8.wrap side3))] T.uint8 (fun (v480 : Sl) h =>
  newSlK h 4 #[.slice v478.a v478.n v478.c, .slice v4.a v4.n v4.c, .slice v479.a v479.n v479.c, .slice v480.a v480.n v480.c] T.sl_uint8 (fun (v481 : Sl) h =>
  callK Try.prog (Kd.pair .agg (.int .i64)) F.commit_some #[.pointer m0, .bool v477, .agg v5, .slice v481.a v481.n v481.c] (fun (v482 : Array Value × Int) h =>
  storeAggK (sizeOfT Try.prog T.api_Tag) h v3 v482.1 (fun h =>
  quietK Try.prog .agg (Instr.loadAt T.api_Tag (.pointer v3)) (fun (r483 : Array Value) =>
  R (.tuple #[.agg r483, .int .i64 v482.2]) h) h)) h)))) ∧
  (newSlK h 1 #[(.int .u8 (IntKind.u8.wrap side3))] T.uint8 (fun (v484 : Sl) h =>
  newSlK h 1 #[(.int .u8 (IntKind.u8.wrap player2))] T.uint8 (fun (v485 : Sl) h =>
  newSlK h 4 #[.slice v478.a v478.n v478.c, .slice v4.a v4.n v4.c, .slice v485.a v485.n v485.c, .slice v484.a v484.n v484.c] T.sl_uint8 (fun (v486 : Sl) h =>
  callK Try.prog (Kd.pair .agg (.int .i64)) F.commit_some #[.pointer m0, .bool v477, .agg v5, .slice v486.a v486.n v486.c] (fun (v487 : Array Value × Int) h =>
  storeAggK (sizeOfT Try.prog T.api_Tag) h v3 v487.1 (fun h =>
  quietK Try.prog .agg (Instr.loadAt T.api_Tag (.pointer v3)) (fun (r488 : Array Value) =>
  R (.tuple #[.agg r488, .int .i64 v487.2]) h) h)) h)))))) h) ∧
  (((newSlK h 1 #[(.int .u8 (IntKind.u8.wrap player2))] T.uint8 (fun (v489 : Sl) h =>
  ((opK Try.prog .slice (convert T.sl_uint8 T.sl_uint8 (.slice v475.a v475.n v475.c)) (fun (v490 : Sl) h =>
  newSlK h 1 #[(.int .u8 (IntKind.u8.wrap side3))] T.uint8 (fun (v491 : Sl) h =>
  newSlK h 4 #[.slice v490.a v490.n v490.c, .slice v4.a v4.n v4.c, .slice v489.a v489.n v489.c, .slice v491.a v491.n v491.c] T.sl_uint8 (fun (v492 : Sl) h =>
  callK Try.prog (Kd.pair .agg (.int .i64)) F.commit_some #[.pointer m0, .bool v477, .agg v5, .slice v492.a v492.n v492.c] (fun (v493 : Array Value × Int) h =>
  storeAggK (sizeOfT Try.prog T.api_Tag) h v3 v493.1 (fun h =>
  quietK Try.prog .agg (Instr.loadAt T.api_Tag (.pointer v3)) (fun (r494 : Array Value) =>
  R (.tuple #[.agg r494, .int .i64 v493.2]) h) h)) h))) h) ∧
  (newSlK h 1 #[(.int .u8 (IntKind.u8.wrap side3))] T.uint8 (fun (v495 : Sl) h =>
  opK Try.prog .slice (convert T.sl_uint8 T.sl_uint8 (.slice v475.a v475.n v475.c)) (fun (v496 : Sl) h =>
  newSlK h 4 #[.slice v496.a v496.n v496.c, .slice v4.a v4.n v4.c, .slice v489.a v489.n v489.c, .slice v495.a v495.n v495.c] T.sl_uint8 (fun (v497 : Sl) h =>
  callK Try.prog (Kd.pair .agg (.int .i64)) F.commit_some #[.pointer m0, .bool v477, .agg v5, .slice v497.a v497.n v497.c] (fun (v498 : Array Value × Int) h =>
  storeAggK (sizeOfT Try.prog T.api_Tag) h v3 v498.1 (fun h =>
  quietK Try.prog .agg (Instr.loadAt T.api_Tag (.pointer v3)) (fun (r499 : Array Value) =>
  R (.tuple #[.agg r499, .int .i64 v498.2]) h) h)) h)) h))))) ∧
  (newSlK h 1 #[(.int .u8 (IntKind.u8.wrap side3))] T.uint8 (fun (v500 : Sl) h =>
  ((opK Try.prog .slice (convert T.sl_uint8 T.sl_uint8 (.slice v475.a v475.n v475.c)) (fun (v501 : Sl) h =>
  newSlK h 1 #[(.int .u8 (IntKind.u8.wrap player2))] T.uint8 (fun (v502 : Sl) h =>
  newSlK h 4 #[.slice v501.a v501.n v501.c, .slice v4.a v4.n v4.c, .slice v502.a v502.n v502.c, .slice v500.a v500.n v500.c] T.sl_uint8 (fun (v503 : Sl) h =>
  callK Try.prog (Kd.pair .agg (.int .i64)) F.commit_some #[.pointer m0, .bool v477, .agg v5, .slice v503.a v503.n v503.c] (fun (v504 : Array Value × Int) h =>
  storeAggK (sizeOfT Try.prog T.api_Tag) h v3 v504.1 (fun h =>
  quietK Try.prog .agg (Instr.loadAt T.api_Tag (.pointer v3)) (fun (r505 : Array Value) =>
  R (.tuple #[.agg r505, .int .i64 v504.2]) h) h)) h))) h) ∧
  (newSlK h 1 #[(.int .u8 (IntKind.u8.wrap player2))] T.uint8 (fun (v506 : Sl) h =>
  opK Try.prog .slice (convert T.sl_uint8 T.sl_uint8 (.slice v475.a v475.n v475.c)) (fun (v507 : Sl) h =>
  newSlK h 4 #[.slice v507.a v507.n v507.c, .slice v4.a v4.n v4.c, .slice v506.a v506.n v506.c, .slice v500.a v500.n v500.c] T.sl_uint8 (fun (v508 : Sl) h =>
  callK Try.prog (Kd.pair .agg (.int .i64)) F.commit_some #[.pointer m0, .bool v477, .agg v5, .slice v508.a v508.n v508.c] (fun (v509 : Array Value × Int) h =>
  storeAggK (sizeOfT Try.prog T.api_Tag) h v3 v509.1 (fun h =>
  quietK Try.prog .agg (Instr.loadAt T.api_Tag (.pointer v3)) (fun (r510 : Array Value) =>
  R (.tuple #[.agg r510, .int .i64 v509.2]) h) h)) h)) h))))))))) h) ∧
  (((opK Try.prog .slice (convert T.sl_uint8 T.sl_uint8 (.slice v475.a v475.n v475.c)) (fun (v511 : Sl) h =>
  ((callK Try.prog .bool F.commit_bit #[.int .i64 side3] (fun (v512 : Bool) h =>
  stillAggK (sizeOfT Try.prog T.api_Tag) h nonce_2 v5 ∧
  ((newSlK h 1 #[(.int .u8 (IntKind.u8.wrap player2))] T.uint8 (fun (v513 : Sl) h =>
  newSlK h 1 #[(.int .u8 (IntKind.u8.wrap side3))] T.uint8 (fun (v514 : Sl) h =>
  newSlK h 4 #[.slice v511.a v511.n v511.c, .slice v4.a v4.n v4.c, .slice v513.a v513.n v513.c, .slice v514.a v514.n v514.c] T.sl_uint8 (fun (v515 : Sl) h =>
  callK Try.prog (Kd.pair .agg (.int .i64)) F.commit_some #[.pointer m0, .bool v512, .agg v5, .slice v515.a v515.n v515.c] (fun (v516 : Array Value × Int) h =>
  storeAggK (sizeOfT Try.prog T.api_Tag) h v3 v516.1 (fun h =>
  quietK Try.prog .agg (Instr.loadAt T.api_Tag (.pointer v3)) (fun (r517 : Array Value) =>
  R (.tuple #[.agg r517, .int .i64 v516.2]) h) h)) h)))) ∧
  (newSlK h 1 #[(.int .u8 (IntKind.u8.wrap side3))] T.uint8 (fun (v518 : Sl) h =>
  newSlK h 1 #[(.int .u8 (IntKind.u8.wrap player2))] T.uint8 (fun (v519 : Sl) h =>
  newSlK h 4 #[.slice v511.a v511.n v511.c, .slice v4.a v4.n v4.c, .slice v519.a v519.n v519.c, .slice v518.a v518.n v518.c] T.sl_uint8 (fun (v520 : Sl) h =>
  callK Try.prog (Kd.pair .agg (.int .i64)) F.commit_some #[.pointer m0, .bool v512, .agg v5, .slice v520.a v520.n v520.c] (fun (v521 : Array Value × Int) h =>
  storeAggK (sizeOfT Try.prog T.api_Tag) h v3 v521.1 (fun h =>
  quietK Try.prog .agg (Instr.loadAt T.api_Tag (.pointer v3)) (fun (r522 : Array Value) =>
  R (.tuple #[.agg r522, .int .i64 v521.2]) h) h)) h)))))) h) ∧
  (((newSlK h 1 #[(.int .u8 (IntKind.u8.wrap player2))] T.uint8 (fun (v523 : Sl) h =>
  ((callK Try.prog .bool F.commit_bit #[.int .i64 side3] (fun (v524 : Bool) h =>
  stillAggK (sizeOfT Try.prog T.api_Tag) h nonce_2 v5 ∧
  newSlK h 1 #[(.int .u8 (IntKind.u8.wrap side3))] T.uint8 (fun (v525 : Sl) h =>
  newSlK h 4 #[.slice v511.a v511.n v511.c, .slice v4.a v4.n v4.c, .slice v523.a v523.n v523.c, .slice v525.a v525.n v525.c] T.sl_uint8 (fun (v526 : Sl) h =>
  callK Try.prog (Kd.pair .agg (.int .i64)) F.commit_some #[.pointer m0, .bool v524, .agg v5, .slice v526.a v526.n v526.c] (fun (v527 : Array Value × Int) h =>
  storeAggK (sizeOfT Try.prog T.api_Tag) h v3 v527.1 (fun h =>
  quietK Try.prog .agg (Instr.loadAt T.api_Tag (.pointer v3)) (fun (r528 : Array Value) =>
  R (.tuple #[.agg r528, .int .i64 v527.2]) h) h)) h))) h) ∧
  (newSlK h 1 #[(.int .u8 (IntKind.u8.wrap side3))] T.uint8 (fun (v529 : Sl) h =>
  ((callK Try.prog .bool F.commit_bit #[.int .i64 side3] (fun (v530 : Bool) h =>
  stillAggK (sizeOfT Try.prog T.api_Tag) h nonce_2 v5 ∧
  newSlK h 4 #[.slice v511.a v511.n v511.c, .slice v4.a v4.n v4.c, .slice v523.a v523.n v523.c, .slice v529.a v529.n v529.c] T.sl_uint8 (fun (v531 : Sl) h =>
  callK Try.prog (Kd.pair .agg (.int .i64)) F.commit_some #[.pointer m0, .bool v530, .agg v5, .slice v531.a v531.n v531.c] (fun (v532 : Array Value × Int) h =>
  storeAggK (sizeOfT Try.prog T.api_Tag) h v3 v532.1 (fun h =>
  quietK Try.prog .agg (Instr.loadAt T.api_Tag (.pointer v3)) (fun (r533 : Array Value) =>
  R (.tuple #[.agg r533, .int .i64 v532.2]) h) h)) h)) h) ∧
  (newSlK h 4 #[.slice v511.a v511.n v511.c, .slice v4.a v4.n v4.c, .slice v523.a v523.n v523.c, .slice v529.a v529.n v529.c] T.sl_uint8 (fun (v534 : Sl) h =>
  callK Try.prog .bool F.commit_bit #[.int .i64 side3] (fun (v535 : Bool) h =>
  stillAggK (sizeOfT Try.prog T.api_Tag) h nonce_2 v5 ∧
  callK Try.prog (Kd.pair .agg (.int .i64)) F.commit_some #[.pointer m0, .bool v535, .agg v5, .slice v534.a v534.n v534.c] (fun (v536 : Array Value × Int) h =>
  storeAggK (sizeOfT Try.prog T.api_Tag) h v3 v536.1 (fun h =>
  quietK Try.prog .agg (Instr.loadAt T.api_Tag (.pointer v3)) (fun (r537 : Array Value) =>
  R (.tuple #[.agg r537, .int .i64 v536.2]) h) h)) h) h)))))))) ∧
  (newSlK h 1 #[(.int .u8 (IntKind.u8.wrap side3))] T.uint8 (fun (v538 : Sl) h =>
  ((callK Try.prog .bool F.commit_bit #[.int .i64 side3] (fun (v539 : Bool) h =>
  stillAggK (sizeOfT Try.prog T.api_Tag) h nonce_2 v5 ∧
  newSlK h 1 #[(.int .u8 (IntKind.u8.wrap player2))] T.uint8 (fun (v540 : Sl) h =>
  newSlK h 4 #[.slice v511.a v511.n v511.c, .slice v4.a v4.n v4.c, .slice v540.a v540.n v540.c, .slice v538.a v538.n v538.c] T.sl_uint8 (fun (v541 : Sl) h =>
  callK Try.prog (Kd.pair .agg (.int .i64)) F.commit_some #[.pointer m0, .bool v539, .agg v5, .slice v541.a v541.n v541.c] (fun (v542 : Array Value × Int) h =>
  storeAggK (sizeOfT Try.prog T.api_Tag) h v3 v542.1 (fun h =>
  quietK Try.prog .agg (Instr.loadAt T.api_Tag (.pointer v3)) (fun (r543 : Array Value) =>
  R (.tuple #[.agg r543, .int .i64 v542.2]) h) h)) h))) h) ∧
  (newSlK h 1 #[(.int .u8 (IntKind.u8.wrap player2))] T.uint8 (fun (v544 : Sl) h =>
  ((callK Try.prog .bool F.commit_bit #[.int .i64 side3] (fun (v545 : Bool) h =>
  stillAggK (sizeOfT Try.prog T.api_Tag) h nonce_2 v5 ∧
  newSlK h 4 #[.slice v511.a v511.n v511.c, .slice v4.a v4.n v4.c, .slice v544.a v544.n v544.c, .slice v538.a v538.n v538.c] T.sl_uint8 (fun (v546 : Sl) h =>
  callK Try.prog (Kd.pair .agg (.int .i64)) F.commit_some #[.pointer m0, .bool v545, .agg v5, .slice v546.a v546.n v546.c] (fun (v547 : Array Value × Int) h =>
  storeAggK (sizeOfT Try.prog T.api_Tag) h v3 v547.1 (fun h =>
  quietK Try.prog .agg (Instr.loadAt T.api_Tag (.pointer v3)) (fun (r548 : Array Value) =>
  R (.tuple #[.agg r548, .int .i64 v547.2]) h) h)) h)) h) ∧
  (newSlK h 4 #[.slice v511.a v511.n v511.c, .slice v4.a v4.n v4.c, .slice v544.a v544.n v544.c, .slice v538.a v538.n v538.c] T.sl_uint8 (fun (v549 : Sl) h =>
  callK Try.prog .bool F.commit_bit #[.int .i64 side3] (fun (v550 : Bool) h =>
  stillAggK (sizeOfT Try.prog T.api_Tag) h nonce_2 v5 ∧
  callK Try.prog (Kd.pair .agg (.int .i64)) F.commit_some #[.pointer m0, .bool v550, .agg v5, .slice v549.a v549.n v549.c] (fun (v551 : Array Value × Int) h =>
  storeAggK (sizeOfT Try.prog T.api_Tag) h v3 v551.1 (fun h =>
  quietK Try.prog .agg (Instr.loadAt T.api_Tag (.pointer v3)) (fun (r552 : Array Value) =>
  R (.tuple #[.agg r552, .int .i64 v551.2]) h) h)) h) h)))))))))))) h) ∧
  (((newSlK h 1 #[(.int .u8 (IntKind.u8.wrap player2))] T.uint8 (fun (v553 : Sl) h =>
  ((callK Try.prog .bool F.commit_bit #[.int .i64 side3] (fun (v554 : Bool) h =>
  stillAggK (sizeOfT Try.prog T.api_Tag) h nonce_2 v5 ∧
  ((opK Try.prog .slice (convert T.sl_uint8 T.sl_uint8 (.slice v475.a v475.n v475.c)) (fun (v555 : Sl) h =>
  newSlK h 1 #[(.int .u8 (IntKind.u8.wrap side3))] T.uint8 (fun (v556 : Sl) h =>
  newSlK h 4 #[.slice v555.a v555.n v555.c, .slice v4.a v4.n v4.c, .slice v553.a v553.n v553.c, .slice v556.a v556.n v556.c] T.sl_uint8 (fun (v557 : Sl) h =>
  callK Try.prog (Kd.pair .agg (.int .i64)) F.commit_some #[.pointer m0, .bool v554, .agg v5, .slice v557.a v557.n v557.c] (fun (v558 : Array Value × Int) h =>
  storeAggK (sizeOfT Try.prog T.api_Tag) h v3 v558.1 (fun h =>
  quietK Try.prog .agg (Instr.loadAt T.api_Tag (.pointer v3)) (fun (r559 : Array Value) =>
  R (.tuple #[.agg r559, .int .i64 v558.2]) h) h)) h))) h) ∧
  (newSlK h 1 #[(.int .u8 (IntKind.u8.wrap side3))] T.uint8 (fun (v560 : Sl) h =>
  opK Try.prog .slice (convert T.sl_uint8 T.sl_uint8 (.slice v475.a v475.n v475.c)) (fun (v561 : Sl) h =>
  newSlK h 4 #[.slice v561.a v561.n v561.c, .slice v4.a v4.n v4.c, .slice v553.a v553.n v553.c, .slice v560.a v560.n v560.c] T.sl_uint8 (fun (v562 : Sl) h =>
  callK Try.prog (Kd.pair .agg (.int .i64)) F.commit_some #[.pointer m0, .bool v554, .agg v5, .slice v562.a v562.n v562.c] (fun (v563 : Array Value × Int) h =>
  storeAggK (sizeOfT Try.prog T.api_Tag) h v3 v563.1 (fun h =>
  quietK Try.prog .agg (Instr.loadAt T.api_Tag (.pointer v3)) (fun (r564 : Array Value) =>
  R (.tuple #[.agg r564, .int .i64 v563.2]) h) h)) h)) h)))) h) ∧
  (((opK Try.prog .slice (convert T.sl_uint8 T.sl_uint8 (.slice v475.a v475.n v475.c)) (fun (v565 : Sl) h =>
  ((callK Try.prog .bool F.commit_bit #[.int .i64 side3] (fun (v566 : Bool) h =>
  stillAggK (sizeOfT Try.prog T.api_Tag) h nonce_2 v5 ∧
  newSlK h 1 #[(.int .u8 (IntKind.u8.wrap side3))] T.uint8 (fun (v567 : Sl) h =>
  newSlK h 4 #[.slice v565.a v565.n v565.c, .slice v4.a v4.n v4.c, .slice v553.a v553.n v553.c, .slice v567.a v567.n v567.c] T.sl_uint8 (fun (v568 : Sl) h =>
  callK Try.prog (Kd.pair .agg (.int .i64)) F.commit_some #[.pointer m0, .bool v566, .agg v5, .slice v568.a v568.n v568.c] (fun (v569 : Array Value × Int) h =>
  storeAggK (sizeOfT Try.prog T.api_Tag) h v3 v569.1 (fun h =>
  quietK Try.prog .agg (Instr.loadAt T.api_Tag (.pointer v3)) (fun (r570 : Array Value) =>
  R (.tuple #[.agg r570, .int .i64 v569.2]) h) h)) h))) h) ∧
  (newSlK h 1 #[(.int .u8 (IntKind.u8.wrap side3))] T.uint8 (fun (v571 : Sl) h =>
  ((callK Try.prog .bool F.commit_bit #[.int .i64 side3] (fun (v572 : Bool) h =>
  stillAggK (sizeOfT Try.prog T.api_Tag) h nonce_2 v5 ∧
  newSlK h 4 #[.slice v565.a v565.n v565.c, .slice v4.a v4.n v4.c, .slice v553.a v553.n v553.c, .slice v571.a v571.n v571.c] T.sl_uint8 (fun (v573 : Sl) h =>
  callK Try.prog (Kd.pair .agg (.int .i64)) F.commit_some #[.pointer m0, .bool v572, .agg v5, .slice v573.a v573.n v573.c] (fun (v574 : Array Value × Int) h =>
  storeAggK (sizeOfT Try.prog T.api_Tag) h v3 v574.1 (fun h =>
  quietK Try.prog .agg (Instr.loadAt T.api_Tag (.pointer v3)) (fun (r575 : Array Value) =>
  R (.tuple #[.agg r575, .int .i64 v574.2]) h) h)) h)) h) ∧
  (newSlK h 4 #[.slice v565.a v565.n v565.c, .slice v4.a v4.n v4.c, .slice v553.a v553.n v553.c, .slice v571.a v571.n v571.c] T.sl_uint8 (fun (v576 : Sl) h =>
  callK Try.prog .bool F.commit_bit #[.int .i64 side3] (fun (v577 : Bool) h =>
  stillAggK (sizeOfT Try.prog T.api_Tag) h nonce_2 v5 ∧
  callK Try.prog (Kd.pair .agg (.int .i64)) F.commit_some #[.pointer m0, .bool v577, .agg v5, .slice v576.a v576.n v576.c] (fun (v578 : Array Value × Int) h =>
  storeAggK (sizeOfT Try.prog T.api_Tag) h v3 v578.1 (fun h =>
  quietK Try.prog .agg (Instr.loadAt T.api_Tag (.pointer v3)) (fun (r579 : Array Value) =>
  R (.tuple #[.agg r579, .int .i64 v578.2]) h) h)) h) h))))))) h) ∧
  (newSlK h 1 #[(.int .u8 (IntKind.u8.wrap side3))] T.uint8 (fun (v580 : Sl) h =>
  ((callK Try.prog .bool F.commit_bit #[.int .i64 side3] (fun (v581 : Bool) h =>
  stillAggK (sizeOfT Try.prog T.api_Tag) h nonce_2 v5 ∧
  opK Try.prog .slice (convert T.sl_uint8 T.sl_uint8 (.slice v475.a v475.n v475.c)) (fun (v582 : Sl) h =>
  newSlK h 4 #[.slice v582.a v582.n v582.c, .slice v4.a v4.n v4.c, .slice v553.a v553.n v553.c, .slice v580.a v580.n v580.c] T.sl_uint8 (fun (v583 : Sl) h =>
  callK Try.prog (Kd.pair .agg (.int .i64)) F.commit_some #[.pointer m0, .bool v581, .agg v5, .slice v583.a v583.n v583.c] (fun (v584 : Array Value × Int) h =>
  storeAggK (sizeOfT Try.prog T.api_Tag) h v3 v584.1 (fun h =>
  quietK Try.prog .agg (Instr.loadAt T.api_Tag (.pointer v3)) (fun (r585 : Array Value) =>
  R (.tuple #[.agg r585, .int .i64 v584.2]) h) h)) h)) h) h) ∧
  (opK Try.prog .slice (convert T.sl_uint8 T.sl_uint8 (.slice v475.a v475.n v475.c)) (fun (v586 : Sl) h =>
  ((callK Try.prog .bool F.commit_bit #[.int .i64 side3] (fun (v587 : Bool) h =>
  stillAggK (sizeOfT Try.prog T.api_Tag) h nonce_2 v5 ∧
  newSlK h 4 #[.slice v586.a v586.n v586.c, .slice v4.a v4.n v4.c, .slice v553.a v553.n v553.c, .slice v580.a v580.n v580.c] T.sl_uint8 (fun (v588 : Sl) h =>
  callK Try.prog (Kd.pair .agg (.int .i64)) F.commit_some #[.pointer m0, .bool v587, .agg v5, .slice v588.a v588.n v588.c] (fun (v589 : Array Value × Int) h =>
  storeAggK (sizeOfT Try.prog T.api_Tag) h v3 v589.1 (fun h =>
  quietK Try.prog .agg (Instr.loadAt T.api_Tag (.pointer v3)) (fun (r590 : Array Value) =>
  R (.tuple #[.agg r590, .int .i64 v589.2]) h) h)) h)) h) ∧
  (newSlK h 4 #[.slice v586.a v586.n v586.c, .slice v4.a v4.n v4.c, .slice v553.a v553.n v553.c, .slice v580.a v580.n v580.c] T.sl_uint8 (fun (v591 : Sl) h =>
  callK Try.prog .bool F.commit_bit #[.int .i64 side3] (fun (v592 : Bool) h =>
  stillAggK (sizeOfT Try.prog T.api_Tag) h nonce_2 v5 ∧
  callK Try.prog (Kd.pair .agg (.int .i64)) F.commit_some #[.pointer m0, .bool v592, .agg v5, .slice v591.a v591.n v591.c] (fun (v593 : Array Value × Int) h =>
  storeAggK (sizeOfT Try.prog T.api_Tag) h v3 v593.1 (fun h =>
  quietK Try.prog .agg (Instr.loadAt T.api_Tag (.pointer v3)) (fun (r594 : Array Value) =>
  R (.tuple #[.agg r594, .int .i64 v593.2]) h) h)) h) h)))) h))))))))) ∧
  (newSlK h 1 #[(.int .u8 (IntKind.u8.wrap side3))] T.uint8 (fun (v595 : Sl) h =>
  ((callK Try.prog .bool F.commit_bit #[.int .i64 side3] (fun (v596 : Bool) h =>
  stillAggK (sizeOfT Try.prog T.api_Tag) h nonce_2 v5 ∧
  ((opK Try.prog .slice (convert T.sl_uint8 T.sl_uint8 (.slice v475.a v475.n v475.c)) (fun (v597 : Sl) h =>
  newSlK h 1 #[(.int .u8 (IntKind.u8.wrap player2))] T.uint8 (fun (v598 : Sl) h =>
  newSlK h 4 #[.slice v597.a v597.n v597.c, .slice v4.a v4.n v4.c, .slice v598.a v598.n v598.c, .slice v595.a v595.n v595.c] T.sl_uint8 (fun (v599 : Sl) h =>
  callK Try.prog (Kd.pair .agg (.int .i64)) F.commit_some #[.pointer m0, .bool v596, .agg v5, .slice v599.a v599.n v599.c] (fun (v600 : Array Value × Int) h =>
  storeAggK (sizeOfT Try.prog T.api_Tag) h v3 v600.1 (fun h =>
  quietK Try.prog .agg (Instr.loadAt T.api_Tag (.pointer v3)) (fun (r601 : Array Value) =>
  R (.tuple #[.agg r601, .int .i64 v600.2]) h) h)) h))) h) ∧
  (newSlK h 1 #[(.int .u8 (IntKind.u8.wrap player2))] T.uint8 (fun (v602 : Sl) h =>
  opK Try.prog .slice (convert T.sl_uint8 T.sl_uint8 (.slice v475.a v475.n v475.c)) (fun (v603 : Sl) h =>
  newSlK h 4 #[.slice v603.a v603.n v603.c, .slice v4.a v4.n v4.c, .slice v602.a v602.n v602.c, .slice v595.a v595.n v595.c] T.sl_uint8 (fun (v604 : Sl) h =>
  callK Try.prog (Kd.pair .agg (.int .i64)) F.commit_some #[.pointer m0, .bool v596, .agg v5, .slice v604.a v604.n v604.c] (fun (v605 : Array Value × Int) h =>
  storeAggK (sizeOfT Try.prog T.api_Tag) h v3 v605.1 (fun h =>
  quietK Try.prog .agg (Instr.loadAt T.api_Tag (.pointer v3)) (fun (r606 : Array Value) =>
  R (.tuple #[.agg r606, .int .i64 v605.2]) h) h)) h)) h)))) h) ∧
  (((opK Try.prog .slice (convert T.sl_uint8 T.sl_uint8 (.slice v475.a v475.n v475.c)) (fun (v607 : Sl) h =>
  ((callK Try.prog .bool F.commit_bit #[.int .i64 side3] (fun (v608 : Bool) h =>
  stillAggK (sizeOfT Try.prog T.api_Tag) h nonce_2 v5 ∧
  newSlK h 1 #[(.int .u8 (IntKind.u8.wrap player2))] T.uint8 (fun (v609 : Sl) h =>
  newSlK h 4 #[.slice v607.a v607.n v607.c, .slice v4.a v4.n v4.c, .slice v609.a v609.n v609.c, .slice v595.a v595.n v595.c] T.sl_uint8 (fun (v610 : Sl) h =>
  callK Try.prog (Kd.pair .agg (.int .i64)) F.commit_some #[.pointer m0, .bool v608, .agg v5, .slice v610.a v610.n v610.c] (fun (v611 : Array Value × Int) h =>
  storeAggK (sizeOfT Try.prog T.api_Tag) h v3 v611.1 (fun h =>
  quietK Try.prog .agg (Instr.loadAt T.api_Tag (.pointer v3)) (fun (r612 : Array Value) =>
  R (.tuple #[.agg r612, .int .i64 v611.2]) h) h)) h))) h) ∧
  (newSlK h 1 #[(.int .u8 (IntKind.u8.wrap player2))] T.uint8 (fun (v613 : Sl) h =>
  ((callK Try.prog .bool F.commit_bit #[.int .i64 side3] (fun (v614 : Bool) h =>
  stillAggK (sizeOfT Try.prog T.api_Tag) h nonce_2 v5 ∧
  newSlK h 4 #[.slice v607.a v607.n v607.c, .slice v4.a v4.n v4.c, .slice v613.a v613.n v613.c, .slice v595.a v595.n v595.c] T.sl_uint8 (fun (v615 : Sl) h =>
  callK Try.prog (Kd.pair .agg (.int .i64)) F.commit_some #[.pointer m0, .bool v614, .agg v5, .slice v615.a v615.n v615.c] (fun (v616 : Array Value × Int) h =>
  storeAggK (sizeOfT Try.prog T.api_Tag) h v3 v616.1 (fun h =>
  quietK Try.prog .agg (Instr.loadAt T.api_Tag (.pointer v3)) (fun (r617 : Array Value) =>
  R (.tuple #[.agg r617, .int .i64 v616.2]) h) h)) h)) h) ∧
  (newSlK h 4 #[.slice v607.a v607.n v607.c, .slice v4.a v4.n v4.c, .slice v613.a v613.n v613.c, .slice v595.a v595.n v595.c] T.sl_uint8 (fun (v618 : Sl) h =>
  callK Try.prog .bool F.commit_bit #[.int .i64 side3] (fun (v619 : Bool) h =>
  stillAggK (sizeOfT Try.prog T.api_Tag) h nonce_2 v5 ∧
  callK Try.prog (Kd.pair .agg (.int .i64)) F.commit_some #[.pointer m0, .bool v619, .agg v5, .slice v618.a v618.n v618.c] (fun (v620 : Array Value × Int) h =>
  storeAggK (sizeOfT Try.prog T.api_Tag) h v3 v620.1 (fun h =>
  quietK Try.prog .agg (Instr.loadAt T.api_Tag (.pointer v3)) (fun (r621 : Array Value) =>
  R (.tuple #[.agg r621, .int .i64 v620.2]) h) h)) h) h))))))) h) ∧
  (newSlK h 1 #[(.int .u8 (IntKind.u8.wrap player2))] T.uint8 (fun (v622 : Sl) h =>
  ((callK Try.prog .bool F.commit_bit #[.int .i64 side3] (fun (v623 : Bool) h =>
  stillAggK (sizeOfT Try.prog T.api_Tag) h nonce_2 v5 ∧
  opK Try.prog .slice (convert T.sl_uint8 T.sl_uint8 (.slice v475.a v475.n v475.c)) (fun (v624 : Sl) h =>
  newSlK h 4 #[.slice v624.a v624.n v624.c, .slice v4.a v4.n v4.c, .slice v622.a v622.n v622.c, .slice v595.a v595.n v595.c] T.sl_uint8 (fun (v625 : Sl) h =>
  callK Try.prog (Kd.pair .agg (.int .i64)) F.commit_some #[.pointer m0, .bool v623, .agg v5, .slice v625.a v625.n v625.c] (fun (v626 : Array Value × Int) h =>
  storeAggK (sizeOfT Try.prog T.api_Tag) h v3 v626.1 (fun h =>
  quietK Try.prog .agg (Instr.loadAt T.api_Tag (.pointer v3)) (fun (r627 : Array Value) =>
  R (.tuple #[.agg r627, .int .i64 v626.2]) h) h)) h)) h) h) ∧
  (opK Try.prog .slice (convert T.sl_uint8 T.sl_uint8 (.slice v475.a v475.n v475.c)) (fun (v628 : Sl) h =>
  ((callK Try.prog .bool F.commit_bit #[.int .i64 side3] (fun (v629 : Bool) h =>
  stillAggK (sizeOfT Try.prog T.api_Tag) h nonce_2 v5 ∧
  newSlK h 4 #[.slice v628.a v628.n v628.c, .slice v4.a v4.n v4.c, .slice v622.a v622.n v622.c, .slice v595.a v595.n v595.c] T.sl_uint8 (fun (v630 : Sl) h =>
  callK Try.prog (Kd.pair .agg (.int .i64)) F.commit_some #[.pointer m0, .bool v629, .agg v5, .slice v630.a v630.n v630.c] (fun (v631 : Array Value × Int) h =>
  storeAggK (sizeOfT Try.prog T.api_Tag) h v3 v631.1 (fun h =>
  quietK Try.prog .agg (Instr.loadAt T.api_Tag (.pointer v3)) (fun (r632 : Array Value) =>
  R (.tuple #[.agg r632, .int .i64 v631.2]) h) h)) h)) h) ∧
  (newSlK h 4 #[.slice v628.a v628.n v628.c, .slice v4.a v4.n v4.c, .slice v622.a v622.n v622.c, .slice v595.a v595.n v595.c] T.sl_uint8 (fun (v633 : Sl) h =>
  callK Try.prog .bool F.commit_bit #[.int .i64 side3] (fun (v634 : Bool) h =>
  stillAggK (sizeOfT Try.prog T.api_Tag) h nonce_2 v5 ∧
  callK Try.prog (Kd.pair .agg (.int .i64)) F.commit_some #[.pointer m0, .bool v634, .agg v5, .slice v633.a v633.n v633.c] (fun (v635 : Array Value × Int) h =>
  storeAggK (sizeOfT Try.prog T.api_Tag) h v3 v635.1 (fun h =>
  quietK Try.prog .agg (Instr.loadAt T.api_Tag (.pointer v3)) (fun (r636 : Array Value) =>
  R (.tuple #[.agg r636, .int .i64 v635.2]) h) h)) h) h)))) h))))))))))))))
  else
  ((opK Try.prog .slice (convert T.sl_uint8 T.sl_uint8 (.slice v475.a v475.n v475.c)) (fun (v637 : Sl) h =>
  ((newSlK h 1 #[(.int .u8 (IntKind.u8.wrap player2))] T.uint8 (fun (v638 : Sl) h =>
  newSlK h 1 #[(.int .u8 (IntKind.u8.wrap side3))] T.uint8 (fun (v639 : Sl) h =>
  newSlK h 4 #[.slice v637.a v637.n v637.c, .slice v4.a v4.n v4.c, .slice v638.a v638.n v638.c, .slice v639.a v639.n v639.c] T.sl_uint8 (fun (v640 : Sl) h =>
  callK Try.prog (Kd.pair .agg (.int .i64)) F.commit_some #[.pointer m0, .bool false, .agg v5, .slice v640.a v640.n v640.c] (fun (v641 : Array Value × Int) h =>
  storeAggK (sizeOfT Try.prog T.api_Tag) h v3 v641.1 (fun h =>
  quietK Try.prog .agg (Instr.loadAt T.api_Tag (.pointer v3)) (fun (r642 : Array Value) =>
  R (.tuple #[.agg r642, .int .i64 v641.2]) h) h)) h)))) ∧
  (newSlK h 1 #[(.int .u8 (IntKind.u8.wrap side3))] T.uint8 (fun (v643 : Sl) h =>
  newSlK h 1 #[(.int .u8 (IntKind.u8.wrap player2))] T.uint8 (fun (v644 : Sl) h =>
  newSlK h 4 #[.slice v637.a v637.n v637.c, .slice v4.a v4.n v4.c, .slice v644.a v644.n v644.c, .slice v643.a v643.n v643.c] T.sl_uint8 (fun (v645 : Sl) h =>
  callK Try.prog (Kd.pair .agg (.int .i64)) F.commit_some #[.pointer m0, .bool false, .agg v5, .slice v645.a v645.n v645.c] (fun (v646 : Array Value × Int) h =>
  storeAggK (sizeOfT Try.prog T.api_Tag) h v3 v646.1 (fun h =>
  quietK Try.prog .agg (Instr.loadAt T.api_Tag (.pointer v3)) (fun (r647 : Array Value) =>
  R (.tuple #[.agg r647, .int .i64 v646.2]) h) h)) h)))))) h) ∧
  (((newSlK h 1 #[(.int .u8 (IntKind.u8.wrap player2))] T.uint8 (fun (v648 : Sl) h =>
  ((opK Try.prog .slice (convert T.sl_uint8 T.sl_uint8 (.slice v475.a v475.n v475.c)) (fun (v649 : Sl) h =>
  newSlK h 1 #[(.int .u8 (IntKind.u8.wrap side3))] T.uint8 (fun (v650 : Sl) h =>
  newSlK h 4 #[.slice v649.a v649.n v649.c, .slice v4.a v4.n v4.c, .slice v648.a v648.n v648.c, .slice v650.a v650.n v650.c] T.sl_uint8 (fun (v651 : Sl) h =>
  callK Try.prog (Kd.pair .agg (.int .i64)) F.commit_some #[.pointer m0, .bool false, .agg v5, .slice v651.a v651.n v651.c] (fun (v652 : Array Value × Int) h =>
  storeAggK (sizeOfT Try.prog T.api_Tag) h v3 v652.1 (fun h =>
  quietK Try.prog .agg (Instr.loadAt T.api_Tag (.pointer v3)) (fun (r653 : Array Value) =>
  R (.tuple #[.agg r653, .int .i64 v652.2]) h) h)) h))) h) ∧
  (newSlK h 1 #[(.int .u8 (IntKind.u8.wrap side3))] T.uint8 (fun (v654 : Sl) h =>
  opK Try.prog .slice (convert T.sl_uint8 T.sl_uint8 (.slice v475.a v475.n v475.c)) (fun (v655 : Sl) h =>
  newSlK h 4 #[.slice v655.a v655.n v655.c, .slice v4.a v4.n v4.c, .slice v648.a v648.n v648.c, .slice v654.a v654.n v654.c] T.sl_uint8 (fun (v656 : Sl) h =>
  callK Try.prog (Kd.pair .agg (.int .i64)) F.commit_some #[.pointer m0, .bool false, .agg v5, .slice v656.a v656.n v656.c] (fun (v657 : Array Value × Int) h =>
  storeAggK (sizeOfT Try.prog T.api_Tag) h v3 v657.1 (fun h =>
  quietK Try.prog .agg (Instr.loadAt T.api_Tag (.pointer v3)) (fun (r658 : Array Value) =>
  R (.tuple #[.agg r658, .int .i64 v657.2]) h) h)) h)) h))))) ∧
  (newSlK h 1 #[(.int .u8 (IntKind.u8.wrap side3))] T.uint8 (fun (v659 : Sl) h =>
  ((opK Try.prog .slice (convert T.sl_uint8 T.sl_uint8 (.slice v475.a v475.n v475.c)) (fun (v660 : Sl) h =>
  newSlK h 1 #[(.int .u8 (IntKind.u8.wrap player2))] T.uint8 (fun (v661 : Sl) h =>
  newSlK h 4 #[.slice v660.a v660.n v660.c, .slice v4.a v4.n v4.c, .slice v661.a v661.n v661.c, .slice v659.a v659.n v659.c] T.sl_uint8 (fun (v662 : Sl) h =>
  callK Try.prog (Kd.pair .agg (.int .i64)) F.commit_some #[.pointer m0, .bool false, .agg v5, .slice v662.a v662.n v662.c] (fun (v663 : Array Value × Int) h =>
  storeAggK (sizeOfT Try.prog T.api_Tag) h v3 v663.1 (fun h =>
  quietK Try.prog .agg (Instr.loadAt T.api_Tag (.pointer v3)) (fun (r664 : Array Value) =>
  R (.tuple #[.agg r664, .int .i64 v663.2]) h) h)) h))) h) ∧
  (newSlK h 1 #[(.int .u8 (IntKind.u8.wrap player2))] T.uint8 (fun (v665 : Sl) h =>
  opK Try.prog .slice (convert T.sl_uint8 T.sl_uint8 (.slice v475.a v475.n v475.c)) (fun (v666 : Sl) h =>
  newSlK h 4 #[.slice v666.a v666.n v666.c, .slice v4.a v4.n v4.c, .slice v665.a v665.n v665.c, .slice v659.a v659.n v659.c] T.sl_uint8 (fun (v667 : Sl) h =>
  callK Try.prog (Kd.pair .agg (.int .i64)) F.commit_some #[.pointer m0, .bool false, .agg v5, .slice v667.a v667.n v667.c] (fun (v668 : Array Value × Int) h =>
  storeAggK (sizeOfT Try.prog T.api_Tag) h v3 v668.1 (fun h =>
  quietK Try.prog .agg (Instr.loadAt T.api_Tag (.pointer v3)) (fun (r669 : Array Value) =>
  R (.tuple #[.agg r669, .int .i64 v668.2]) h) h)) h)) h))))))))) h) ∧
  (((opK Try.prog .slice (convert T.sl_uint8 T.sl_uint8 (.slice v475.a v475.n v475.c)) (fun (v670 : Sl) h =>
  ((callK Try.prog .bool F.commit_bit #[.int .i64 player2] (fun (v671 : Bool) h =>
  stillAggK (sizeOfT Try.prog T.api_Tag) h nonce_2 v5 ∧
  if v671 = true then
  ((callK Try.prog .bool F.commit_bit #[.int .i64 side3] (fun (v672 : Bool) h =>
  stillAggK (sizeOfT Try.prog T.api_Tag) h nonce_2 v5 ∧
  ((newSlK h 1 #[(.int .u8 (IntKind.u8.wrap player2))] T.uint8 (fun (v673 : Sl) h =>
  newSlK h 1 #[(.int .u8 (IntKind.u8.wrap side3))] T.uint8 (fun (v674 : Sl) h =>
  newSlK h 4 #[.slice v670.a v670.n v670.c, .slice v4.a v4.n v4.c, .slice v673.a v673.n v673.c, .slice v674.a v674.n v674.c] T.sl_uint8 (fun (v675 : Sl) h =>
  callK Try.prog (Kd.pair .agg (.int .i64)) F.commit_some #[.pointer m0, .bool v672, .agg v5, .slice v675.a v675.n v675.c] (fun (v676 : Array Value × Int) h =>
  storeAggK (sizeOfT Try.prog T.api_Tag) h v3 v676.1 (fun h =>
  quietK Try.prog .agg (Instr.loadAt T.api_Tag (.pointer v3)) (fun (r677 : Array Value) =>
  R (.tuple #[.agg r677, .int .i64 v676.2]) h) h)) h)))) ∧
  (newSlK h 1 #[(.int .u8 (IntKind.u8.wrap side3))] T.uint8 (fun (v678 : Sl) h =>
  newSlK h 1 #[(.int .u8 (IntKind.u8.wrap player2))] T.uint8 (fun (v679 : Sl) h =>
  newSlK h 4 #[.slice v670.a v670.n v670.c, .slice v4.a v4.n v4.c, .slice v679.a v679.n v679.c, .slice v678.a v678.n v678.c] T.sl_uint8 (fun (v680 : Sl) h =>
  callK Try.prog (Kd.pair .agg (.int .i64)) F.commit_some #[.pointer m0, .bool v672, .agg v5, .slice v680.a v680.n v680.c] (fun (v681 : Array Value × Int) h =>
  storeAggK (sizeOfT Try.prog T.api_Tag) h v3 v681.1 (fun h =>
  quietK Try.prog .agg (Instr.loadAt T.api_Tag (.pointer v3)) (fun (r682 : Array Value) =>
  R (.tuple #[.agg r682, .int .i64 v681.2]) h) h)) h)))))) h) ∧
  (((newSlK h 1 #[(.int .u8 (IntKind.u8.wrap player2))] T.uint8 (fun (v683 : Sl) h =>
  ((callK Try.prog .bool F.commit_bit #[.int .i64 side3] (fun (v684 : Bool) h =>
  stillAggK (sizeOfT Try.prog T.api_Tag) h nonce_2 v5 ∧
  newSlK h 1 #[(.int .u8 (IntKind.u8.wrap side3))] T.uint8 (fun (v685 : Sl) h =>
  newSlK h 4 #[.slice v670.a v670.n v670.c, .slice v4.a v4.n v4.c, .slice v683.a v683.n v683.c, .slice v685.a v685.n v685.c] T.sl_uint8 (fun (v686 : Sl) h =>
  callK Try.prog (Kd.pair .agg (.int .i64)) F.commit_some #[.pointer m0, .bool v684, .agg v5, .slice v686.a v686.n v686.c] (fun (v687 : Array Value × Int) h =>
  storeAggK (sizeOfT Try.prog T.api_Tag) h v3 v687.1 (fun h =>
  quietK Try.prog .agg (Instr.loadAt T.api_Tag (.pointer v3)) (fun (r688 : Array Value) =>
  R (.tuple #[.agg r688, .int .i64 v687.2]) h) h)) h))) h) ∧
  (newSlK h 1 #[(.int .u8 (IntKind.u8.wrap side3))] T.uint8 (fun (v689 : Sl) h =>
  ((callK Try.prog .bool F.commit_bit #[.int .i64 side3] (fun (v690 : Bool) h =>
  stillAggK (sizeOfT Try.prog T.api_Tag) h nonce_2 v5 ∧
  newSlK h 4 #[.slice v670.a v670.n v670.c, .slice v4.a v4.n v4.c, .slice v683.a v683.n v683.c, .slice v689.a v689.n v689.c] T.sl_uint8 (fun (v691 : Sl) h =>
  callK Try.prog (Kd.pair .agg (.int .i64)) F.commit_some #[.pointer m0, .bool v690, .agg v5, .slice v691.a v691.n v691.c] (fun (v692 : Array Value × Int) h =>
  storeAggK (sizeOfT Try.prog T.api_Tag) h v3 v692.1 (fun h =>
  quietK Try.prog .agg (Instr.loadAt T.api_Tag (.pointer v3)) (fun (r693 : Array Value) =>
  R (.tuple #[.agg r693, .int .i64 v692.2]) h) h)) h)) h) ∧
  (newSlK h 4 #[.slice v670.a v670.n v670.c, .slice v4.a v4.n v4.c, .slice v683.a v683.n v683.c, .slice v689.a v689.n v689.c] T.sl_uint8 (fun (v694 : Sl) h =>
  callK Try.prog .bool F.commit_bit #[.int .i64 side3] (fun (v695 : Bool) h =>
  stillAggK (sizeOfT Try.prog T.api_Tag) h nonce_2 v5 ∧
  callK Try.prog (Kd.pair .agg (.int .i64)) F.commit_some #[.pointer m0, .bool v695, .agg v5, .slice v694.a v694.n v694.c] (fun (v696 : Array Value × Int) h =>
  storeAggK (sizeOfT Try.prog T.api_Tag) h v3 v696.1 (fun h =>
  quietK Try.prog .agg (Instr.loadAt T.api_Tag (.pointer v3)) (fun (r697 : Array Value) =>
  R (.tuple #[.agg r697, .int .i64 v696.2]) h) h)) h) h)))))))) ∧
  (newSlK h 1 #[(.int .u8 (IntKind.u8.wrap side3))] T.uint8 (fun (v698 : Sl) h =>
  ((callK Try.prog .bool F.commit_bit #[.int .i64 side3] (fun (v699 : Bool) h =>
  stillAggK (sizeOfT Try.prog T.api_Tag) h nonce_2 v5 ∧
  newSlK h 1 #[(.int .u8 (IntKind.u8.wrap player2))] T.uint8 (fun (v700 : Sl) h =>
  newSlK h 4 #[.slice v670.a v670.n v670.c, .slice v4.a v4.n v4.c, .slice v700.a v700.n v700.c, .slice v698.a v698.n v698.c] T.sl_uint8 (fun (v701 : Sl) h =>
  callK Try.prog (Kd.pair .agg (.int .i64)) F.commit_some #[.pointer m0, .bool v699, .agg v5, .slice v701.a v701.n v701.c] (fun (v702 : Array Value × Int) h =>
  storeAggK (sizeOfT Try.prog T.api_Tag) h v3 v702.1 (fun h =>
  quietK Try.prog .agg (Instr.loadAt T.api_Tag (.pointer v3)) (fun (r703 : Array Value) =>
  R (.tuple #[.agg r703, .int .i64 v702.2]) h) h)) h))) h) ∧
  (newSlK h 1 #[(.int .u8 (IntKind.u8.wrap player2))] T.uint8 (fun (v704 : Sl) h =>
  ((callK Try.prog .bool F.commit_bit #[.int .i64 side3] (fun (v705 : Bool) h =>
  stillAggK (sizeOfT Try.prog T.api_Tag) h nonce_2 v5 ∧
  newSlK h 4 #[.slice v670.a v670.n v670.c, .slice v4.a v4.n v4.c, .slice v704.a v704.n v704.c, .slice v698.a v698.n v698.c] T.sl_uint8 (fun (v706 : Sl) h =>
  callK Try.prog (Kd.pair .agg (.int .i64)) F.commit_some #[.pointer m0, .bool v705, .agg v5, .slice v706.a v706.n v706.c] (fun (v707 : Array Value × Int) h =>
  storeAggK (sizeOfT Try.prog T.api_Tag) h v3 v707.1 (fun h =>
  quietK Try.prog .agg (Instr.loadAt T.api_Tag (.pointer v3)) (fun (r708 : Array Value) =>
  R (.tuple #[.agg r708, .int .i64 v707.2]) h) h)) h)) h) ∧
  (newSlK h 4 #[.slice v670.a v670.n v670.c, .slice v4.a v4.n v4.c, .slice v704.a v704.n v704.c, .slice v698.a v698.n v698.c] T.sl_uint8 (fun (v709 : Sl) h =>
  callK Try.prog .bool F.commit_bit #[.int .i64 side3] (fun (v710 : Bool) h =>
  stillAggK (sizeOfT Try.prog T.api_Tag) h nonce_2 v5 ∧
  callK Try.prog (Kd.pair .agg (.int .i64)) F.commit_some #[.pointer m0, .bool v710, .agg v5, .slice v709.a v709.n v709.c] (fun (v711 : Array Value × Int) h =>
  storeAggK (sizeOfT Try.prog T.api_Tag) h v3 v711.1 (fun h =>
  quietK Try.prog .agg (Instr.loadAt T.api_Tag (.pointer v3)) (fun (r712 : Array Value) =>
  R (.tuple #[.agg r712, .int .i64 v711.2]) h) h)) h) h)))))))))))
  else
  ((newSlK h 1 #[(.int .u8 (IntKind.u8.wrap player2))] T.uint8 (fun (v713 : Sl) h =>
  newSlK h 1 #[(.int .u8 (IntKind.u8.wrap side3))] T.uint8 (fun (v714 : Sl) h =>
  newSlK h 4 #[.slice v670.a v670.n v670.c, .slice v4.a v4.n v4.c, .slice v713.a v713.n v713.c, .slice v714.a v714.n v714.c] T.sl_uint8 (fun (v715 : Sl) h =>
  callK Try.prog (Kd.pair .agg (.int .i64)) F.commit_some #[.pointer m0, .bool false, .agg v5, .slice v715.a v715.n v715.c] (fun (v716 : Array Value × Int) h =>
  storeAggK (sizeOfT Try.prog T.api_Tag) h v3 v716.1 (fun h =>
  quietK Try.prog .agg (Instr.loadAt T.api_Tag (.pointer v3)) (fun (r717 : Array Value) =>
  R (.tuple #[.agg r717, .int .i64 v716.2]) h) h)) h)))) ∧
  (newSlK h 1 #[(.int .u8 (IntKind.u8.wrap side3))] T.uint8 (fun (v718 : Sl) h =>
  newSlK h 1 #[(.int .u8 (IntKind.u8.wrap player2))] T.uint8 (fun (v719 : Sl) h =>
  newSlK h 4 #[.slice v670.a v670.n v670.c, .slice v4.a v4.n v4.c, .slice v719.a v719.n v719.c, .slice v718.a v718.n v718.c] T.sl_uint8 (fun (v720 : Sl) h =>
  callK Try.prog (Kd.pair .agg (.int .i64)) F.commit_some #[.pointer m0, .bool false, .agg v5, .slice v720.a v720.n v720.c] (fun (v721 : Array Value × Int) h =>
  storeAggK (sizeOfT Try.prog T.api_Tag) h v3 v721.1 (fun h =>
  quietK Try.prog .agg (Instr.loadAt T.api_Tag (.pointer v3)) (fun (r722 : Array Value) =>
  R (.tuple #[.agg r722, .int .i64 v721.2]) h) h)) h)))))) h) ∧
  (((newSlK h 1 #[(.int .u8 (IntKind.u8.wrap player2))] T.uint8 (fun (v723 : Sl) h =>
  ((callK Try.prog .bool F.commit_bit #[.int .i64 player2] (fun (v724 : Bool) h =>
  stillAggK (sizeOfT Try.prog T.api_Tag) h nonce_2 v5 ∧
  if v724 = true then
  ((callK Try.prog .bool F.commit_bit #[.int .i64 side3] (fun (v725 : Bool) h =>
  stillAggK (sizeOfT Try.prog T.api_Tag) h nonce_2 v5 ∧
  newSlK h 1 #[(.int .u8 (IntKind.u8.wrap side3))] T.uint8 (fun (v726 : Sl) h =>
  newSlK h 4 #[.slice v670.a v670.n v670.c, .slice v4.a v4.n v4.c, .slice v723.a v723.n v723.c, .slice v726.a v726.n v726.c] T.sl_uint8 (fun (v727 : Sl) h =>
  callK Try.prog (Kd.pair .agg (.int .i64)) F.commit_some #[.pointer m0, .bool v725, .agg v5, .slice v727.a v727.n v727.c] (fun (v728 : Array Value × Int) h =>
  storeAggK (sizeOfT Try.prog T.api_Tag) h v3 v728.1 (fun h =>
  quietK Try.prog .agg (Instr.loadAt T.api_Tag (.pointer v3)) (fun (r729 : Array Value) =>
  R (.tuple #[.agg r729, .int .i64 v728.2]) h) h)) h))) h) ∧
  (newSlK h 1 #[(.int .u8 (IntKind.u8.wrap side3))] T.uint8 (fun (v730 : Sl) h =>
  ((callK Try.prog .bool F.commit_bit #[.int .i64 side3] (fun (v731 : Bool) h =>
  stillAggK (sizeOfT Try.prog T.api_Tag) h nonce_2 v5 ∧
  newSlK h 4 #[.slice v670.a v670.n v670.c, .slice v4.a v4.n v4.c, .slice v723.a v723.n v723.c, .slice v730.a v730.n v730.c] T.sl_uint8 (fun (v732 : Sl) h =>
  callK Try.prog (Kd.pair .agg (.int .i64)) F.commit_some #[.pointer m0, .bool v731, .agg v5, .slice v732.a v732.n v732.c] (fun (v733 : Array Value × Int) h =>
  storeAggK (sizeOfT Try.prog T.api_Tag) h v3 v733.1 (fun h =>
  quietK Try.prog .agg (Instr.loadAt T.api_Tag (.pointer v3)) (fun (r734 : Array Value) =>
  R (.tuple #[.agg r734, .int .i64 v733.2]) h) h)) h)) h) ∧
  (newSlK h 4 #[.slice v670.a v670.n v670.c, .slice v4.a v4.n v4.c, .slice v723.a v723.n v723.c, .slice v730.a v730.n v730.c] T.sl_uint8 (fun (v735 : Sl) h =>
  callK Try.prog .bool F.commit_bit #[.int .i64 side3] (fun (v736 : Bool) h =>
  stillAggK (sizeOfT Try.prog T.api_Tag) h nonce_2 v5 ∧
  callK Try.prog (Kd.pair .agg (.int .i64)) F.commit_some #[.pointer m0, .bool v736, .agg v5, .slice v735.a v735.n v735.c] (fun (v737 : Array Value × Int) h =>
  storeAggK (sizeOfT Try.prog T.api_Tag) h v3 v737.1 (fun h =>
  quietK Try.prog .agg (Instr.loadAt T.api_Tag (.pointer v3)) (fun (r738 : Array Value) =>
  R (.tuple #[.agg r738, .int .i64 v737.2]) h) h)) h) h))))))
  else
  newSlK h 1 #[(.int .u8 (IntKind.u8.wrap side3))] T.uint8 (fun (v739 : Sl) h =>
  newSlK h 4 #[.slice v670.a v670.n v670.c, .slice v4.a v4.n v4.c, .slice v723.a v723.n v723.c, .slice v739.a v739.n v739.c] T.sl_uint8 (fun (v740 : Sl) h =>
  callK Try.prog (Kd.pair .agg (.int .i64)) F.commit_some #[.pointer m0, .bool false, .agg v5, .slice v740.a v740.n v740.c] (fun (v741 : Array Value × Int) h =>
  storeAggK (sizeOfT Try.prog T.api_Tag) h v3 v741.1 (fun h =>
  quietK Try.prog .agg (Instr.loadAt T.api_Tag (.pointer v3)) (fun (r742 : Array Value) =>
  R (.tuple #[.agg r742, .int .i64 v741.2]) h) h)) h))) h) ∧
  (newSlK h 1 #[(.int .u8 (IntKind.u8.wrap side3))] T.uint8 (fun (v743 : Sl) h =>
  ((callK Try.prog .bool F.commit_bit #[.int .i64 player2] (fun (v744 : Bool) h =>
  stillAggK (sizeOfT Try.prog T.api_Tag) h nonce_2 v5 ∧
  if v744 = true then
  ((callK Try.prog .bool F.commit_bit #[.int .i64 side3] (fun (v745 : Bool) h =>
  stillAggK (sizeOfT Try.prog T.api_Tag) h nonce_2 v5 ∧
  newSlK h 4 #[.slice v670.a v670.n v670.c, .slice v4.a v4.n v4.c, .slice v723.a v723.n v723.c, .slice v743.a v743.n v743.c] T.sl_uint8 (fun (v746 : Sl) h =>
  callK Try.prog (Kd.pair .agg (.int .i64)) F.commit_some #[.pointer m0, .bool v745, .agg v5, .slice v746.a v746.n v746.c] (fun (v747 : Array Value × Int) h =>
  storeAggK (sizeOfT Try.prog T.api_Tag) h v3 v747.1 (fun h =>
  quietK Try.prog .agg (Instr.loadAt T.api_Tag (.pointer v3)) (fun (r748 : Array Value) =>
  R (.tuple #[.agg r748, .int .i64 v747.2]) h) h)) h)) h) ∧
  (newSlK h 4 #[.slice v670.a v670.n v670.c, .slice v4.a v4.n v4.c, .slice v723.a v723.n v723.c, .slice v743.a v743.n v743.c] T.sl_uint8 (fun (v749 : Sl) h =>
  callK Try.prog .bool F.commit_bit #[.int .i64 side3] (fun (v750 : Bool) h =>
  stillAggK (sizeOfT Try.prog T.api_Tag) h nonce_2 v5 ∧
  callK Try.prog (Kd.pair .agg (.int .i64)) F.commit_some #[.pointer m0, .bool v750, .agg v5, .slice v749.a v749.n v749.c] (fun (v751 : Array Value × Int) h =>
  storeAggK (sizeOfT Try.prog T.api_Tag) h v3 v751.1 (fun h =>
  quietK Try.prog .agg (Instr.loadAt T.api_Tag (.pointer v3)) (fun (r752 : Array Value) =>
  R (.tuple #[.agg r752, .int .i64 v751.2]) h) h)) h) h)))
  else
  newSlK h 4 #[.slice v670.a v670.n v670.c, .slice v4.a v4.n v4.c, .slice v723.a v723.n v723.c, .slice v743.a v743.n v743.c] T.sl_uint8 (fun (v753 : Sl) h =>
  callK Try.prog (Kd.pair .agg (.int .i64)) F.commit_some #[.pointer m0, .bool false, .agg v5, .slice v753.a v753.n v753.c] (fun (v754 : Array Value × Int) h =>
  storeAggK (sizeOfT Try.prog T.api_Tag) h v3 v754.1 (fun h =>
  quietK Try.prog .agg (Instr.loadAt T.api_Tag (.pointer v3)) (fun (r755 : Array Value) =>
  R (.tuple #[.agg r755, .int .i64 v754.2]) h) h)) h)) h) ∧
  (newSlK h 4 #[.slice v670.a v670.n v670.c, .slice v4.a v4.n v4.c, .slice v723.a v723.n v723.c, .slice v743.a v743.n v743.c] T.sl_uint8 (fun (v756 : Sl) h =>
  callK Try.prog .bool F.commit_bit #[.int .i64 player2] (fun (v757 : Bool) h =>
  stillAggK (sizeOfT Try.prog T.api_Tag) h nonce_2 v5 ∧
  if v757 = true then
  callK Try.prog .bool F.commit_bit #[.int .i64 side3] (fun (v758 : Bool) h =>
  stillAggK (sizeOfT Try.prog T.api_Tag) h nonce_2 v5 ∧
  callK Try.prog (Kd.pair .agg (.int .i64)) F.commit_some #[.pointer m0, .bool v758, .agg v5, .slice v756.a v756.n v756.c] (fun (v759 : Array Value × Int) h =>
  storeAggK (sizeOfT Try.prog T.api_Tag) h v3 v759.1 (fun h =>
  quietK Try.prog .agg (Instr.loadAt T.api_Tag (.pointer v3)) (fun (r760 : Array Value) =>
  R (.tuple #[.agg r760, .int .i64 v759.2]) h) h)) h) h
  else
  callK Try.prog (Kd.pair .agg (.int .i64)) F.commit_some #[.pointer m0, .bool false, .agg v5, .slice v756.a v756.n v756.c] (fun (v761 : Array Value × Int) h =>
  storeAggK (sizeOfT Try.prog T.api_Tag) h v3 v761.1 (fun h =>
  quietK Try.prog .agg (Instr.loadAt T.api_Tag (.pointer v3)) (fun (r762 : Array Value) =>
  R (.tuple #[.agg r762, .int .i64 v761.2]) h) h)) h) h)))))))) ∧
  (newSlK h 1 #[(.int .u8 (IntKind.u8.wrap side3))] T.uint8 (fun (v763 : Sl) h =>
  ((callK Try.prog .bool F.commit_bit #[.int .i64 player2] (fun (v764 : Bool) h =>
  stillAggK (sizeOfT Try.prog T.api_Tag) h nonce_2 v5 ∧
  if v764 = true then
  ((callK Try.prog .bool F.commit_bit #[.int .i64 side3] (fun (v765 : Bool) h =>
  stillAggK (sizeOfT Try.prog T.api_Tag) h nonce_2 v5 ∧
  newSlK h 1 #[(.int .u8 (IntKind.u8.wrap player2))] T.uint8 (fun (v766 : Sl) h =>
  newSlK h 4 #[.slice v670.a v670.n v670.c, .slice v4.a v4.n v4.c, .slice v766.a v766.n v766.c, .slice v763.a v763.n v763.c] T.sl_uint8 (fun (v767 : Sl) h =>
  callK Try.prog (Kd.pair .agg (.int .i64)) F.commit_some #[.pointer m0, .bool v765, .agg v5, .slice v767.a v767.n v767.c] (fun (v768 : Array Value × Int) h =>
  storeAggK (sizeOfT Try.prog T.api_Tag) h v3 v768.1 (fun h =>
  quietK Try.prog .agg (Instr.loadAt T.api_Tag (.pointer v3)) (fun (r769 : Array Value) =>
  R (.tuple #[.agg r769, .int .i64 v768.2]) h) h)) h))) h) ∧
  (newSlK h 1 #[(.int .u8 (IntKind.u8.wrap player2))] T.uint8 (fun (v770 : Sl) h =>
  ((callK Try.prog .bool F.commit_bit #[.int .i64 side3] (fun (v771 : Bool) h =>
  stillAggK (sizeOfT Try.prog T.api_Tag) h nonce_2 v5 ∧
  newSlK h 4 #[.slice v670.a v670.n v670.c, .slice v4.a v4.n v4.c, .slice v770.a v770.n v770.c, .slice v763.a v763.n v763.c] T.sl_uint8 (fun (v772 : Sl) h =>
  callK Try.prog (Kd.pair .agg (.int .i64)) F.commit_some #[.pointer m0, .bool v771, .agg v5, .slice v772.a v772.n v772.c] (fun (v773 : Array Value × Int) h =>
  storeAggK (sizeOfT Try.prog T.api_Tag) h v3 v773.1 (fun h =>
  quietK Try.prog .agg (Instr.loadAt T.api_Tag (.pointer v3)) (fun (r774 : Array Value) =>
  R (.tuple #[.agg r774, .int .i64 v773.2]) h) h)) h)) h) ∧
  (newSlK h 4 #[.slice v670.a v670.n v670.c, .slice v4.a v4.n v4.c, .slice v770.a v770.n v770.c, .slice v763.a v763.n v763.c] T.sl_uint8 (fun (v775 : Sl) h =>
  callK Try.prog .bool F.commit_bit #[.int .i64 side3] (fun (v776 : Bool) h =>
  stillAggK (sizeOfT Try.prog T.api_Tag) h nonce_2 v5 ∧
  callK Try.prog (Kd.pair .agg (.int .i64)) F.commit_some #[.pointer m0, .bool v776, .agg v5, .slice v775.a v775.n v775.c] (fun (v777 : Array Value × Int) h =>
  storeAggK (sizeOfT Try.prog T.api_Tag) h v3 v777.1 (fun h =>
  quietK Try.prog .agg (Instr.loadAt T.api_Tag (.pointer v3)) (fun (r778 : Array Value) =>
  R (.tuple #[.agg r778, .int .i64 v777.2]) h) h)) h) h))))))
  else
  newSlK h 1 #[(.int .u8 (IntKind.u8.wrap player2))] T.uint8 (fun (v779 : Sl) h =>
  newSlK h 4 #[.slice v670.a v670.n v670.c, .slice v4.a v4.n v4.c, .slice v779.a v779.n v779.c, .slice v763.a v763.n v763.c] T.sl_uint8 (fun (v780 : Sl) h =>
  callK Try.prog (Kd.pair .agg (.int .i64)) F.commit_some #[.pointer m0, .bool false, .agg v5, .slice v780.a v780.n v780.c] (fun (v781 : Array Value × Int) h =>
  storeAggK (sizeOfT Try.prog T.api_Tag) h v3 v781.1 (fun h =>
  quietK Try.prog .agg (Instr.loadAt T.api_Tag (.pointer v3)) (fun (r782 : Array Value) =>
  R (.tuple #[.agg r782, .int .i64 v781.2]) h) h)) h))) h) ∧
  (newSlK h 1 #[(.int .u8 (IntKind.u8.wrap player2))] T.uint8 (fun (v783 : Sl) h =>
  ((callK Try.prog .bool F.commit_bit #[.int .i64 player2] (fun (v784 : Bool) h =>
  stillAggK (sizeOfT Try.prog T.api_Tag) h nonce_2 v5 ∧
  if v784 = true then
  ((callK Try.prog .bool F.commit_bit #[.int .i64 side3] (fun (v785 : Bool) h =>
  stillAggK (sizeOfT Try.prog T.api_Tag) h nonce_2 v5 ∧
  newSlK h 4 #[.slice v670.a v670.n v670.c, .slice v4.a v4.n v4.c, .slice v783.a v783.n v783.c, .slice v763.a v763.n v763.c] T.sl_uint8 (fun (v786 : Sl) h =>
  callK Try.prog (Kd.pair .agg (.int .i64)) F.commit_some #[.pointer m0, .bool v785, .agg v5, .slice v786.a v786.n v786.c] (fun (v787 : Array Value × Int) h =>
  storeAggK (sizeOfT Try.prog T.api_Tag) h v3 v787.1 (fun h =>
  quietK Try.prog .agg (Instr.loadAt T.api_Tag (.pointer v3)) (fun (r788 : Array Value) =>
  R (.tuple #[.agg r788, .int .i64 v787.2]) h) h)) h)) h) ∧
  (newSlK h 4 #[.slice v670.a v670.n v670.c, .slice v4.a v4.n v4.c, .slice v783.a v783.n v783.c, .slice v763.a v763.n v763.c] T.sl_uint8 (fun (v789 : Sl) h =>
  callK Try.prog .bool F.commit_bit #[.int .i64 side3] (fun (v790 : Bool) h =>
  stillAggK (sizeOfT Try.prog T.api_Tag) h nonce_2 v5 ∧
  callK Try.prog (Kd.pair .agg (.int .i64)) F.commit_some #[.pointer m0, .bool v790, .agg v5, .slice v789.a v789.n v789.c] (fun (v791 : Array Value × Int) h =>
  storeAggK (sizeOfT Try.prog T.api_Tag) h v3 v791.1 (fun h =>
  quietK Try.prog .agg (Instr.loadAt T.api_Tag (.pointer v3)) (fun (r792 : Array Value) =>
  R (.tuple #[.agg r792, .int .i64 v791.2]) h) h)) h) h)))
  else
  newSlK h 4 #[.slice v670.a v670.n v670.c, .slice v4.a v4.n v4.c, .slice v783.a v783.n v783.c, .slice v763.a v763.n v763.c] T.sl_uint8 (fun (v793 : Sl) h =>
  callK Try.prog (Kd.pair .agg (.int .i64)) F.commit_some #[.pointer m0, .bool false, .agg v5, .slice v793.a v793.n v793.c] (fun (v794 : Array Value × Int) h =>
  storeAggK (sizeOfT Try.prog T.api_Tag) h v3 v794.1 (fun h =>
  quietK Try.prog .agg (Instr.loadAt T.api_Tag (.pointer v3)) (fun (r795 : Array Value) =>
  R (.tuple #[.agg r795, .int .i64 v794.2]) h) h)) h)) h) ∧
  (newSlK h 4 #[.slice v670.a v670.n v670.c, .slice v4.a v4.n v4.c, .slice v783.a v783.n v783.c, .slice v763.a v763.n v763.c] T.sl_uint8 (fun (v796 : Sl) h =>
  callK Try.prog .bool F.commit_bit #[.int .i64 player2] (fun (v797 : Bool) h =>
  stillAggK (sizeOfT Try.prog T.api_Tag) h nonce_2 v5 ∧
  if v797 = true then
  callK Try.prog .bool F.commit_bit #[.int .i64 side3] (fun (v798 : Bool) h =>
  stillAggK (sizeOfT Try.prog T.api_Tag) h nonce_2 v5 ∧
  callK Try.prog (Kd.pair .agg (.int .i64)) F.commit_some #[.pointer m0, .bool v798, .agg v5, .slice v796.a v796.n v796.c] (fun (v799 : Array Value × Int) h =>
  storeAggK (sizeOfT Try.prog T.api_Tag) h v3 v799.1 (fun h =>
  quietK Try.prog .agg (Instr.loadAt T.api_Tag (.pointer v3)) (fun (r800 : Array Value) =>
  R (.tuple #[.agg r800, .int .i64 v799.2]) h) h)) h) h
  else
  callK Try.prog (Kd.pair .agg (.int .i64)) F.commit_some #[.pointer m0, .bool false, .agg v5, .slice v796.a v796.n v796.c] (fun (v801 : Array Value × Int) h =>
  storeAggK (sizeOfT Try.prog T.api_Tag) h v3 v801.1 (fun h =>
  quietK Try.prog .agg (Instr.loadAt T.api_Tag (.pointer v3)) (fun (r802 : Array Value) =>
  R (.tuple #[.agg r802, .int .i64 v801.2]) h) h)) h) h)))))))))))) h) ∧
  (((newSlK h 1 #[(.int .u8 (IntKind.u8.wrap player2))] T.uint8 (fun (v803 : Sl) h =>
  ((callK Try.prog .bool F.commit_bit #[.int .i64 player2] (fun (v804 : Bool) h =>
  stillAggK (sizeOfT Try.prog T.api_Tag) h nonce_2 v5 ∧
  if v804 = true then
  ((callK Try.prog .bool F.commit_bit #[.int .i64 side3] (fun (v805 : Bool) h =>
  stillAggK (sizeOfT Try.prog T.api_Tag) h nonce_2 v5 ∧
  ((opK Try.prog .slice (convert T.sl_uint8 T.sl_uint8 (.slice v475.a v475.n v475.c)) (fun (v806 : Sl) h =>
  newSlK h 1 #[(.int .u8 (IntKind.u8.wrap side3))] T.uint8 (fun (v807 : Sl) h =>
  newSlK h 4 #[.slice v806.a v806.n v806.c, .slice v4.a v4.n v4.c, .slice v803.a v803.n v803.c, .slice v807.a v807.n v807.c] T.sl_uint8 (fun (v808 : Sl) h =>
  callK Try.prog (Kd.pair .agg (.int .i64)) F.commit_some #[.pointer m0, .bool v805, .agg v5, .slice v808.a v808.n v808.c] (fun (v809 : Array Value × Int) h =>
  storeAggK (sizeOfT Try.prog T.api_Tag) h v3 v809.1 (fun h =>
  quietK Try.prog .agg (Instr.loadAt T.api_Tag (.pointer v3)) (fun (r810 : Array Value) =>
  R (.tuple #[.agg r810, .int .i64 v809.2]) h) h)) h))) h) ∧
  (newSlK h 1 #[(.int .u8 (IntKind.u8.wrap side3))] T.uint8 (fun (v811 : Sl) h =>
  opK Try.prog .slice (convert T.sl_uint8 T.sl_uint8 (.slice v475.a v475.n v475.c)) (fun (v812 : Sl) h =>
  newSlK h 4 #[.slice v812.a v812.n v812.c, .slice v4.a v4.n v4.c, .slice v803.a v803.n v803.c, .slice v811.a v811.n v811.c] T.sl_uint8 (fun (v813 : Sl) h =>
  callK Try.prog (Kd.pair .agg (.int .i64)) F.commit_some #[.pointer m0, .bool v805, .agg v5, .slice v813.a v813.n v813.c] (fun (v814 : Array Value × Int) h =>
  storeAggK (sizeOfT Try.prog T.api_Tag) h v3 v814.1 (fun h =>
  quietK Try.prog .agg (Instr.loadAt T.api_Tag (.pointer v3)) (fun (r815 : Array Value) =>
  R (.tuple #[.agg r815, .int .i64 v814.2]) h) h)) h)) h)))) h) ∧
  (((opK Try.prog .slice (convert T.sl_uint8 T.sl_uint8 (.slice v475.a v475.n v475.c)) (fun (v816 : Sl) h =>
  ((callK Try.prog .bool F.commit_bit #[.int .i64 side3] (fun (v817 : Bool) h =>
  stillAggK (sizeOfT Try.prog T.api_Tag) h nonce_2 v5 ∧
  newSlK h 1 #[(.int .u8 (IntKind.u8.wrap side3))] T.uint8 (fun (v818 : Sl) h =>
  newSlK h 4 #[.slice v816.a v816.n v816.c, .slice v4.a v4.n v4.c, .slice v803.a v803.n v803.c, .slice v818.a v818.n v818.c] T.sl_uint8 (fun (v819 : Sl) h =>
  callK Try.prog (Kd.pair .agg (.int .i64)) F.commit_some #[.pointer m0, .bool v817, .agg v5, .slice v819.a v819.n v819.c] (fun (v820 : Array Value × Int) h =>
  storeAggK (sizeOfT Try.prog T.api_Tag) h v3 v820.1 (fun h =>
  quietK Try.prog .agg (Instr.loadAt T.api_Tag (.pointer v3)) (fun (r821 : Array Value) =>
  R (.tuple #[.agg r821, .int .i64 v820.2]) h) h)) h))) h) ∧
  (newSlK h 1 #[(.int .u8 (IntKind.u8.wrap side3))] T.uint8 (fun (v822 : Sl) h =>
  ((callK Try.prog .bool F.commit_bit #[.int .i64 side3] (fun (v823 : Bool) h =>
  stillAggK (sizeOfT Try.prog T.api_Tag) h nonce_2 v5 ∧
  newSlK h 4 #[.slice v816.a v816.n v816.c, .slice v4.a v4.n v4.c, .slice v803.a v803.n v803.c, .slice v822.a v822.n v822.c] T.sl_uint8 (fun (v824 : Sl) h =>
  callK Try.prog (Kd.pair .agg (.int .i64)) F.commit_some #[.pointer m0, .bool v823, .agg v5, .slice v824.a v824.n v824.c] (fun (v825 : Array Value × Int) h =>
  storeAggK (sizeOfT Try.prog T.api_Tag) h v3 v825.1 (fun h =>
  quietK Try.prog .agg (Instr.loadAt T.api_Tag (.pointer v3)) (fun (r826 : Array Value) =>
  R (.tuple #[.agg r826, .int .i64 v825.2]) h) h)) h)) h) ∧
  (newSlK h 4 #[.slice v816.a v816.n v816.c, .slice v4.a v4.n v4.c, .slice v803.a v803.n v803.c, .slice v822.a v822.n v822.c] T.sl_uint8 (fun (v827 : Sl) h =>
  callK Try.prog .bool F.commit_bit #[.int .i64 side3] (fun (v828 : Bool) h =>
  stillAggK (sizeOfT Try.prog T.api_Tag) h nonce_2 v5 ∧
  callK Try.prog (Kd.pair .agg (.int .i64)) F.commit_some #[.pointer m0, .bool v828, .agg v5, .slice v827.a v827.n v827.c] (fun (v829 : Array Value × Int) h =>
  storeAggK (sizeOfT Try.prog T.api_Tag) h v3 v829.1 (fun h =>
  quietK Try.prog .agg (Instr.loadAt T.api_Tag (.pointer v3)) (fun (r830 : Array Value) =>
  R (.tuple #[.agg r830, .int .i64 v829.2]) h) h)) h) h))))))) h) ∧
  (newSlK h 1 #[(.int .u8 (IntKind.u8.wrap side3))] T.uint8 (fun (v831 : Sl) h =>
  ((callK Try.prog .bool F.commit_bit #[.int .i64 side3] (fun (v832 : Bool) h =>
  stillAggK (sizeOfT Try.prog T.api_Tag) h nonce_2 v5 ∧
  opK Try.prog .slice (convert T.sl_uint8 T.sl_uint8 (.slice v475.a v475.n v475.c)) (fun (v833 : Sl) h =>
  newSlK h 4 #[.slice v833.a v833.n v833.c, .slice v4.a v4.n v4.c, .slice v803.a v803.n v803.c, .slice v831.a v831.n v831.c] T.sl_uint8 (fun (v834 : Sl) h =>
  callK Try.prog (Kd.pair .agg (.int .i64)) F.commit_some #[.pointer m0, .bool v832, .agg v5, .slice v834.a v834.n v834.c] (fun (v835 : Array Value × Int) h =>
  storeAggK (sizeOfT Try.prog T.api_Tag) h v3 v835.1 (fun h =>
  quietK Try.prog .agg (Instr.loadAt T.api_Tag (.pointer v3)) (fun (r836 : Array Value) =>
  R (.tuple #[.agg r836, .int .i64 v835.2]) h) h)) h)) h) h) ∧
  (opK Try.prog .slice (convert T.sl_uint8 T.sl_uint8 (.slice v475.a v475.n v475.c)) (fun (v837 : Sl) h =>
  ((callK Try.prog .bool F.commit_bit #[.int .i64 side3] (fun (v838 : Bool) h =>
  stillAggK (sizeOfT Try.prog T.api_Tag) h nonce_2 v5 ∧
  newSlK h 4 #[.slice v837.a v837.n v837.c, .slice v4.a v4.n v4.c, .slice v803.a v803.n v803.c, .slice v831.a v831.n v831.c] T.sl_uint8 (fun (v839 : Sl) h =>
  callK Try.prog (Kd.pair .agg (.int .i64)) F.commit_some #[.pointer m0, .bool v838, .agg v5, .slice v839.a v839.n v839.c] (fun (v840 : Array Value × Int) h =>
  storeAggK (sizeOfT Try.prog T.api_Tag) h v3 v840.1 (fun h =>
  quietK Try.prog .agg (Instr.loadAt T.api_Tag (.pointer v3)) (fun (r841 : Array Value) =>
  R (.tuple #[.agg r841, .int .i64 v840.2]) h) h)) h)) h) ∧
  (newSlK h 4 #[.slice v837.a v837.n v837.c, .slice v4.a v4.n v4.c, .slice v803.a v803.n v803.c, .slice v831.a v831.n v831.c] T.sl_uint8 (fun (v842 : Sl) h =>
  callK Try.prog .bool F.commit_bit #[.int .i64 side3] (fun (v843 : Bool) h =>
  stillAggK (sizeOfT Try.prog T.api_Tag) h nonce_2 v5 ∧
  callK Try.prog (Kd.pair .agg (.int .i64)) F.commit_some #[.pointer m0, .bool v843, .agg v5, .slice v842.a v842.n v842.c] (fun (v844 : Array Value × Int) h =>
  storeAggK (sizeOfT Try.prog T.api_Tag) h v3 v844.1 (fun h =>
  quietK Try.prog .agg (Instr.loadAt T.api_Tag (.pointer v3)) (fun (r845 : Array Value) =>
  R (.tuple #[.agg r845, .int .i64 v844.2]) h) h)) h) h)))) h)))))))
  else
  ((opK Try.prog .slice (convert T.sl_uint8 T.sl_uint8 (.slice v475.a v475.n v475.c)) (fun (v846 : Sl) h =>
  newSlK h 1 #[(.int .u8 (IntKind.u8.wrap side3))] T.uint8 (fun (v847 : Sl) h =>
  newSlK h 4 #[.slice v846.a v846.n v846.c, .slice v4.a v4.n v4.c, .slice v803.a v803.n v803.c, .slice v847.a v847.n v847.c] T.sl_uint8 (fun (v848 : Sl) h =>
  callK Try.prog (Kd.pair .agg (.int .i64)) F.commit_some #[.pointer m0, .bool false, .agg v5, .slice v848.a v848.n v848.c] (fun (v849 : Array Value × Int) h =>
  storeAggK (sizeOfT Try.prog T.api_Tag) h v3 v849.1 (fun h =>
  quietK Try.prog .agg (Instr.loadAt T.api_Tag (.pointer v3)) (fun (r850 : Array Value) =>
  R (.tuple #[.agg r850, .int .i64 v849.2]) h) h)) h))) h) ∧
  (newSlK h 1 #[(.int .u8 (IntKind.u8.wrap side3))] T.uint8 (fun (v851 : Sl) h =>
  opK Try.prog .slice (convert T.sl_uint8 T.sl_uint8 (.slice v475.a v475.n v475.c)) (fun (v852 : Sl) h =>
  newSlK h 4 #[.slice v852.a v852.n v852.c, .slice v4.a v4.n v4.c, .slice v803.a v803.n v803.c, .slice v851.a v851.n v851.c] T.sl_uint8 (fun (v853 : Sl) h =>
  callK Try.prog (Kd.pair .agg (.int .i64)) F.commit_some #[.pointer m0, .bool false, .agg v5, .slice v853.a v853.n v853.c] (fun (v854 : Array Value × Int) h =>
  storeAggK (sizeOfT Try.prog T.api_Tag) h v3 v854.1 (fun h =>
  quietK Try.prog .agg (Instr.loadAt T.api_Tag (.pointer v3)) (fun (r855 : Array Value) =>
  R (.tuple #[.agg r855, .int .i64 v854.2]) h) h)) h)) h)))) h) ∧
  (((opK Try.prog .slice (convert T.sl_uint8 T.sl_uint8 (.slice v475.a v475.n v475.c)) (fun (v856 : Sl) h =>
  ((callK Try.prog .bool F.commit_bit #[.int .i64 player2] (fun (v857 : Bool) h =>
  stillAggK (sizeOfT Try.prog T.api_Tag) h nonce_2 v5 ∧
  if v857 = true then
  ((callK Try.prog .bool F.commit_bit #[.int .i64 side3] (fun (v858 : Bool) h =>
  stillAggK (sizeOfT Try.prog T.api_Tag) h nonce_2 v5 ∧
  newSlK h 1 #[(.int .u8 (IntKind.u8.wrap side3))] T.uint8 (fun (v859 : Sl) h =>
  newSlK h 4 #[.slice v856.a v856.n v856.c, .slice v4.a v4.n v4.c, .slice v803.a v803.n v803.c, .slice v859.a v859.n v859.c] T.sl_uint8 (fun (v860 : Sl) h =>
  callK Try.prog (Kd.pair .agg (.int .i64)) F.commit_some #[.pointer m0, .bool v858, .agg v5, .slice v860.a v860.n v860.c] (fun (v861 : Array Value × Int) h =>
  storeAggK (sizeOfT Try.prog T.api_Tag) h v3 v861.1 (fun h =>
  quietK Try.prog .agg (Instr.loadAt T.api_Tag (.pointer v3)) (fun (r862 : Array Value) =>
  R (.tuple #[.agg r862, .int .i64 v861.2]) h) h)) h))) h) ∧
  (newSlK h 1 #[(.int .u8 (IntKind.u8.wrap side3))] T.uint8 (fun (v863 : Sl) h =>
  ((callK Try.prog .bool F.commit_bit #[.int .i64 side3] (fun (v864 : Bool) h =>
  stillAggK (sizeOfT Try.prog T.api_Tag) h nonce_2 v5 ∧
  newSlK h 4 #[.slice v856.a v856.n v856.c, .slice v4.a v4.n v4.c, .slice v803.a v803.n v803.c, .slice v863.a v863.n v863.c] T.sl_uint8 (fun (v865 : Sl) h =>
  callK Try.prog (Kd.pair .agg (.int .i64)) F.commit_some #[.pointer m0, .bool v864, .agg v5, .slice v865.a v865.n v865.c] (fun (v866 : Array Value × Int) h =>
  storeAggK (sizeOfT Try.prog T.api_Tag) h v3 v866.1 (fun h =>
  quietK Try.prog .agg (Instr.loadAt T.api_Tag (.pointer v3)) (fun (r867 : Array Value) =>
  R (.tuple #[.agg r867, .int .i64 v866.2]) h) h)) h)) h) ∧
  (newSlK h 4 #[.slice v856.a v856.n v856.c, .slice v4.a v4.n v4.c, .slice v803.a v803.n v803.c, .slice v863.a v863.n v863.c] T.sl_uint8 (fun (v868 : Sl) h =>
  callK Try.prog .bool F.commit_bit #[.int .i64 side3] (fun (v869 : Bool) h =>
  stillAggK (sizeOfT Try.prog T.api_Tag) h nonce_2 v5 ∧
  callK Try.prog (Kd.pair .agg (.int .i64)) F.commit_some #[.pointer m0, .bool v869, .agg v5, .slice v868.a v868.n v868.c] (fun (v870 : Array Value × Int) h =>
  storeAggK (sizeOfT Try.prog T.api_Tag) h v3 v870.1 (fun h =>
  quietK Try.prog .agg (Instr.loadAt T.api_Tag (.pointer v3)) (fun (r871 : Array Value) =>
  R (.tuple #[.agg r871, .int .i64 v870.2]) h) h)) h) h))))))
  else
  newSlK h 1 #[(.int .u8 (IntKind.u8.wrap side3))] T.uint8 (fun (v872 : Sl) h =>
  newSlK h 4 #[.slice v856.a v856.n v856.c, .slice v4.a v4.n v4.c, .slice v803.a v803.n v803.c, .slice v872.a v872.n v872.c] T.sl_uint8 (fun (v873 : Sl) h =>
  callK Try.prog (Kd.pair .agg (.int .i64)) F.commit_some #[.pointer m0, .bool false, .agg v5, .slice v873.a v873.n v873.c] (fun (v874 : Array Value × Int) h =>
  storeAggK (sizeOfT Try.prog T.api_Tag) h v3 v874.1 (fun h =>
  quietK Try.prog .agg (Instr.loadAt T.api_Tag (.pointer v3)) (fun (r875 : Array Value) =>
  R (.tuple #[.agg r875, .int .i64 v874.2]) h) h)) h))) h) ∧
  (newSlK h 1 #[(.int .u8 (IntKind.u8.wrap side3))] T.uint8 (fun (v876 : Sl) h =>
  ((callK Try.prog .bool F.commit_bit #[.int .i64 player2] (fun (v877 : Bool) h =>
  stillAggK (sizeOfT Try.prog T.api_Tag) h nonce_2 v5 ∧
  if v877 = true then
  ((callK Try.prog .bool F.commit_bit #[.int .i64 side3] (fun (v878 : Bool) h =>
  stillAggK (sizeOfT Try.prog T.api_Tag) h nonce_2 v5 ∧
  newSlK h 4 #[.slice v856.a v856.n v856.c, .slice v4.a v4.n v4.c, .slice v803.a v803.n v803.c, .slice v876.a v876.n v876.c] T.sl_uint8 (fun (v879 : Sl) h =>
  callK Try.prog (Kd.pair .agg (.int .i64)) F.commit_some #[.pointer m0, .bool v878, .agg v5, .slice v879.a v879.n v879.c] (fun (v880 : Array Value × Int) h =>
  storeAggK (sizeOfT Try.prog T.api_Tag) h v3 v880.1 (fun h =>
  quietK Try.prog .agg (Instr.loadAt T.api_Tag (.pointer v3)) (fun (r881 : Array Value) =>
  R (.tuple #[.agg r881, .int .i64 v880.2]) h) h)) h)) h) ∧
  (newSlK h 4 #[.slice v856.a v856.n v856.c, .slice v4.a v4.n v4.c, .slice v803.a v803.n v803.c, .slice v876.a v876.n v876.c] T.sl_uint8 (fun (v882 : Sl) h =>
  callK Try.prog .bool F.commit_bit #[.int .i64 side3] (fun (v883 : Bool) h =>
  stillAggK (sizeOfT Try.prog T.api_Tag) h nonce_2 v5 ∧
  callK Try.prog (Kd.pair .agg (.int .i64)) F.commit_some #[.pointer m0, .bool v883, .agg v5, .slice v882.a v882.n v882.c] (fun (v884 : Array Value × Int) h =>
  storeAggK (sizeOfT Try.prog T.api_Tag) h v3 v884.1 (fun h =>
  quietK Try.prog .agg (Instr.loadAt T.api_Tag (.pointer v3)) (fun (r885 : Array Value) =>
  R (.tuple #[.agg r885, .int .i64 v884.2]) h) h)) h) h)))
  else
  newSlK h 4 #[.slice v856.a v856.n v856.c, .slice v4.a v4.n v4.c, .slice v803.a v803.n v803.c, .slice v876.a v876.n v876.c] T.sl_uint8 (fun (v886 : Sl) h =>
  callK Try.prog (Kd.pair .agg (.int .i64)) F.commit_some #[.pointer m0, .bool false, .agg v5, .slice v886.a v886.n v886.c] (fun (v887 : Array Value × Int) h =>
  storeAggK (sizeOfT Try.prog T.api_Tag) h v3 v887.1 (fun h =>
  quietK Try.prog .agg (Instr.loadAt T.api_Tag (.pointer v3)) (fun (r888 : Array Value) =>
  R (.tuple #[.agg r888, .int .i64 v887.2]) h) h)) h)) h) ∧
  (newSlK h 4 #[.slice v856.a v856.n v856.c, .slice v4.a v4.n v4.c, .slice v803.a v803.n v803.c, .slice v876.a v876.n v876.c] T.sl_uint8 (fun (v889 : Sl) h =>
  callK Try.prog .bool F.commit_bit #[.int .i64 player2] (fun (v890 : Bool) h =>
  stillAggK (sizeOfT Try.prog T.api_Tag) h nonce_2 v5 ∧
  if v890 = true then
  callK Try.prog .bool F.commit_bit #[.int .i64 side3] (fun (v891 : Bool) h =>
  stillAggK (sizeOfT Try.prog T.api_Tag) h nonce_2 v5 ∧
  callK Try.prog (Kd.pair .agg (.int .i64)) F.commit_some #[.pointer m0, .bool v891, .agg v5, .slice v889.a v889.n v889.c] (fun (v892 : Array Value × Int) h =>
  storeAggK (sizeOfT Try.prog T.api_Tag) h v3 v892.1 (fun h =>
  quietK Try.prog .agg (Instr.loadAt T.api_Tag (.pointer v3)) (fun (r893 : Array Value) =>
  R (.tuple #[.agg r893, .int .i64 v892.2]) h) h)) h) h
  else
  callK Try.prog (Kd.pair .agg (.int .i64)) F.commit_some #[.pointer m0, .bool false, .agg v5, .slice v889.a v889.n v889.c] (fun (v894 : Array Value × Int) h =>
  storeAggK (sizeOfT Try.prog T.api_Tag) h v3 v894.1 (fun h =>
  quietK Try.prog .agg (Instr.loadAt T.api_Tag (.pointer v3)) (fun (r895 : Array Value) =>
  R (.tuple #[.agg r895, .int .i64 v894.2]) h) h)) h) h))))))) h) ∧
  (newSlK h 1 #[(.int .u8 (IntKind.u8.wrap side3))] T.uint8 (fun (v896 : Sl) h =>
  ((callK Try.prog .bool F.commit_bit #[.int .i64 player2] (fun (v897 : Bool) h =>
  stillAggK (sizeOfT Try.prog T.api_Tag) h nonce_2 v5 ∧
  if v897 = true then
  ((callK Try.prog .bool F.commit_bit #[.int .i64 side3] (fun (v898 : Bool) h =>
  stillAggK (sizeOfT Try.prog T.api_Tag) h nonce_2 v5 ∧
  opK Try.prog .slice (convert T.sl_uint8 T.sl_uint8 (.slice v475.a v475.n v475.c)) (fun (v899 : Sl) h =>
  newSlK h 4 #[.slice v899.a v899.n v899.c, .slice v4.a v4.n v4.c, .slice v803.a v803.n v803.c, .slice v896.a v896.n v896.c] T.sl_uint8 (fun (v900 : Sl) h =>
  callK Try.prog (Kd.pair .agg (.int .i64)) F.commit_some #[.pointer m0, .bool v898, .agg v5, .slice v900.a v900.n v900.c] (fun (v901 : Array Value × Int) h =>
  storeAggK (sizeOfT Try.prog T.api_Tag) h v3 v901.1 (fun h =>
  quietK Try.prog .agg (Instr.loadAt T.api_Tag (.pointer v3)) (fun (r902 : Array Value) =>
  R (.tuple #[.agg r902, .int .i64 v901.2]) h) h)) h)) h) h) ∧
  (opK Try.prog .slice (convert T.sl_uint8 T.sl_uint8 (.slice v475.a v475.n v475.c)) (fun (v903 : Sl) h =>
  ((callK Try.prog .bool F.commit_bit #[.int .i64 side3] (fun (v904 : Bool) h =>
  stillAggK (sizeOfT Try.prog T.api_Tag) h nonce_2 v5 ∧
  newSlK h 4 #[.slice v903.a v903.n v903.c, .slice v4.a v4.n v4.c, .slice v803.a v803.n v803.c, .slice v896.a v896.n v896.c] T.sl_uint8 (fun (v905 : Sl) h =>
  callK Try.prog (Kd.pair .agg (.int .i64)) F.commit_some #[.pointer m0, .bool v904, .agg v5, .slice v905.a v905.n v905.c] (fun (v906 : Array Value × Int) h =>
  storeAggK (sizeOfT Try.prog T.api_Tag) h v3 v906.1 (fun h =>
  quietK Try.prog .agg (Instr.loadAt T.api_Tag (.pointer v3)) (fun (r907 : Array Value) =>
  R (.tuple #[.agg r907, .int .i64 v906.2]) h) h)) h)) h) ∧
  (newSlK h 4 #[.slice v903.a v903.n v903.c, .slice v4.a v4.n v4.c, .slice v803.a v803.n v803.c, .slice v896.a v896.n v896.c] T.sl_uint8 (fun (v908 : Sl) h =>
  callK Try.prog .bool F.commit_bit #[.int .i64 side3] (fun (v909 : Bool) h =>
  stillAggK (sizeOfT Try.prog T.api_Tag) h nonce_2 v5 ∧
  callK Try.prog (Kd.pair .agg (.int .i64)) F.commit_some #[.pointer m0, .bool v909, .agg v5, .slice v908.a v908.n v908.c] (fun (v910 : Array Value × Int) h =>
  storeAggK (sizeOfT Try.prog T.api_Tag) h v3 v910.1 (fun h =>
  quietK Try.prog .agg (Instr.loadAt T.api_Tag (.pointer v3)) (fun (r911 : Array Value) =>
  R (.tuple #[.agg r911, .int .i64 v910.2]) h) h)) h) h)))) h))
  else
  opK Try.prog .slice (convert T.sl_uint8 T.sl_uint8 (.slice v475.a v475.n v475.c)) (fun (v912 : Sl) h =>
  newSlK h 4 #[.slice v912.a v912.n v912.c, .slice v4.a v4.n v4.c, .slice v803.a v803.n v803.c, .slice v896.a v896.n v896.c] T.sl_uint8 (fun (v913 : Sl) h =>
  callK Try.prog (Kd.pair .agg (.int .i64)) F.commit_some #[.pointer m0, .bool false, .agg v5, .slice v913.a v913.n v913.c] (fun (v914 : Array Value × Int) h =>
  storeAggK (sizeOfT Try.prog T.api_Tag) h v3 v914.1 (fun h =>
  quietK Try.prog .agg (Instr.loadAt T.api_Tag (.pointer v3)) (fun (r915 : Array Value) =>
  R (.tuple #[.agg r915, .int .i64 v914.2]) h) h)) h)) h) h) ∧
  (opK Try.prog .slice (convert T.sl_uint8 T.sl_uint8 (.slice v475.a v475.n v475.c)) (fun (v916 : Sl) h =>
  ((callK Try.prog .bool F.commit_bit #[.int .i64 player2] (fun (v917 : Bool) h =>
  stillAggK (sizeOfT Try.prog T.api_Tag) h nonce_2 v5 ∧
  if v917 = true then
  ((callK Try.prog .bool F.commit_bit #[.int .i64 side3] (fun (v918 : Bool) h =>
  stillAggK (sizeOfT Try.prog T.api_Tag) h nonce_2 v5 ∧
  newSlK h 4 #[.slice v916.a v916.n v916.c, .slice v4.a v4.n v4.c, .slice v803.a v803.n v803.c, .slice v896.a v896.n v896.c] T.sl_uint8 (fun (v919 : Sl) h =>
  callK Try.prog (Kd.pair .agg (.int .i64)) F.commit_some #[.pointer m0, .bool v918, .agg v5, .slice v919.a v919.n v919.c] (fun (v920 : Array Value × Int) h =>
  storeAggK (sizeOfT Try.prog T.api_Tag) h v3 v920.1 (fun h =>
  quietK Try.prog .agg (Instr.loadAt T.api_Tag (.pointer v3)) (fun (r921 : Array Value) =>
  R (.tuple #[.agg r921, .int .i64 v920.2]) h) h)) h)) h) ∧
  (newSlK h 4 #[.slice v916.a v916.n v916.c, .slice v4.a v4.n v4.c, .slice v803.a v803.n v803.c, .slice v896.a v896.n v896.c] T.sl_uint8 (fun (v922 : Sl) h =>
  callK Try.prog .bool F.commit_bit #[.int .i64 side3] (fun (v923 : Bool) h =>
  stillAggK (sizeOfT Try.prog T.api_Tag) h nonce_2 v5 ∧
  callK Try.prog (Kd.pair .agg (.int .i64)) F.commit_some #[.pointer m0, .bool v923, .agg v5, .slice v922.a v922.n v922.c] (fun (v924 : Array Value × Int) h =>
  storeAggK (sizeOfT Try.prog T.api_Tag) h v3 v924.1 (fun h =>
  quietK Try.prog .agg (Instr.loadAt T.api_Tag (.pointer v3)) (fun (r925 : Array Value) =>
  R (.tuple #[.agg r925, .int .i64 v924.2]) h) h)) h) h)))
  else
  newSlK h 4 #[.slice v916.a v916.n v916.c, .slice v4.a v4.n v4.c, .slice v803.a v803.n v803.c, .slice v896.a v896.n v896.c] T.sl_uint8 (fun (v926 : Sl) h =>
  callK Try.prog (Kd.pair .agg (.int .i64)) F.commit_some #[.pointer m0, .bool false, .agg v5, .slice v926.a v926.n v926.c] (fun (v927 : Array Value × Int) h =>
  storeAggK (sizeOfT Try.prog T.api_Tag) h v3 v927.1 (fun h =>
  quietK Try.prog .agg (Instr.loadAt T.api_Tag (.pointer v3)) (fun (r928 : Array Value) =>
  R (.tuple #[.agg r928, .int .i64 v927.2]) h) h)) h)) h) ∧
  (newSlK h 4 #[.slice v916.a v916.n v916.c, .slice v4.a v4.n v4.c, .slice v803.a v803.n v803.c, .slice v896.a v896.n v896.c] T.sl_uint8 (fun (v929 : Sl) h =>
  callK Try.prog .bool F.commit_bit #[.int .i64 player2] (fun (v930 : Bool) h =>
  stillAggK (sizeOfT Try.prog T.api_Tag) h nonce_2 v5 ∧
  if v930 = true then
  callK Try.prog .bool F.commit_bit #[.int .i64 side3] (fun (v931 : Bool) h =>
  stillAggK (sizeOfT Try.prog T.api_Tag) h nonce_2 v5 ∧
  callK Try.prog (Kd.pair .agg (.int .i64)) F.commit_some #[.pointer m0, .bool v931, .agg v5, .slice v929.a v929.n v929.c] (fun (v932 : Array Value × Int) h =>
  storeAggK (sizeOfT Try.prog T.api_Tag) h v3 v932.1 (fun h =>
  quietK Try.prog .agg (Instr.loadAt T.api_Tag (.pointer v3)) (fun (r933 : Array Value) =>
  R (.tuple #[.agg r933, .int .i64 v932.2]) h) h)) h) h
  else
  callK Try.prog (Kd.pair .agg (.int .i64)) F.commit_some #[.pointer m0, .bool false, .agg v5, .slice v929.a v929.n v929.c] (fun (v934 : Array Value × Int) h =>
  storeAggK (sizeOfT Try.prog T.api_Tag) h v3 v934.1 (fun h =>
  quietK Try.prog .agg (Instr.loadAt T.api_Tag (.pointer v3)) (fun (r935 : Array Value) =>
  R (.tuple #[.agg r935, .int .i64 v934.2]) h) h)) h) h)))) h))))))))) ∧
  (newSlK h 1 #[(.int .u8 (IntKind.u8.wrap side3))] T.uint8 (fun (v936 : Sl) h =>
  ((callK Try.prog .bool F.commit_bit #[.int .i64 player2] (fun (v937 : Bool) h =>
  stillAggK (sizeOfT Try.prog T.api_Tag) h nonce_2 v5 ∧
  if v937 = true then
  ((callK Try.prog .bool F.commit_bit #[.int .i64 side3] (fun (v938 : Bool) h =>
  stillAggK (sizeOfT Try.prog T.api_Tag) h nonce_2 v5 ∧
  ((opK Try.prog .slice (convert T.sl_uint8 T.sl_uint8 (.slice v475.a v475.n v475.c)) (fun (v939 : Sl) h =>
  newSlK h 1 #[(.int .u8 (IntKind.u8.wrap player2))] T.uint8 (fun (v940 : Sl) h =>
  newSlK h 4 #[.slice v939.a v939.n v939.c, .slice v4.a v4.n v4.c, .slice v940.a v940.n v940.c, .slice v936.a v936.n v936.c] T.sl_uint8 (fun (v941 : Sl) h =>
  callK Try.prog (Kd.pair .agg (.int .i64)) F.commit_some #[.pointer m0, .bool v938, .agg v5, .slice v941.a v941.n v941.c] (fun (v942 : Array Value × Int) h =>
  storeAggK (sizeOfT Try.prog T.api_Tag) h v3 v942.1 (fun h =>
  quietK Try.prog .agg (Instr.loadAt T.api_Tag (.pointer v3)) (fun (r943 : Array Value) =>
  R (.tuple #[.agg r943, .int .i64 v942.2]) h) h)) h))) h) ∧
  (newSlK h 1 #[(.int .u8 (IntKind.u8.wrap player2))] T.uint8 (fun (v944 : Sl) h =>
  opK Try.prog .slice (convert T.sl_uint8 T.sl_uint8 (.slice v475.a v475.n v475.c)) (fun (v945 : Sl) h =>
  newSlK h 4 #[.slice v945.a v945.n v945.c, .slice v4.a v4.n v4.c, .slice v944.a v944.n v944.c, .slice v936.a v936.n v936.c] T.sl_uint8 (fun (v946 : Sl) h =>
  callK Try.prog (Kd.pair .agg (.int .i64)) F.commit_some #[.pointer m0, .bool v938, .agg v5, .slice v946.a v946.n v946.c] (fun (v947 : Array Value × Int) h =>
  storeAggK (sizeOfT Try.prog T.api_Tag) h v3 v947.1 (fun h =>
  quietK Try.prog .agg (Instr.loadAt T.api_Tag (.pointer v3)) (fun (r948 : Array Value) =>
  R (.tuple #[.agg r948, .int .i64 v947.2]) h) h)) h)) h)))) h) ∧
  (((opK Try.prog .slice (convert T.sl_uint8 T.sl_uint8 (.slice v475.a v475.n v475.c)) (fun (v949 : Sl) h =>
  ((callK Try.prog .bool F.commit_bit #[.int .i64 side3] (fun (v950 : Bool) h =>
  stillAggK (sizeOfT Try.prog T.api_Tag) h nonce_2 v5 ∧
  newSlK h 1 #[(.int .u8 (IntKind.u8.wrap player2))] T.uint8 (fun (v951 : Sl) h =>
  newSlK h 4 #[.slice v949.a v949.n v949.c, .slice v4.a v4.n v4.c, .slice v951.a v951.n v951.c, .slice v936.a v936.n v936.c] T.sl_uint8 (fun (v952 : Sl) h =>
  callK Try.prog (Kd.pair .agg (.int .i64)) F.commit_some #[.pointer m0, .bool v950, .agg v5, .slice v952.a v952.n v952.c] (fun (v953 : Array Value × Int) h =>
  storeAggK (sizeOfT Try.prog T.api_Tag) h v3 v953.1 (fun h =>
  quietK Try.prog .agg (Instr.loadAt T.api_Tag (.pointer v3)) (fun (r954 : Array Value) =>
  R (.tuple #[.agg r954, .int .i64 v953.2]) h) h)) h))) h) ∧
  (newSlK h 1 #[(.int .u8 (IntKind.u8.wrap player2))] T.uint8 (fun (v955 : Sl) h =>
  ((callK Try.prog .bool F.commit_bit #[.int .i64 side3] (fun (v956 : Bool) h =>
  stillAggK (sizeOfT Try.prog T.api_Tag) h nonce_2 v5 ∧
  newSlK h 4 #[.slice v949.a v949.n v949.c, .slice v4.a v4.n v4.c, .slice v955.a v955.n v955.c, .slice v936.a v936.n v936.c] T.sl_uint8 (fun (v957 : Sl) h =>
  callK Try.prog (Kd.pair .agg (.int .i64)) F.commit_some #[.pointer m0, .bool v956, .agg v5, .slice v957.a v957.n v957.c] (fun (v958 : Array Value × Int) h =>
  storeAggK (sizeOfT Try.prog T.api_Tag) h v3 v958.1 (fun h =>
  quietK Try.prog .agg (Instr.loadAt T.api_Tag (.pointer v3)) (fun (r959 : Array Value) =>
  R (.tuple #[.agg r959, .int .i64 v958.2]) h) h)) h)) h) ∧
  (newSlK h 4 #[.slice v949.a v949.n v949.c, .slice v4.a v4.n v4.c, .slice v955.a v955.n v955.c, .slice v936.a v936.n v936.c] T.sl_uint8 (fun (v960 : Sl) h =>
  callK Try.prog .bool F.commit_bit #[.int .i64 side3] (fun (v961 : Bool) h =>
  stillAggK (sizeOfT Try.prog T.api_Tag) h nonce_2 v5 ∧
  callK Try.prog (Kd.pair .agg (.int .i64)) F.commit_some #[.pointer m0, .bool v961, .agg v5, .slice v960.a v960.n v960.c] (fun (v962 : Array Value × Int) h =>
  storeAggK (sizeOfT Try.prog T.api_Tag) h v3 v962.1 (fun h =>
  quietK Try.prog .agg (Instr.loadAt T.api_Tag (.pointer v3)) (fun (r963 : Array Value) =>
  R (.tuple #[.agg r963, .int .i64 v962.2]) h) h)) h) h))))))) h) ∧
  (newSlK h 1 #[(.int .u8 (IntKind.u8.wrap player2))] T.uint8 (fun (v964 : Sl) h =>
  ((callK Try.prog .bool F.commit_bit #[.int .i64 side3] (fun (v965 : Bool) h =>
  stillAggK (sizeOfT Try.prog T.api_Tag) h nonce_2 v5 ∧
  opK Try.prog .slice (convert T.sl_uint8 T.sl_uint8 (.slice v475.a v475.n v475.c)) (fun (v966 : Sl) h =>
  newSlK h 4 #[.slice v966.a v966.n v966.c, .slice v4.a v4.n v4.c, .slice v964.a v964.n v964.c, .slice v936.a v936.n v936.c] T.sl_uint8 (fun (v967 : Sl) h =>
  callK Try.prog (Kd.pair .agg (.int .i64)) F.commit_some #[.pointer m0, .bool v965, .agg v5, .slice v967.a v967.n v967.c] (fun (v968 : Array Value × Int) h =>
  storeAggK (sizeOfT Try.prog T.api_Tag) h v3 v968.1 (fun h =>
  quietK Try.prog .agg (Instr.loadAt T.api_Tag (.pointer v3)) (fun (r969 : Array Value) =>
  R (.tuple #[.agg r969, .int .i64 v968.2]) h) h)) h)) h) h) ∧
  (opK Try.prog .slice (convert T.sl_uint8 T.sl_uint8 (.slice v475.a v475.n v475.c)) (fun (v970 : Sl) h =>
  ((callK Try.prog .bool F.commit_bit #[.int .i64 side3] (fun (v971 : Bool) h =>
  stillAggK (sizeOfT Try.prog T.api_Tag) h nonce_2 v5 ∧
  newSlK h 4 #[.slice v970.a v970.n v970.c, .slice v4.a v4.n v4.c, .slice v964.a v964.n v964.c, .slice v936.a v936.n v936.c] T.sl_uint8 (fun (v972 : Sl) h =>
  callK Try.prog (Kd.pair .agg (.int .i64)) F.commit_some #[.pointer m0, .bool v971, .agg v5, .slice v972.a v972.n v972.c] (fun (v973 : Array Value × Int) h =>
  storeAggK (sizeOfT Try.prog T.api_Tag) h v3 v973.1 (fun h =>
  quietK Try.prog .agg (Instr.loadAt T.api_Tag (.pointer v3)) (fun (r974 : Array Value) =>
  R (.tuple #[.agg r974, .int .i64 v973.2]) h) h)) h)) h) ∧
  (newSlK h 4 #[.slice v970.a v970.n v970.c, .slice v4.a v4.n v4.c, .slice v964.a v964.n v964.c, .slice v936.a v936.n v936.c] T.sl_uint8 (fun (v975 : Sl) h =>
  callK Try.prog .bool F.commit_bit #[.int .i64 side3] (fun (v976 : Bool) h =>
  stillAggK (sizeOfT Try.prog T.api_Tag) h nonce_2 v5 ∧
  callK Try.prog (Kd.pair .agg (.int .i64)) F.commit_some #[.pointer m0, .bool v976, .agg v5, .slice v975.a v975.n v975.c] (fun (v977 : Array Value × Int) h =>
  storeAggK (sizeOfT Try.prog T.api_Tag) h v3 v977.1 (fun h =>
  quietK Try.prog .agg (Instr.loadAt T.api_Tag (.pointer v3)) (fun (r978 : Array Value) =>
  R (.tuple #[.agg r978, .int .i64 v977.2]) h) h)) h) h)))) h)))))))
  else
  ((opK Try.prog .slice (convert T.sl_uint8 T.sl_uint8 (.slice v475.a v475.n v475.c)) (fun (v979 : Sl) h =>
  newSlK h 1 #[(.int .u8 (IntKind.u8.wrap player2))] T.uint8 (fun (v980 : Sl) h =>
  newSlK h 4 #[.slice v979.a v979.n v979.c, .slice v4.a v4.n v4.c, .slice v980.a v980.n v980.c, .slice v936.a v936.n v936.c] T.sl_uint8 (fun (v981 : Sl) h =>
  callK Try.prog (Kd.pair .agg (.int .i64)) F.commit_some #[.pointer m0, .bool false, .agg v5, .slice v981.a v981.n v981.c] (fun (v982 : Array Value × Int) h =>
  storeAggK (sizeOfT Try.prog T.api_Tag) h v3 v982.1 (fun h =>
  quietK Try.prog .agg (Instr.loadAt T.api_Tag (.pointer v3)) (fun (r983 : Array Value) =>
  R (.tuple #[.agg r983, .int .i64 v982.2]) h) h)) h))) h) ∧
  (newSlK h 1 #[(.int .u8 (IntKind.u8.wrap player2))] T.uint8 (fun (v984 : Sl) h =>
  opK Try.prog .slice (convert T.sl_uint8 T.sl_uint8 (.slice v475.a v475.n v475.c)) (fun (v985 : Sl) h =>
  newSlK h 4 #[.slice v985.a v985.n v985.c, .slice v4.a v4.n v4.c, .slice v984.a v984.n v984.c, .slice v936.a v936.n v936.c] T.sl_uint8 (fun (v986 : Sl) h =>
  callK Try.prog (Kd.pair .agg (.int .i64)) F.commit_some #[.pointer m0, .bool false, .agg v5, .slice v986.a v986.n v986.c] (fun (v987 : Array Value × Int) h =>
  storeAggK (sizeOfT Try.prog T.api_Tag) h v3 v987.1 (fun h =>
  quietK Try.prog .agg (Instr.loadAt T.api_Tag (.pointer v3)) (fun (r988 : Array Value) =>
  R (.tuple #[.agg r988, .int .i64 v987.2]) h) h)) h)) h)))) h) ∧
  (((opK Try.prog .slice (convert T.sl_uint8 T.sl_uint8 (.slice v475.a v475.n v475.c)) (fun (v989 : Sl) h =>
  ((callK Try.prog .bool F.commit_bit #[.int .i64 player2] (fun (v990 : Bool) h =>
  stillAggK (sizeOfT Try.prog T.api_Tag) h nonce_2 v5 ∧
  if v990 = true then
  ((callK Try.prog .bool F.commit_bit #[.int .i64 side3] (fun (v991 : Bool) h =>
  stillAggK (sizeOfT Try.prog T.api_Tag) h nonce_2 v5 ∧
  newSlK h 1 #[(.int .u8 (IntKind.u8.wrap player2))] T.uint8 (fun (v992 : Sl) h =>
  newSlK h 4 #[.slice v989.a v989.n v989.c, .slice v4.a v4.n v4.c, .slice v992.a v992.n v992.c, .slice v936.a v936.n v936.c] T.sl_uint8 (fun (v993 : Sl) h =>
  callK Try.prog (Kd.pair .agg (.int .i64)) F.commit_some #[.pointer m0, .bool v991, .agg v5, .slice v993.a v993.n v993.c] (fun (v994 : Array Value × Int) h =>
  storeAggK (sizeOfT Try.prog T.api_Tag) h v3 v994.1 (fun h =>
  quietK Try.prog .agg (Instr.loadAt T.api_Tag (.pointer v3)) (fun (r995 : Array Value) =>
  R (.tuple #[.agg r995, .int .i64 v994.2]) h) h)) h))) h) ∧
  (newSlK h 1 #[(.int .u8 (IntKind.u8.wrap player2))] T.uint8 (fun (v996 : Sl) h =>
  ((callK Try.prog .bool F.commit_bit #[.int .i64 side3] (fun (v997 : Bool) h =>
  stillAggK (sizeOfT Try.prog T.api_Tag) h nonce_2 v5 ∧
  newSlK h 4 #[.slice v989.a v989.n v989.c, .slice v4.a v4.n v4.c, .slice v996.a v996.n v996.c, .slice v936.a v936.n v936.c] T.sl_uint8 (fun (v998 : Sl) h =>
  callK Try.prog (Kd.pair .agg (.int .i64)) F.commit_some #[.pointer m0, .bool v997, .agg v5, .slice v998.a v998.n v998.c] (fun (v999 : Array Value × Int) h =>
  storeAggK (sizeOfT Try.prog T.api_Tag) h v3 v999.1 (fun h =>
  quietK Try.prog .agg (Instr.loadAt T.api_Tag (.pointer v3)) (fun (r1000 : Array Value) =>
  R (.tuple #[.agg r1000, .int .i64 v999.2]) h) h)) h)) h) ∧
  (newSlK h 4 #[.slice v989.a v989.n v989.c, .slice v4.a v4.n v4.c, .slice v996.a v996.n v996.c, .slice v936.a v936.n v936.c] T.sl_uint8 (fun (v1001 : Sl) h =>
  callK Try.prog .bool F.commit_bit #[.int .i64 side3] (fun (v1002 : Bool) h =>
  stillAggK (sizeOfT Try.prog T.api_Tag) h nonce_2 v5 ∧
  callK Try.prog (Kd.pair .agg (.int .i64)) F.commit_some #[.pointer m0, .bool v1002, .agg v5, .slice v1001.a v1001.n v1001.c] (fun (v1003 : Array Value × Int) h =>
  storeAggK (sizeOfT Try.prog T.api_Tag) h v3 v1003.1 (fun h =>
  quietK Try.prog .agg (Instr.loadAt T.api_Tag (.pointer v3)) (fun (r1004 : Array Value) =>
  R (.tuple #[.agg r1004, .int .i64 v1003.2]) h) h)) h) h))))))
  else
  newSlK h 1 #[(.int .u8 (IntKind.u8.wrap player2))] T.uint8 (fun (v1005 : Sl) h =>
  newSlK h 4 #[.slice v989.a v989.n v989.c, .slice v4.a v4.n v4.c, .slice v1005.a v1005.n v1005.c, .slice v936.a v936.n v936.c] T.sl_uint8 (fun (v1006 : Sl) h =>
  callK Try.prog (Kd.pair .agg (.int .i64)) F.commit_some #[.pointer m0, .bool false, .agg v5, .slice v1006.a v1006.n v1006.c] (fun (v1007 : Array Value × Int) h =>
  storeAggK (sizeOfT Try.prog T.api_Tag) h v3 v1007.1 (fun h =>
  quietK Try.prog .agg (Instr.loadAt T.api_Tag (.pointer v3)) (fun (r1008 : Array Value) =>
  R (.tuple #[.agg r1008, .int .i64 v1007.2]) h) h)) h))) h) ∧
  (newSlK h 1 #[(.int .u8 (IntKind.u8.wrap player2))] T.uint8 (fun (v1009 : Sl) h =>
  ((callK Try.prog .bool F.commit_bit #[.int .i64 player2] (fun (v1010 : Bool) h =>
  stillAggK (sizeOfT Try.prog T.api_Tag) h nonce_2 v5 ∧
  if v1010 = true then
  ((callK Try.prog .bool F.commit_bit #[.int .i64 side3] (fun (v1011 : Bool) h =>
  stillAggK (sizeOfT Try.prog T.api_Tag) h nonce_2 v5 ∧
  newSlK h 4 #[.slice v989.a v989.n v989.c, .slice v4.a v4.n v4.c, .slice v1009.a v1009.n v1009.c, .slice v936.a v936.n v936.c] T.sl_uint8 (fun (v1012 : Sl) h =>
  callK Try.prog (Kd.pair .agg (.int .i64)) F.commit_some #[.pointer m0, .bool v1011, .agg v5, .slice v1012.a v1012.n v1012.c] (fun (v1013 : Array Value × Int) h =>
  storeAggK (sizeOfT Try.prog T.api_Tag) h v3 v1013.1 (fun h =>
  quietK Try.prog .agg (Instr.loadAt T.api_Tag (.pointer v3)) (fun (r1014 : Array Value) =>
  R (.tuple #[.agg r1014, .int .i64 v1013.2]) h) h)) h)) h) ∧
  (newSlK h 4 #[.slice v989.a v989.n v989.c, .slice v4.a v4.n v4.c, .slice v1009.a v1009.n v1009.c, .slice v936.a v936.n v936.c] T.sl_uint8 (fun (v1015 : Sl) h =>
  callK Try.prog .bool F.commit_bit #[.int .i64 side3] (fun (v1016 : Bool) h =>
  stillAggK (sizeOfT Try.prog T.api_Tag) h nonce_2 v5 ∧
  callK Try.prog (Kd.pair .agg (.int .i64)) F.commit_some #[.pointer m0, .bool v1016, .agg v5, .slice v1015.a v1015.n v1015.c] (fun (v1017 : Array Value × Int) h =>
  storeAggK (sizeOfT Try.prog T.api_Tag) h v3 v1017.1 (fun h =>
  quietK Try.prog .agg (Instr.loadAt T.api_Tag (.pointer v3)) (fun (r1018 : Array Value) =>
  R (.tuple #[.agg r1018, .int .i64 v1017.2]) h) h)) h) h)))
  else
  newSlK h 4 #[.slice v989.a v989.n v989.c, .slice v4.a v4.n v4.c, .slice v1009.a v1009.n v1009.c, .slice v936.a v936.n v936.c] T.sl_uint8 (fun (v1019 : Sl) h =>
  callK Try.prog (Kd.pair .agg (.int .i64)) F.commit_some #[.pointer m0, .bool false, .agg v5, .slice v1019.a v1019.n v1019.c] (fun (v1020 : Array Value × Int) h =>
  storeAggK (sizeOfT Try.prog T.api_Tag) h v3 v1020.1 (fun h =>
  quietK Try.prog .agg (Instr.loadAt T.api_Tag (.pointer v3)) (fun (r1021 : Array Value) =>
  R (.tuple #[.agg r1021, .int .i64 v1020.2]) h) h)) h)) h) ∧
  (newSlK h 4 #[.slice v989.a v989.n v989.c, .slice v4.a v4.n v4.c, .slice v1009.a v1009.n v1009.c, .slice v936.a v936.n v936.c] T.sl_uint8 (fun (v1022 : Sl) h =>
  callK Try.prog .bool F.commit_bit #[.int .i64 player2] (fun (v1023 : Bool) h =>
  stillAggK (sizeOfT Try.prog T.api_Tag) h nonce_2 v5 ∧
  if v1023 = true then
  callK Try.prog .bool F.commit_bit #[.int .i64 side3] (fun (v1024 : Bool) h =>
  stillAggK (sizeOfT Try.prog T.api_Tag) h nonce_2 v5 ∧
  callK Try.prog (Kd.pair .agg (.int .i64)) F.commit_some #[.pointer m0, .bool v1024, .agg v5, .slice v1022.a v1022.n v1022.c] (fun (v1025 : Array Value × Int) h =>
  storeAggK (sizeOfT Try.prog T.api_Tag) h v3 v1025.1 (fun h =>
  quietK Try.prog .agg (Instr.loadAt T.api_Tag (.pointer v3)) (fun (r1026 : Array Value) =>
  R (.tuple #[.agg r1026, .int .i64 v1025.2]) h) h)) h) h
  else
  callK Try.prog (Kd.pair .agg (.int .i64)) F.commit_some #[.pointer m0, .bool false, .agg v5, .slice v1022.a v1022.n v1022.c] (fun (v1027 : Array Value × Int) h =>
  storeAggK (sizeOfT Try.prog T.api_Tag) h v3 v1027.1 (fun h =>
  quietK Try.prog .agg (Instr.loadAt T.api_Tag (.pointer v3)) (fun (r1028 : Array Value) =>
  R (.tuple #[.agg r1028, .int .i64 v1027.2]) h) h)) h) h))))))) h) ∧
  (newSlK h 1 #[(.int .u8 (IntKind.u8.wrap player2))] T.uint8 (fun (v1029 : Sl) h =>
  ((callK Try.prog .bool F.commit_bit #[.int .i64 player2] (fun (v1030 : Bool) h =>
  stillAggK (sizeOfT Try.prog T.api_Tag) h nonce_2 v5 ∧
  if v1030 = true then
  ((callK Try.prog .bool F.commit_bit #[.int .i64 side3] (fun (v1031 : Bool) h =>
  stillAggK (sizeOfT Try.prog T.api_Tag) h nonce_2 v5 ∧
  opK Try.prog .slice (convert T.sl_uint8 T.sl_uint8 (.slice v475.a v475.n v475.c)) (fun (v1032 : Sl) h =>
  newSlK h 4 #[.slice v1032.a v1032.n v1032.c, .slice v4.a v4.n v4.c, .slice v1029.a v1029.n v1029.c, .slice v936.a v936.n v936.c] T.sl_uint8 (fun (v1033 : Sl) h =>
  callK Try.prog (Kd.pair .agg (.int .i64)) F.commit_some #[.pointer m0, .bool v1031, .agg v5, .slice v1033.a v1033.n v1033.c] (fun (v1034 : Array Value × Int) h =>
  storeAggK (sizeOfT Try.prog T.api_Tag) h v3 v1034.1 (fun h =>
  quietK Try.prog .agg (Instr.loadAt T.api_Tag (.pointer v3)) (fun (r1035 : Array Value) =>
  R (.tuple #[.agg r1035, .int .i64 v1034.2]) h) h)) h)) h) h) ∧
  (opK Try.prog .slice (convert T.sl_uint8 T.sl_uint8 (.slice v475.a v475.n v475.c)) (fun (v1036 : Sl) h =>
  ((callK Try.prog .bool F.commit_bit #[.int .i64 side3] (fun (v1037 : Bool) h =>
  stillAggK (sizeOfT Try.prog T.api_Tag) h nonce_2 v5 ∧
  newSlK h 4 #[.slice v1036.a v1036.n v1036.c, .slice v4.a v4.n v4.c, .slice v1029.a v1029.n v1029.c, .slice v936.a v936.n v936.c] T.sl_uint8 (fun (v1038 : Sl) h =>
  callK Try.prog (Kd.pair .agg (.int .i64)) F.commit_some #[.pointer m0, .bool v1037, .agg v5, .slice v1038.a v1038.n v1038.c] (fun (v1039 : Array Value × Int) h =>
  storeAggK (sizeOfT Try.prog T.api_Tag) h v3 v1039.1 (fun h =>
  quietK Try.prog .agg (Instr.loadAt T.api_Tag (.pointer v3)) (fun (r1040 : Array Value) =>
  R (.tuple #[.agg r1040, .int .i64 v1039.2]) h) h)) h)) h) ∧
  (newSlK h 4 #[.slice v1036.a v1036.n v1036.c, .slice v4.a v4.n v4.c, .slice v1029.a v1029.n v1029.c, .slice v936.a v936.n v936.c] T.sl_uint8 (fun (v1041 : Sl) h =>
  callK Try.prog .bool F.commit_bit #[.int .i64 side3] (fun (v1042 : Bool) h =>
  stillAggK (sizeOfT Try.prog T.api_Tag) h nonce_2 v5 ∧
  callK Try.prog (Kd.pair .agg (.int .i64)) F.commit_some #[.pointer m0, .bool v1042, .agg v5, .slice v1041.a v1041.n v1041.c] (fun (v1043 : Array Value × Int) h =>
  storeAggK (sizeOfT Try.prog T.api_Tag) h v3 v1043.1 (fun h =>
  quietK Try.prog .agg (Instr.loadAt T.api_Tag (.pointer v3)) (fun (r1044 : Array Value) =>
  R (.tuple #[.agg r1044, .int .i64 v1043.2]) h) h)) h) h)))) h))
  else
  opK Try.prog .slice (convert T.sl_uint8 T.sl_uint8 (.slice v475.a v475.n v475.c)) (fun (v1045 : Sl) h =>
  newSlK h 4 #[.slice v1045.a v1045.n v1045.c, .slice v4.a v4.n v4.c, .slice v1029.a v1029.n v1029.c, .slice v936.a v936.n v936.c] T.sl_uint8 (fun (v1046 : Sl) h =>
  callK Try.prog (Kd.pair .agg (.int .i64)) F.commit_some #[.pointer m0, .bool false, .agg v5, .slice v1046.a v1046.n v1046.c] (fun (v1047 : Array Value × Int) h =>
  storeAggK (sizeOfT Try.prog T.api_Tag) h v3 v1047.1 (fun h =>
  quietK Try.prog .agg (Instr.loadAt T.api_Tag (.pointer v3)) (fun (r1048 : Array Value) =>
  R (.tuple #[.agg r1048, .int .i64 v1047.2]) h) h)) h)) h) h) ∧
  (opK Try.prog .slice (convert T.sl_uint8 T.sl_uint8 (.slice v475.a v475.n v475.c)) (fun (v1049 : Sl) h =>
  ((callK Try.prog .bool F.commit_bit #[.int .i64 player2] (fun (v1050 : Bool) h =>
  stillAggK (sizeOfT Try.prog T.api_Tag) h nonce_2 v5 ∧
  if v1050 = true then
  ((callK Try.prog .bool F.commit_bit #[.int .i64 side3] (fun (v1051 : Bool) h =>
  stillAggK (sizeOfT Try.prog T.api_Tag) h nonce_2 v5 ∧
  newSlK h 4 #[.slice v1049.a v1049.n v1049.c, .slice v4.a v4.n v4.c, .slice v1029.a v1029.n v1029.c, .slice v936.a v936.n v936.c] T.sl_uint8 (fun (v1052 : Sl) h =>
  callK Try.prog (Kd.pair .agg (.int .i64)) F.commit_some #[.pointer m0, .bool v1051, .agg v5, .slice v1052.a v1052.n v1052.c] (fun (v1053 : Array Value × Int) h =>
  storeAggK (sizeOfT Try.prog T.api_Tag) h v3 v1053.1 (fun h =>
  quietK Try.prog .agg (Instr.loadAt T.api_Tag (.pointer v3)) (fun (r1054 : Array Value) =>
  R (.tuple #[.agg r1054, .int .i64 v1053.2]) h) h)) h)) h) ∧
  (newSlK h 4 #[.slice v1049.a v1049.n v1049.c, .slice v4.a v4.n v4.c, .slice v1029.a v1029.n v1029.c, .slice v936.a v936.n v936.c] T.sl_uint8 (fun (v1055 : Sl) h =>
  callK Try.prog .bool F.commit_bit #[.int .i64 side3] (fun (v1056 : Bool) h =>
  stillAggK (sizeOfT Try.prog T.api_Tag) h nonce_2 v5 ∧
  callK Try.prog (Kd.pair .agg (.int .i64)) F.commit_some #[.pointer m0, .bool v1056, .agg v5, .slice v1055.a v1055.n v1055.c] (fun (v1057 : Array Value × Int) h =>
  storeAggK (sizeOfT Try.prog T.api_Tag) h v3 v1057.1 (fun h =>
  quietK Try.prog .agg (Instr.loadAt T.api_Tag (.pointer v3)) (fun (r1058 : Array Value) =>
  R (.tuple #[.agg r1058, .int .i64 v1057.2]) h) h)) h) h)))
  else
  newSlK h 4 #[.slice v1049.a v1049.n v1049.c, .slice v4.a v4.n v4.c, .slice v1029.a v1029.n v1029.c, .slice v936.a v936.n v936.c] T.sl_uint8 (fun (v1059 : Sl) h =>
  callK Try.prog (Kd.pair .agg (.int .i64)) F.commit_some #[.pointer m0, .bool false, .agg v5, .slice v1059.a v1059.n v1059.c] (fun (v1060 : Array Value × Int) h =>
  storeAggK (sizeOfT Try.prog T.api_Tag) h v3 v1060.1 (fun h =>
  quietK Try.prog .agg (Instr.loadAt T.api_Tag (.pointer v3)) (fun (r1061 : Array Value) =>
  R (.tuple #[.agg r1061, .int .i64 v1060.2]) h) h)) h)) h) ∧
  (newSlK h 4 #[.slice v1049.a v1049.n v1049.c, .slice v4.a v4.n v4.c, .slice v1029.a v1029.n v1029.c, .slice v936.a v936.n v936.c] T.sl_uint8 (fun (v1062 : Sl) h =>
  callK Try.prog .bool F.commit_bit #[.int .i64 player2] (fun (v1063 : Bool) h =>
  stillAggK (sizeOfT Try.prog T.api_Tag) h nonce_2 v5 ∧
  if v1063 = true then
  callK Try.prog .bool F.commit_bit #[.int .i64 side3] (fun (v1064 : Bool) h =>
  stillAggK (sizeOfT Try.prog T.api_Tag) h nonce_2 v5 ∧
  callK Try.prog (Kd.pair .agg (.int .i64)) F.commit_some #[.pointer m0, .bool v1064, .agg v5, .slice v1062.a v1062.n v1062.c] (fun (v1065 : Array Value × Int) h =>
  storeAggK (sizeOfT Try.prog T.api_Tag) h v3 v1065.1 (fun h =>
  quietK Try.prog .agg (Instr.loadAt T.api_Tag (.pointer v3)) (fun (r1066 : Array Value) =>
  R (.tuple #[.agg r1066, .int .i64 v1065.2]) h) h)) h) h
  else
  callK Try.prog (Kd.pair .agg (.int .i64)) F.commit_some #[.pointer m0, .bool false, .agg v5, .slice v1062.a v1062.n v1062.c] (fun (v1067 : Array Value × Int) h =>
  storeAggK (sizeOfT Try.prog T.api_Tag) h v3 v1067.1 (fun h =>
  quietK Try.prog .agg (Instr.loadAt T.api_Tag (.pointer v3)) (fun (r1068 : Array Value) =>
  R (.tuple #[.agg r1068, .int .i64 v1067.2]) h) h)) h) h)))) h)))))))))))))))) ∧
  (((newSlK h 1 #[(.int .u8 (IntKind.u8.wrap player2))] T.uint8 (fun (v1069 : Sl) h =>
  ((callK Try.prog .bool F.commit_bit #[.int .i64 player2] (fun (v1070 : Bool) h =>
  stillAggK (sizeOfT Try.prog T.api_Tag) h nonce_2 v5 ∧
  if v1070 = true then
  ((callK Try.prog .bool F.commit_bit #[.int .i64 side3] (fun (v1071 : Bool) h =>
  stillAggK (sizeOfT Try.prog T.api_Tag) h nonce_2 v5 ∧
  ((newSlK h 4 #[.int .u8 99, .int .u8 111, .int .u8 105, .int .u8 110] T.uint8 (fun (v1072 : Sl) h =>
  ((opK Try.prog .slice (convert T.sl_uint8 T.sl_uint8 (.slice v1072.a v1072.n v1072.c)) (fun (v1073 : Sl) h =>
  newSlK h 1 #[(.int .u8 (IntKind.u8.wrap side3))] T.uint8 (fun (v1074 : Sl) h =>
  newSlK h 4 #[.slice v1073.a v1073.n v1073.c, .slice v4.a v4.n v4.c, .slice v1069.a v1069.n v1069.c, .slice v1074.a v1074.n v1074.c] T.sl_uint8 (fun (v1075 : Sl) h =>
  callK Try.prog (Kd.pair .agg (.int .i64)) F.commit_some #[.pointer m0, .bool v1071, .agg v5, .slice v1075.a v1075.n v1075.c] (fun (v1076 : Array Value × Int) h =>
  storeAggK (sizeOfT Try.prog T.api_Tag) h v3 v1076.1 (fun h =>
  quietK Try.prog .agg (Instr.loadAt T.api_Tag (.pointer v3)) (fun (r1077 : Array Value) =>
  R (.tuple #[.agg r1077, .int .i64 v1076.2]) h) h)) h))) h) ∧
  (newSlK h 1 #[(.int .u8 (IntKind.u8.wrap side3))] T.uint8 (fun (v1078 : Sl) h =>
  opK Try.prog .slice (convert T.sl_uint8 T.sl_uint8 (.slice v1072.a v1072.n v1072.c)) (fun (v1079 : Sl) h =>
  newSlK h 4 #[.slice v1079.a v1079.n v1079.c, .slice v4.a v4.n v4.c, .slice v1069.a v1069.n v1069.c, .slice v1078.a v1078.n v1078.c] T.sl_uint8 (fun (v1080 : Sl) h =>
  callK Try.prog (Kd.pair .agg (.int .i64)) F.commit_some #[.pointer m0, .bool v1071, .agg v5, .slice v1080.a v1080.n v1080.c] (fun (v1081 : Array Value × Int) h =>
  storeAggK (sizeOfT Try.prog T.api_Tag) h v3 v1081.1 (fun h =>
  quietK Try.prog .agg (Instr.loadAt T.api_Tag (.pointer v3)) (fun (r1082 : Array Value) =>
  R (.tuple #[.agg r1082, .int .i64 v1081.2]) h) h)) h)) h))))) ∧
  (newSlK h 1 #[(.int .u8 (IntKind.u8.wrap side3))] T.uint8 (fun (v1083 : Sl) h =>
  newSlK h 4 #[.int .u8 99, .int .u8 111, .int .u8 105, .int .u8 110] T.uint8 (fun (v1084 : Sl) h =>
  opK Try.prog .slice (convert T.sl_uint8 T.sl_uint8 (.slice v1084.a v1084.n v1084.c)) (fun (v1085 : Sl) h =>
  newSlK h 4 #[.slice v1085.a v1085.n v1085.c, .slice v4.a v4.n v4.c, .slice v1069.a v1069.n v1069.c, .slice v1083.a v1083.n v1083.c] T.sl_uint8 (fun (v1086 : Sl) h =>
  callK Try.prog (Kd.pair .agg (.int .i64)) F.commit_some #[.pointer m0, .bool v1071, .agg v5, .slice v1086.a v1086.n v1086.c] (fun (v1087 : Array Value × Int) h =>
  storeAggK (sizeOfT Try.prog T.api_Tag) h v3 v1087.1 (fun h =>
  quietK Try.prog .agg (Instr.loadAt T.api_Tag (.pointer v3)) (fun (r1088 : Array Value) =>
  R (.tuple #[.agg r1088, .int .i64 v1087.2]) h) h)) h)) h))))) h) ∧
  (((newSlK h 4 #[.int .u8 99, .int .u8 111, .int .u8 105, .int .u8 110] T.uint8 (fun (v1089 : Sl) h =>
  ((callK Try.prog .bool F.commit_bit #[.int .i64 side3] (fun (v1090 : Bool) h =>
  stillAggK (sizeOfT Try.prog T.api_Tag) h nonce_2 v5 ∧
  ((opK Try.prog .slice (convert T.sl_uint8 T.sl_uint8 (.slice v1089.a v1089.n v1089.c)) (fun (v1091 : Sl) h =>
  newSlK h 1 #[(.int .u8 (IntKind.u8.wrap side3))] T.uint8 (fun (v1092 : Sl) h =>
  newSlK h 4 #[.slice v1091.a v1091.n v1091.c, .slice v4.a v4.n v4.c, .slice v1069.a v1069.n v1069.c, .slice v1092.a v1092.n v1092.c] T.sl_uint8 (fun (v1093 : Sl) h =>
  callK Try.prog (Kd.pair .agg (.int .i64)) F.commit_some #[.pointer m0, .bool v1090, .agg v5, .slice v1093.a v1093.n v1093.c] (fun (v1094 : Array Value × Int) h =>
  storeAggK (sizeOfT Try.prog T.api_Tag) h v3 v1094.1 (fun h =>
  quietK Try.prog .agg (Instr.loadAt T.api_Tag (.pointer v3)) (fun (r1095 : Array Value) =>
  R (.tuple #[.agg r1095, .int .i64 v1094.2]) h) h)) h))) h) ∧
  (newSlK h 1 #[(.int .u8 (IntKind.u8.wrap side3))] T.uint8 (fun (v1096 : Sl) h =>
  opK Try.prog .slice (convert T.sl_uint8 T.sl_uint8 (.slice v1089.a v1089.n v1089.c)) (fun (v1097 : Sl) h =>
  newSlK h 4 #[.slice v1097.a v1097.n v1097.c, .slice v4.a v4.n v4.c, .slice v1069.a v1069.n v1069.c, .slice v1096.a v1096.n v1096.c] T.sl_uint8 (fun (v1098 : Sl) h =>
  callK Try.prog (Kd.pair .agg (.int .i64)) F.commit_some #[.pointer m0, .bool v1090, .agg v5, .slice v1098.a v1098.n v1098.c] (fun (v1099 : Array Value × Int) h =>
  storeAggK (sizeOfT Try.prog T.api_Tag) h v3 v1099.1 (fun h =>
  quietK Try.prog .agg (Instr.loadAt T.api_Tag (.pointer v3)) (fun (r1100 : Array Value) =>
  R (.tuple #[.agg r1100, .int .i64 v1099.2]) h) h)) h)) h)))) h) ∧
  (((opK Try.prog .slice (convert T.sl_uint8 T.sl_uint8 (.slice v1089.a v1089.n v1089.c)) (fun (v1101 : Sl) h =>
  ((callK Try.prog .bool F.commit_bit #[.int .i64 side3] (fun (v1102 : Bool) h =>
  stillAggK (sizeOfT Try.prog T.api_Tag) h nonce_2 v5 ∧
  newSlK h 1 #[(.int .u8 (IntKind.u8.wrap side3))] T.uint8 (fun (v1103 : Sl) h =>
  newSlK h 4 #[.slice v1101.a v1101.n v1101.c, .slice v4.a v4.n v4.c, .slice v1069.a v1069.n v1069.c, .slice v1103.a v1103.n v1103.c] T.sl_uint8 (fun (v1104 : Sl) h =>
  callK Try.prog (Kd.pair .agg (.int .i64)) F.commit_some #[.pointer m0, .bool v1102, .agg v5, .slice v1104.a v1104.n v1104.c] (fun (v1105 : Array Value × Int) h =>
  storeAggK (sizeOfT Try.prog T.api_Tag) h v3 v1105.1 (fun h =>
  quietK Try.prog .agg (Instr.loadAt T.api_Tag (.pointer v3)) (fun (r1106 : Array Value) =>
  R (.tuple #[.agg r1106, .int .i64 v1105.2]) h) h)) h))) h) ∧
  (newSlK h 1 #[(.int .u8 (IntKind.u8.wrap side3))] T.uint8 (fun (v1107 : Sl) h =>
  ((callK Try.prog .bool F.commit_bit #[.int .i64 side3] (fun (v1108 : Bool) h =>
  stillAggK (sizeOfT Try.prog T.api_Tag) h nonce_2 v5 ∧
  newSlK h 4 #[.slice v1101.a v1101.n v1101.c, .slice v4.a v4.n v4.c, .slice v1069.a v1069.n v1069.c, .slice v1107.a v1107.n v1107.c] T.sl_uint8 (fun (v1109 : Sl) h =>
  callK Try.prog (Kd.pair .agg (.int .i64)) F.commit_some #[.pointer m0, .bool v1108, .agg v5, .slice v1109.a v1109.n v1109.c] (fun (v1110 : Array Value × Int) h =>
  storeAggK (sizeOfT Try.prog T.api_Tag) h v3 v1110.1 (fun h =>
  quietK Try.prog .agg (Instr.loadAt T.api_Tag (.pointer v3)) (fun (r1111 : Array Value) =>
  R (.tuple #[.agg r1111, .int .i64 v1110.2]) h) h)) h)) h) ∧
  (newSlK h 4 #[.slice v1101.a v1101.n v1101.c, .slice v4.a v4.n v4.c, .slice v1069.a v1069.n v1069.c, .slice v1107.a v1107.n v1107.c] T.sl_uint8 (fun (v1112 : Sl) h =>
  callK Try.prog .bool F.commit_bit #[.int .i64 side3] (fun (v1113 : Bool) h =>
  stillAggK (sizeOfT Try.prog T.api_Tag) h nonce_2 v5 ∧
  callK Try.prog (Kd.pair .agg (.int .i64)) F.commit_some #[.pointer m0, .bool v1113, .agg v5, .slice v1112.a v1112.n v1112.c] (fun (v1114 : Array Value × Int) h =>
  storeAggK (sizeOfT Try.prog T.api_Tag) h v3 v1114.1 (fun h =>
  quietK Try.prog .agg (Instr.loadAt T.api_Tag (.pointer v3)) (fun (r1115 : Array Value) =>
  R (.tuple #[.agg r1115, .int .i64 v1114.2]) h) h)) h) h))))))) h) ∧
  (newSlK h 1 #[(.int .u8 (IntKind.u8.wrap side3))] T.uint8 (fun (v1116 : Sl) h =>
  ((callK Try.prog .bool F.commit_bit #[.int .i64 side3] (fun (v1117 : Bool) h =>
  stillAggK (sizeOfT Try.prog T.api_Tag) h nonce_2 v5 ∧
  opK Try.prog .slice (convert T.sl_uint8 T.sl_uint8 (.slice v1089.a v1089.n v1089.c)) (fun (v1118 : Sl) h =>
  newSlK h 4 #[.slice v1118.a v1118.n v1118.c, .slice v4.a v4.n v4.c, .slice v1069.a v1069.n v1069.c, .slice v1116.a v1116.n v1116.c] T.sl_uint8 (fun (v1119 : Sl) h =>
  callK Try.prog (Kd.pair .agg (.int .i64)) F.commit_some #[.pointer m0, .bool v1117, .agg v5, .slice v1119.a v1119.n v1119.c] (fun (v1120 : Array Value × Int) h =>
  storeAggK (sizeOfT Try.prog T.api_Tag) h v3 v1120.1 (fun h =>
  quietK Try.prog .agg (Instr.loadAt T.api_Tag (.pointer v3)) (fun (r1121 : Array Value) =>
  R (.tuple #[.agg r1121, .int .i64 v1120.2]) h) h)) h)) h) h) ∧
  (opK Try.prog .slice (convert T.sl_uint8 T.sl_uint8 (.slice v1089.a v1089.n v1089.c)) (fun (v1122 : Sl) h =>
  ((callK Try.prog .bool F.commit_bit #[.int .i64 side3] (fun (v1123 : Bool) h =>
  stillAggK (sizeOfT Try.prog T.api_Tag) h nonce_2 v5 ∧
  newSlK h 4 #[.slice v1122.a v1122.n v1122.c, .slice v4.a v4.n v4.c, .slice v1069.a v1069.n v1069.c, .slice v1116.a v1116.n v1116.c] T.sl_uint8 (fun (v1124 : Sl) h =>
  callK Try.prog (Kd.pair .agg (.int .i64)) F.commit_some #[.pointer m0, .bool v1123, .agg v5, .slice v1124.a v1124.n v1124.c] (fun (v1125 : Array Value × Int) h =>
  storeAggK (sizeOfT Try.prog T.api_Tag) h v3 v1125.1 (fun h =>
  quietK Try.prog .agg (Instr.loadAt T.api_Tag (.pointer v3)) (fun (r1126 : Array Value) =>
  R (.tuple #[.agg r1126, .int .i64 v1125.2]) h) h)) h)) h) ∧
  (newSlK h 4 #[.slice v1122.a v1122.n v1122.c, .slice v4.a v4.n v4.c, .slice v1069.a v1069.n v1069.c, .slice v1116.a v1116.n v1116.c] T.sl_uint8 (fun (v1127 : Sl) h =>
  callK Try.prog .bool F.commit_bit #[.int .i64 side3] (fun (v1128 : Bool) h =>
  stillAggK (sizeOfT Try.prog T.api_Tag) h nonce_2 v5 ∧
  callK Try.prog (Kd.pair .agg (.int .i64)) F.commit_some #[.pointer m0, .bool v1128, .agg v5, .slice v1127.a v1127.n v1127.c] (fun (v1129 : Array Value × Int) h =>
  storeAggK (sizeOfT Try.prog T.api_Tag) h v3 v1129.1 (fun h =>
  quietK Try.prog .agg (Instr.loadAt T.api_Tag (.pointer v3)) (fun (r1130 : Array Value) =>
  R (.tuple #[.agg r1130, .int .i64 v1129.2]) h) h)) h) h)))) h))))))))) ∧
  (newSlK h 1 #[(.int .u8 (IntKind.u8.wrap side3))] T.uint8 (fun (v1131 : Sl) h =>
  ((callK Try.prog .bool F.commit_bit #[.int .i64 side3] (fun (v1132 : Bool) h =>
  stillAggK (sizeOfT Try.prog T.api_Tag) h nonce_2 v5 ∧
  newSlK h 4 #[.int .u8 99, .int .u8 111, .int .u8 105, .int .u8 110] T.uint8 (fun (v1133 : Sl) h =>
  opK Try.prog .slice (convert T.sl_uint8 T.sl_uint8 (.slice v1133.a v1133.n v1133.c)) (fun (v1134 : Sl) h =>
  newSlK h 4 #[.slice v1134.a v1134.n v1134.c, .slice v4.a v4.n v4.c, .slice v1069.a v1069.n v1069.c, .slice v1131.a v1131.n v1131.c] T.sl_uint8 (fun (v1135 : Sl) h =>
  callK Try.prog (Kd.pair .agg (.int .i64)) F.commit_some #[.pointer m0, .bool v1132, .agg v5, .slice v1135.a v1135.n v1135.c] (fun (v1136 : Array Value × Int) h =>
  storeAggK (sizeOfT Try.prog T.api_Tag) h v3 v1136.1 (fun h =>
  quietK Try.prog .agg (Instr.loadAt T.api_Tag (.pointer v3)) (fun (r1137 : Array Value) =>
  R (.tuple #[.agg r1137, .int .i64 v1136.2]) h) h)) h)) h)) h) ∧
  (newSlK h 4 #[.int .u8 99, .int .u8 111, .int .u8 105, .int .u8 110] T.uint8 (fun (v1138 : Sl) h =>
  ((callK Try.prog .bool F.commit_bit #[.int .i64 side3] (fun (v1139 : Bool) h =>
  stillAggK (sizeOfT Try.prog T.api_Tag) h nonce_2 v5 ∧
  opK Try.prog .slice (convert T.sl_uint8 T.sl_uint8 (.slice v1138.a v1138.n v1138.c)) (fun (v1140 : Sl) h =>
  newSlK h 4 #[.slice v1140.a v1140.n v1140.c, .slice v4.a v4.n v4.c, .slice v1069.a v1069.n v1069.c, .slice v1131.a v1131.n v1131.c] T.sl_uint8 (fun (v1141 : Sl) h =>
  callK Try.prog (Kd.pair .agg (.int .i64)) F.commit_some #[.pointer m0, .bool v1139, .agg v5, .slice v1141.a v1141.n v1141.c] (fun (v1142 : Array Value × Int) h =>
  storeAggK (sizeOfT Try.prog T.api_Tag) h v3 v1142.1 (fun h =>
  quietK Try.prog .agg (Instr.loadAt T.api_Tag (.pointer v3)) (fun (r1143 : Array Value) =>
  R (.tuple #[.agg r1143, .int .i64 v1142.2]) h) h)) h)) h) h) ∧
  (opK Try.prog .slice (convert T.sl_uint8 T.sl_uint8 (.slice v1138.a v1138.n v1138.c)) (fun (v1144 : Sl) h =>
  ((callK Try.prog .bool F.commit_bit #[.int .i64 side3] (fun (v1145 : Bool) h =>
  stillAggK (sizeOfT Try.prog T.api_Tag) h nonce_2 v5 ∧
  newSlK h 4 #[.slice v1144.a v1144.n v1144.c, .slice v4.a v4.n v4.c, .slice v1069.a v1069.n v1069.c, .slice v1131.a v1131.n v1131.c] T.sl_uint8 (fun (v1146 : Sl) h =>
  callK Try.prog (Kd.pair .agg (.int .i64)) F.commit_some #[.pointer m0, .bool v1145, .agg v5, .slice v1146.a v1146.n v1146.c] (fun (v1147 : Array Value × Int) h =>
  storeAggK (sizeOfT Try.prog T.api_Tag) h v3 v1147.1 (fun h =>
  quietK Try.prog .agg (Instr.loadAt T.api_Tag (.pointer v3)) (fun (r1148 : Array Value) =>
  R (.tuple #[.agg r1148, .int .i64 v1147.2]) h) h)) h)) h) ∧
  (newSlK h 4 #[.slice v1144.a v1144.n v1144.c, .slice v4.a v4.n v4.c, .slice v1069.a v1069.n v1069.c, .slice v1131.a v1131.n v1131.c] T.sl_uint8 (fun (v1149 : Sl) h =>
  callK Try.prog .bool F.commit_bit #[.int .i64 side3] (fun (v1150 : Bool) h =>
  stillAggK (sizeOfT Try.prog T.api_Tag) h nonce_2 v5 ∧
  callK Try.prog (Kd.pair .agg (.int .i64)) F.commit_some #[.pointer m0, .bool v1150, .agg v5, .slice v1149.a v1149.n v1149.c] (fun (v1151 : Array Value × Int) h =>
  storeAggK (sizeOfT Try.prog T.api_Tag) h v3 v1151.1 (fun h =>
  quietK Try.prog .agg (Instr.loadAt T.api_Tag (.pointer v3)) (fun (r1152 : Array Value) =>
  R (.tuple #[.agg r1152, .int .i64 v1151.2]) h) h)) h) h)))) h))))))))))
  else
  ((newSlK h 4 #[.int .u8 99, .int .u8 111, .int .u8 105, .int .u8 110] T.uint8 (fun (v1153 : Sl) h =>
  ((opK Try.prog .slice (convert T.sl_uint8 T.sl_uint8 (.slice v1153.a v1153.n v1153.c)) (fun (v1154 : Sl) h =>
  newSlK h 1 #[(.int .u8 (IntKind.u8.wrap side3))] T.uint8 (fun (v1155 : Sl) h =>
  newSlK h 4 #[.slice v1154.a v1154.n v1154.c, .slice v4.a v4.n v4.c, .slice v1069.a v1069.n v1069.c, .slice v1155.a v1155.n v1155.c] T.sl_uint8 (fun (v1156 : Sl) h =>
  callK Try.prog (Kd.pair .agg (.int .i64)) F.commit_some #[.pointer m0, .bool false, .agg v5, .slice v1156.a v1156.n v1156.c] (fun (v1157 : Array Value × Int) h =>
  storeAggK (sizeOfT Try.prog T.api_Tag) h v3 v1157.1 (fun h =>
  quietK Try.prog .agg (Instr.loadAt T.api_Tag (.pointer v3)) (fun (r1158 : Array Value) =>
  R (.tuple #[.agg r1158, .int .i64 v1157.2]) h) h)) h))) h) ∧
  (newSlK h 1 #[(.int .u8 (IntKind.u8.wrap side3))] T.uint8 (fun (v1159 : Sl) h =>
  opK Try.prog .slice (convert T.sl_uint8 T.sl_uint8 (.slice v1153.a v1153.n v1153.c)) (fun (v1160 : Sl) h =>
  newSlK h 4 #[.slice v1160.a v1160.n v1160.c, .slice v4.a v4.n v4.c, .slice v1069.a v1069.n v1069.c, .slice v1159.a v1159.n v1159.c] T.sl_uint8 (fun (v1161 : Sl) h =>
  callK Try.prog (Kd.pair .agg (.int .i64)) F.commit_some #[.pointer m0, .bool false, .agg v5, .slice v1161.a v1161.n v1161.c] (fun (v1162 : Array Value × Int) h =>
  storeAggK (sizeOfT Try.prog T.api_Tag) h v3 v1162.1 (fun h =>
  quietK Try.prog .agg (Instr.loadAt T.api_Tag (.pointer v3)) (fun (r1163 : Array Value) =>
  R (.tuple #[.agg r1163, .int .i64 v1162.2]) h) h)) h)) h))))) ∧
  (newSlK h 1 #[(.int .u8 (IntKind.u8.wrap side3))] T.uint8 (fun (v1164 : Sl) h =>
  newSlK h 4 #[.int .u8 99, .int .u8 111, .int .u8 105, .int .u8 110] T.uint8 (fun (v1165 : Sl) h =>
  opK Try.prog .slice (convert T.sl_uint8 T.sl_uint8 (.slice v1165.a v1165.n v1165.c)) (fun (v1166 : Sl) h =>
  newSlK h 4 #[.slice v1166.a v1166.n v1166.c, .slice v4.a v4.n v4.c, .slice v1069.a v1069.n v1069.c, .slice v1164.a v1164.n v1164.c] T.sl_uint8 (fun (v1167 : Sl) h =>
  callK Try.prog (Kd.pair .agg (.int .i64)) F.commit_some #[.pointer m0, .bool false, .agg v5, .slice v1167.a v1167.n v1167.c] (fun (v1168 : Array Value × Int) h =>
  storeAggK (sizeOfT Try.prog T.api_Tag) h v3 v1168.1 (fun h =>
  quietK Try.prog .agg (Instr.loadAt T.api_Tag (.pointer v3)) (fun (r1169 : Array Value) =>
  R (.tuple #[.agg r1169, .int .i64 v1168.2]) h) h)) h)) h))))) h) ∧
  (((newSlK h 4 #[.int .u8 99, .int .u8 111, .int .u8 105, .int .u8 110] T.uint8 (fun (v1170 : Sl) h =>
  ((callK Try.prog .bool F.commit_bit #[.int .i64 player2] (fun (v1171 : Bool) h =>
  stillAggK (sizeOfT Try.prog T.api_Tag) h nonce_2 v5 ∧
  if v1171 = true then
  ((callK Try.prog .bool F.commit_bit #[.int .i64 side3] (fun (v1172 : Bool) h =>
  stillAggK (sizeOfT Try.prog T.api_Tag) h nonce_2 v5 ∧
  ((opK Try.prog .slice (convert T.sl_uint8 T.sl_uint8 (.slice v1170.a v1170.n v1170.c)) (fun (v1173 : Sl) h =>
  newSlK h 1 #[(.int .u8 (IntKind.u8.wrap side3))] T.uint8 (fun (v1174 : Sl) h =>
  newSlK h 4 #[.slice v1173.a v1173.n v1173.c, .slice v4.a v4.n v4.c, .slice v1069.a v1069.n v1069.c, .slice v1174.a v1174.n v1174.c] T.sl_uint8 (fun (v1175 : Sl) h =>
  callK Try.prog (Kd.pair .agg (.int .i64)) F.commit_some #[.pointer m0, .bool v1172, .agg v5, .slice v1175.a v1175.n v1175.c] (fun (v1176 : Array Value × Int) h =>
  storeAggK (sizeOfT Try.prog T.api_Tag) h v3 v1176.1 (fun h =>
  quietK Try.prog .agg (Instr.loadAt T.api_Tag (.pointer v3)) (fun (r1177 : Array Value) =>
  R (.tuple #[.agg r1177, .int .i64 v1176.2]) h) h)) h))) h) ∧
  (newSlK h 1 #[(.int .u8 (IntKind.u8.wrap side3))] T.uint8 (fun (v1178 : Sl) h =>
  opK Try.prog .slice (convert T.sl_uint8 T.sl_uint8 (.slice v1170.a v1170.n v1170.c)) (fun (v1179 : Sl) h =>
  newSlK h 4 #[.slice v1179.a v1179.n v1179.c, .slice v4.a v4.n v4.c, .slice v1069.a v1069.n v1069.c, .slice v1178.a v1178.n v1178.c] T.sl_uint8 (fun (v1180 : Sl) h =>
  callK Try.prog (Kd.pair .agg (.int .i64)) F.commit_some #[.pointer m0, .bool v1172, .agg v5, .slice v1180.a v1180.n v1180.c] (fun (v1181 : Array Value × Int) h =>
  storeAggK (sizeOfT Try.prog T.api_Tag) h v3 v1181.1 (fun h =>
  quietK Try.prog .agg (Instr.loadAt T.api_Tag (.pointer v3)) (fun (r1182 : Array Value) =>
  R (.tuple #[.agg r1182, .int .i64 v1181.2]) h) h)) h)) h)))) h) ∧
  (((opK Try.prog .slice (convert T.sl_uint8 T.sl_uint8 (.slice v1170.a v1170.n v1170.c)) (fun (v1183 : Sl) h =>
  ((callK Try.prog .bool F.commit_bit #[.int .i64 side3] (fun (v1184 : Bool) h =>
  stillAggK (sizeOfT Try.prog T.api_Tag) h nonce_2 v5 ∧
  newSlK h 1 #[(.int .u8 (IntKind.u8.wrap side3))] T.uint8 (fun (v1185 : Sl) h =>
  newSlK h 4 #[.slice v1183.a v1183.n v1183.c, .slice v4.a v4.n v4.c, .slice v1069.a v1069.n v1069.c, .slice v1185.a v1185.n v1185.c] T.sl_uint8 (fun (v1186 : Sl) h =>
  callK Try.prog (Kd.pair .agg (.int .i64)) F.commit_some #[.pointer m0, .bool v1184, .agg v5, .slice v1186.a v1186.n v1186.c] (fun (v1187 : Array Value × Int) h =>
  storeAggK (sizeOfT Try.prog T.api_Tag) h v3 v1187.1 (fun h =>
  quietK Try.prog .agg (Instr.loadAt T.api_Tag (.pointer v3)) (fun (r1188 : Array Value) =>
  R (.tuple #[.agg r1188, .int .i64 v1187.2]) h) h)) h))) h) ∧
  (newSlK h 1 #[(.int .u8 (IntKind.u8.wrap side3))] T.uint8 (fun (v1189 : Sl) h =>
  ((callK Try.prog .bool F.commit_bit #[.int .i64 side3] (fun (v1190 : Bool) h =>
  stillAggK (sizeOfT Try.prog T.api_Tag) h nonce_2 v5 ∧
  newSlK h 4 #[.slice v1183.a v1183.n v1183.c, .slice v4.a v4.n v4.c, .slice v1069.a v1069.n v1069.c, .slice v1189.a v1189.n v1189.c] T.sl_uint8 (fun (v1191 : Sl) h =>
  callK Try.prog (Kd.pair .agg (.int .i64)) F.commit_some #[.pointer m0, .bool v1190, .agg v5, .slice v1191.a v1191.n v1191.c] (fun (v1192 : Array Value × Int) h =>
  storeAggK (sizeOfT Try.prog T.api_Tag) h v3 v1192.1 (fun h =>
  quietK Try.prog .agg (Instr.loadAt T.api_Tag (.pointer v3)) (fun (r1193 : Array Value) =>
  R (.tuple #[.agg r1193, .int .i64 v1192.2]) h) h)) h)) h) ∧
  (newSlK h 4 #[.slice v1183.a v1183.n v1183.c, .slice v4.a v4.n v4.c, .slice v1069.a v1069.n v1069.c, .slice v1189.a v1189.n v1189.c] T.sl_uint8 (fun (v1194 : Sl) h =>
  callK Try.prog .bool F.commit_bit #[.int .i64 side3] (fun (v1195 : Bool) h =>
  stillAggK (sizeOfT Try.prog T.api_Tag) h nonce_2 v5 ∧
  callK Try.prog (Kd.pair .agg (.int .i64)) F.commit_some #[.pointer m0, .bool v1195, .agg v5, .slice v1194.a v1194.n v1194.c] (fun (v1196 : Array Value × Int) h =>
  storeAggK (sizeOfT Try.prog T.api_Tag) h v3 v1196.1 (fun h =>
  quietK Try.prog .agg (Instr.loadAt T.api_Tag (.pointer v3)) (fun (r1197 : Array Value) =>
  R (.tuple #[.agg r1197, .int .i64 v1196.2]) h) h)) h) h))))))) h) ∧
  (newSlK h 1 #[(.int .u8 (IntKind.u8.wrap side3))] T.uint8 (fun (v1198 : Sl) h =>
  ((callK Try.prog .bool F.commit_bit #[.int .i64 side3] (fun (v1199 : Bool) h =>
  stillAggK (sizeOfT Try.prog T.api_Tag) h nonce_2 v5 ∧
  opK Try.prog .slice (convert T.sl_uint8 T.sl_uint8 (.slice v1170.a v1170.n v1170.c)) (fun (v1200 : Sl) h =>
  newSlK h 4 #[.slice v1200.a v1200.n v1200.c, .slice v4.a v4.n v4.c, .slice v1069.a v1069.n v1069.c, .slice v1198.a v1198.n v1198.c] T.sl_uint8 (fun (v1201 : Sl) h =>
  callK Try.prog (Kd.pair .agg (.int .i64)) F.commit_some #[.pointer m0, .bool v1199, .agg v5, .slice v1201.a v1201.n v1201.c] (fun (v1202 : Array Value × Int) h =>
  storeAggK (sizeOfT Try.prog T.api_Tag) h v3 v1202.1 (fun h =>
  quietK Try.prog .agg (Instr.loadAt T.api_Tag (.pointer v3)) (fun (r1203 : Array Value) =>
  R (.tuple #[.agg r1203, .int .i64 v1202.2]) h) h)) h)) h) h) ∧
  (opK Try.prog .slice (convert T.sl_uint8 T.sl_uint8 (.slice v1170.a v1170.n v1170.c)) (fun (v1204 : Sl) h =>
  ((callK Try.prog .bool F.commit_bit #[.int .i64 side3] (fun (v1205 : Bool) h =>
  stillAggK (sizeOfT Try.prog T.api_Tag) h nonce_2 v5 ∧
  newSlK h 4 #[.slice v1204.a v1204.n v1204.c, .slice v4.a v4.n v4.c, .slice v1069.a v1069.n v1069.c, .slice v1198.a v1198.n v1198.c] T.sl_uint8 (fun (v1206 : Sl) h =>
  callK Try.prog (Kd.pair .agg (.int .i64)) F.commit_some #[.pointer m0, .bool v1205, .agg v5, .slice v1206.a v1206.n v1206.c] (fun (v1207 : Array Value × Int) h =>
  storeAggK (sizeOfT Try.prog T.api_Tag) h v3 v1207.1 (fun h =>
  quietK Try.prog .agg (Instr.loadAt T.api_Tag (.pointer v3)) (fun (r1208 : Array Value) =>
  R (.tuple #[.agg r1208, .int .i64 v1207.2]) h) h)) h)) h) ∧
  (newSlK h 4 #[.slice v1204.a v1204.n v1204.c, .slice v4.a v4.n v4.c, .slice v1069.a v1069.n v1069.c, .slice v1198.a v1198.n v1198.c] T.sl_uint8 (fun (v1209 : Sl) h =>
  callK Try.prog .bool F.commit_bit #[.int .i64 side3] (fun (v1210 : Bool) h =>
  stillAggK (sizeOfT Try.prog T.api_Tag) h nonce_2 v5 ∧
  callK Try.prog (Kd.pair .agg (.int .i64)) F.commit_some #[.pointer m0, .bool v1210, .agg v5, .slice v1209.a v1209.n v1209.c] (fun (v1211 : Array Value × Int) h =>
  storeAggK (sizeOfT Try.prog T.api_Tag) h v3 v1211.1 (fun h =>
  quietK Try.prog .agg (Instr.loadAt T.api_Tag (.pointer v3)) (fun (r1212 : Array Value) =>
  R (.tuple #[.agg r1212, .int .i64 v1211.2]) h) h)) h) h)))) h)))))))
  else
  ((opK Try.prog .slice (convert T.sl_uint8 T.sl_uint8 (.slice v1170.a v1170.n v1170.c)) (fun (v1213 : Sl) h =>
  newSlK h 1 #[(.int .u8 (IntKind.u8.wrap side3))] T.uint8 (fun (v1214 : Sl) h =>
  newSlK h 4 #[.slice v1213.a v1213.n v1213.c, .slice v4.a v4.n v4.c, .slice v1069.a v1069.n v1069.c, .slice v1214.a v1214.n v1214.c] T.sl_uint8 (fun (v1215 : Sl) h =>
  callK Try.prog (Kd.pair .agg (.int .i64)) F.commit_some #[.pointer m0, .bool false, .agg v5, .slice v1215.a v1215.n v1215.c] (fun (v1216 : Array Value × Int) h =>
  storeAggK (sizeOfT Try.prog T.api_Tag) h v3 v1216.1 (fun h =>
  quietK Try.prog .agg (Instr.loadAt T.api_Tag (.pointer v3)) (fun (r1217 : Array Value) =>
  R (.tuple #[.agg r1217, .int .i64 v1216.2]) h) h)) h))) h) ∧
  (newSlK h 1 #[(.int .u8 (IntKind.u8.wrap side3))] T.uint8 (fun (v1218 : Sl) h =>
  opK Try.prog .slice (convert T.sl_uint8 T.sl_uint8 (.slice v1170.a v1170.n v1170.c)) (fun (v1219 : Sl) h =>
  newSlK h 4 #[.slice v1219.a v1219.n v1219.c, .slice v4.a v4.n v4.c, .slice v1069.a v1069.n v1069.c, .slice v1218.a v1218.n v1218.c] T.sl_uint8 (fun (v1220 : Sl) h =>
  callK Try.prog (Kd.pair .agg (.int .i64)) F.commit_some #[.pointer m0, .bool false, .agg v5, .slice v1220.a v1220.n v1220.c] (fun (v1221 : Array Value × Int) h =>
  storeAggK (sizeOfT Try.prog T.api_Tag) h v3 v1221.1 (fun h =>
  quietK Try.prog .agg (Instr.loadAt T.api_Tag (.pointer v3)) (fun (r1222 : Array Value) =>
  R (.tuple #[.agg r1222, .int .i64 v1221.2]) h) h)) h)) h)))) h) ∧
  (((opK Try.prog .slice (convert T.sl_uint8 T.sl_uint8 (.slice v1170.a v1170.n v1170.c)) (fun (v1223 : Sl) h =>
  ((callK Try.prog .bool F.commit_bit #[.int .i64 player2] (fun (v1224 : Bool) h =>
  stillAggK (sizeOfT Try.prog T.api_Tag) h nonce_2 v5 ∧
  if v1224 = true then
  ((callK Try.prog .bool F.commit_bit #[.int .i64 side3] (fun (v1225 : Bool) h =>
  stillAggK (sizeOfT Try.prog T.api_Tag) h nonce_2 v5 ∧
  newSlK h 1 #[(.int .u8 (IntKind.u8.wrap side3))] T.uint8 (fun (v1226 : Sl) h =>
  newSlK h 4 #[.slice v1223.a v1223.n v1223.c, .slice v4.a v4.n v4.c, .slice v1069.a v1069.n v1069.c, .slice v1226.a v1226.n v1226.c] T.sl_uint8 (fun (v1227 : Sl) h =>
  callK Try.prog (Kd.pair .agg (.int .i64)) F.commit_some #[.pointer m0, .bool v1225, .agg v5, .slice v1227.a v1227.n v1227.c] (fun (v1228 : Array Value × Int) h =>
  storeAggK (sizeOfT Try.prog T.api_Tag) h v3 v1228.1 (fun h =>
  quietK Try.prog .agg (Instr.loadAt T.api_Tag (.pointer v3)) (fun (r1229 : Array Value) =>
  R (.tuple #[.agg r1229, .int .i64 v1228.2]) h) h)) h))) h) ∧
  (newSlK h 1 #[(.int .u8 (IntKind.u8.wrap side3))] T.uint8 (fun (v1230 : Sl) h =>
  ((callK Try.prog .bool F.commit_bit #[.int .i64 side3] (fun (v1231 : Bool) h =>
  stillAggK (sizeOfT Try.prog T.api_Tag) h nonce_2 v5 ∧
  newSlK h 4 #[.slice v1223.a v1223.n v1223.c, .slice v4.a v4.n v4.c, .slice v1069.a v1069.n v1069.c, .slice v1230.a v1230.n v1230.c] T.sl_uint8 (fun (v1232 : Sl) h =>
  callK Try.prog (Kd.pair .agg (.int .i64)) F.commit_some #[.pointer m0, .bool v1231, .agg v5, .slice v1232.a v1232.n v1232.c] (fun (v1233 : Array Value × Int) h =>
  storeAggK (sizeOfT Try.prog T.api_Tag) h v3 v1233.1 (fun h =>
  quietK Try.prog .agg (Instr.loadAt T.api_Tag (.pointer v3)) (fun (r1234 : Array Value) =>
  R (.tuple #[.agg r1234, .int .i64 v1233.2]) h) h)) h)) h) ∧
  (newSlK h 4 #[.slice v1223.a v1223.n v1223.c, .slice v4.a v4.n v4.c, .slice v1069.a v1069.n v1069.c, .slice v1230.a v1230.n v1230.c] T.sl_uint8 (fun (v1235 : Sl) h =>
  callK Try.prog .bool F.commit_bit #[.int .i64 side3] (fun (v1236 : Bool) h =>
  stillAggK (sizeOfT Try.prog T.api_Tag) h nonce_2 v5 ∧
  callK Try.prog (Kd.pair .agg (.int .i64)) F.commit_some #[.pointer m0, .bool v1236, .agg v5, .slice v1235.a v1235.n v1235.c] (fun (v1237 : Array Value × Int) h =>
  storeAggK (sizeOfT Try.prog T.api_Tag) h v3 v1237.1 (fun h =>
  quietK Try.prog .agg (Instr.loadAt T.api_Tag (.pointer v3)) (fun (r1238 : Array Value) =>
  R (.tuple #[.agg r1238, .int .i64 v1237.2]) h) h)) h) h))))))
  else
  newSlK h 1 #[(.int .u8 (IntKind.u8.wrap side3))] T.uint8 (fun (v1239 : Sl) h =>
  newSlK h 4 #[.slice v1223.a v1223.n v1223.c, .slice v4.a v4.n v4.c, .slice v1069.a v1069.n v1069.c, .slice v1239.a v1239.n v1239.c] T.sl_uint8 (fun (v1240 : Sl) h =>
  callK Try.prog (Kd.pair .agg (.int .i64)) F.commit_some #[.pointer m0, .bool false, .agg v5, .slice v1240.a v1240.n v1240.c] (fun (v1241 : Array Value × Int) h =>
  storeAggK (sizeOfT Try.prog T.api_Tag) h v3 v1241.1 (fun h =>
  quietK Try.prog .agg (Instr.loadAt T.api_Tag (.pointer v3)) (fun (r1242 : Array Value) =>
  R (.tuple #[.agg r1242, .int .i64 v1241.2]) h) h)) h))) h) ∧
  (newSlK h 1 #[(.int .u8 (IntKind.u8.wrap side3))] T.uint8 (fun (v1243 : Sl) h =>
  ((callK Try.prog .bool F.commit_bit #[.int .i64 player2] (fun (v1244 : Bool) h =>
  stillAggK (sizeOfT Try.prog T.api_Tag) h nonce_2 v5 ∧
  if v1244 = true then
  ((callK Try.prog .bool F.commit_bit #[.int .i64 side3] (fun (v1245 : Bool) h =>
  stillAggK (sizeOfT Try.prog T.api_Tag) h nonce_2 v5 ∧
  newSlK h 4 #[.slice v1223.a v1223.n v1223.c, .slice v4.a v4.n v4.c, .slice v1069.a v1069.n v1069.c, .slice v1243.a v1243.n v1243.c] T.sl_uint8 (fun (v1246 : Sl) h =>
  callK Try.prog (Kd.pair .agg (.int .i64)) F.commit_some #[.pointer m0, .bool v1245, .agg v5, .slice v1246.a v1246.n v1246.c] (fun (v1247 : Array Value × Int) h =>
  storeAggK (sizeOfT Try.prog T.api_Tag) h v3 v1247.1 (fun h =>
  quietK Try.prog .agg (Instr.loadAt T.api_Tag (.pointer v3)) (fun (r1248 : Array Value) =>
  R (.tuple #[.agg r1248, .int .i64 v1247.2]) h) h)) h)) h) ∧
  (newSlK h 4 #[.slice v1223.a v1223.n v1223.c, .slice v4.a v4.n v4.c, .slice v1069.a v1069.n v1069.c, .slice v1243.a v1243.n v1243.c] T.sl_uint8 (fun (v1249 : Sl) h =>
  callK Try.prog .bool F.commit_bit #[.int .i64 side3] (fun (v1250 : Bool) h =>
  stillAggK (sizeOfT Try.prog T.api_Tag) h nonce_2 v5 ∧
  callK Try.prog (Kd.pair .agg (.int .i64)) F.commit_some #[.pointer m0, .bool v1250, .agg v5, .slice v1249.a v1249.n v1249.c] (fun (v1251 : Array Value × Int) h =>
  storeAggK (sizeOfT Try.prog T.api_Tag) h v3 v1251.1 (fun h =>
  quietK Try.prog .agg (Instr.loadAt T.api_Tag (.pointer v3)) (fun (r1252 : Array Value) =>
  R (.tuple #[.agg r1252, .int .i64 v1251.2]) h) h)) h) h)))
  else
  newSlK h 4 #[.slice v1223.a v1223.n v1223.c, .slice v4.a v4.n v4.c, .slice v1069.a v1069.n v1069.c, .slice v1243.a v1243.n v1243.c] T.sl_uint8 (fun (v1253 : Sl) h =>
  callK Try.prog (Kd.pair .agg (.int .i64)) F.commit_some #[.pointer m0, .bool false, .agg v5, .slice v1253.a v1253.n v1253.c] (fun (v1254 : Array Value × Int) h =>
  storeAggK (sizeOfT Try.prog T.api_Tag) h v3 v1254.1 (fun h =>
  quietK Try.prog .agg (Instr.loadAt T.api_Tag (.pointer v3)) (fun (r1255 : Array Value) =>
  R (.tuple #[.agg r1255, .int .i64 v1254.2]) h) h)) h)) h) ∧
  (newSlK h 4 #[.slice v1223.a v1223.n v1223.c, .slice v4.a v4.n v4.c, .slice v1069.a v1069.n v1069.c, .slice v1243.a v1243.n v1243.c] T.sl_uint8 (fun (v1256 : Sl) h =>
  callK Try.prog .bool F.commit_bit #[.int .i64 player2] (fun (v1257 : Bool) h =>
  stillAggK (sizeOfT Try.prog T.api_Tag) h nonce_2 v5 ∧
  if v1257 = true then
  callK Try.prog .bool F.commit_bit #[.int .i64 side3] (fun (v1258 : Bool) h =>
  stillAggK (sizeOfT Try.prog T.api_Tag) h nonce_2 v5 ∧
  callK Try.prog (Kd.pair .agg (.int .i64)) F.commit_some #[.pointer m0, .bool v1258, .agg v5, .slice v1256.a v1256.n v1256.c] (fun (v1259 : Array Value × Int) h =>
  storeAggK (sizeOfT Try.prog T.api_Tag) h v3 v1259.1 (fun h =>
  quietK Try.prog .agg (Instr.loadAt T.api_Tag (.pointer v3)) (fun (r1260 : Array Value) =>
  R (.tuple #[.agg r1260, .int .i64 v1259.2]) h) h)) h) h
  else
  callK Try.prog (Kd.pair .agg (.int .i64)) F.commit_some #[.pointer m0, .bool false, .agg v5, .slice v1256.a v1256.n v1256.c] (fun (v1261 : Array Value × Int) h =>
  storeAggK (sizeOfT Try.prog T.api_Tag) h v3 v1261.1 (fun h =>
  quietK Try.prog .agg (Instr.loadAt T.api_Tag (.pointer v3)) (fun (r1262 : Array Value) =>
  R (.tuple #[.agg r1262, .int .i64 v1261.2]) h) h)) h) h))))))) h) ∧
  (newSlK h 1 #[(.int .u8 (IntKind.u8.wrap side3))] T.uint8 (fun (v1263 : Sl) h =>
  ((callK Try.prog .bool F.commit_bit #[.int .i64 player2] (fun (v1264 : Bool) h =>
  stillAggK (sizeOfT Try.prog T.api_Tag) h nonce_2 v5 ∧
  if v1264 = true then
  ((callK Try.prog .bool F.commit_bit #[.int .i64 side3] (fun (v1265 : Bool) h =>
  stillAggK (sizeOfT Try.prog T.api_Tag) h nonce_2 v5 ∧
  opK Try.prog .slice (convert T.sl_uint8 T.sl_uint8 (.slice v1170.a v1170.n v1170.c)) (fun (v1266 : Sl) h =>
  newSlK h 4 #[.slice v1266.a v1266.n v1266.c, .slice v4.a v4.n v4.c, .slice v1069.a v1069.n v1069.c, .slice v1263.a v1263.n v1263.c] T.sl_uint8 (fun (v1267 : Sl) h =>
  callK Try.prog (Kd.pair .agg (.int .i64)) F.commit_some #[.pointer m0, .bool v1265, .agg v5, .slice v1267.a v1267.n v1267.c] (fun (v1268 : Array Value × Int) h =>
  storeAggK (sizeOfT Try.prog T.api_Tag) h v3 v1268.1 (fun h =>
  quietK Try.prog .agg (Instr.loadAt T.api_Tag (.pointer v3)) (fun (r1269 : Array Value) =>
  R (.tuple #[.agg r1269, .int .i64 v1268.2]) h) h)) h)) h) h) ∧
  (opK Try.prog .slice (convert T.sl_uint8 T.sl_uint8 (.slice v1170.a v1170.n v1170.c)) (fun (v1270 : Sl) h =>
  ((callK Try.prog .bool F.commit_bit #[.int .i64 side3] (fun (v1271 : Bool) h =>
  stillAggK (sizeOfT Try.prog T.api_Tag) h nonce_2 v5 ∧
  newSlK h 4 #[.slice v1270.a v1270.n v1270.c, .slice v4.a v4.n v4.c, .slice v1069.a v1069.n v1069.c, .slice v1263.a v1263.n v1263.c] T.sl_uint8 (fun (v1272 : Sl) h =>
  callK Try.prog (Kd.pair .agg (.int .i64)) F.commit_some #[.pointer m0, .bool v1271, .agg v5, .slice v1272.a v1272.n v1272.c] (fun (v1273 : Array Value × Int) h =>
  storeAggK (sizeOfT Try.prog T.api_Tag) h v3 v1273.1 (fun h =>
  quietK Try.prog .agg (Instr.loadAt T.api_Tag (.pointer v3)) (fun (r1274 : Array Value) =>
  R (.tuple #[.agg r1274, .int .i64 v1273.2]) h) h)) h)) h) ∧
  (newSlK h 4 #[.slice v1270.a v1270.n v1270.c, .slice v4.a v4.n v4.c, .slice v1069.a v1069.n v1069.c, .slice v1263.a v1263.n v1263.c] T.sl_uint8 (fun (v1275 : Sl) h =>
  callK Try.prog .bool F.commit_bit #[.int .i64 side3] (fun (v1276 : Bool) h =>
  stillAggK (sizeOfT Try.prog T.api_Tag) h nonce_2 v5 ∧
  callK Try.prog (Kd.pair .agg (.int .i64)) F.commit_some #[.pointer m0, .bool v1276, .agg v5, .slice v1275.a v1275.n v1275.c] (fun (v1277 : Array Value × Int) h =>
  storeAggK (sizeOfT Try.prog T.api_Tag) h v3 v1277.1 (fun h =>
  quietK Try.prog .agg (Instr.loadAt T.api_Tag (.pointer v3)) (fun (r1278 : Array Value) =>
  R (.tuple #[.agg r1278, .int .i64 v1277.2]) h) h)) h) h)))) h))
  else
  opK Try.prog .slice (convert T.sl_uint8 T.sl_uint8 (.slice v1170.a v1170.n v1170.c)) (fun (v1279 : Sl) h =>
  newSlK h 4 #[.slice v1279.a v1279.n v1279.c, .slice v4.a v4.n v4.c, .slice v1069.a v1069.n v1069.c, .slice v1263.a v1263.n v1263.c] T.sl_uint8 (fun (v1280 : Sl) h =>
  callK Try.prog (Kd.pair .agg (.int .i64)) F.commit_some #[.pointer m0, .bool false, .agg v5, .slice v1280.a v1280.n v1280.c] (fun (v1281 : Array Value × Int) h =>
  storeAggK (sizeOfT Try.prog T.api_Tag) h v3 v1281.1 (fun h =>
  quietK Try.prog .agg (Instr.loadAt T.api_Tag (.pointer v3)) (fun (r1282 : Array Value) =>
  R (.tuple #[.agg r1282, .int .i64 v1281.2]) h) h)) h)) h) h) ∧
  (opK Try.prog .slice (convert T.sl_uint8 T.sl_uint8 (.slice v1170.a v1170.n v1170.c)) (fun (v1283 : Sl) h =>
  ((callK Try.prog .bool F.commit_bit #[.int .i64 player2] (fun (v1284 : Bool) h =>
  stillAggK (sizeOfT Try.prog T.api_Tag) h nonce_2 v5 ∧
  if v1284 = true then
  ((callK Try.prog .bool F.commit_bit #[.int .i64 side3] (fun (v1285 : Bool) h =>
  stillAggK (sizeOfT Try.prog T.api_Tag) h nonce_2 v5 ∧
  newSlK h 4 #[.slice v1283.a v1283.n v1283.c, .slice v4.a v4.n v4.c, .slice v1069.a v1069.n v1069.c, .slice v1263.a v1263.n v1263.c] T.sl_uint8 (fun (v1286 : Sl) h =>
  callK Try.prog (Kd.pair .agg (.int .i64)) F.commit_some #[.pointer m0, .bool v1285, .agg v5, .slice v1286.a v1286.n v1286.c] (fun (v1287 : Array Value × Int) h =>
  storeAggK (sizeOfT Try.prog T.api_Tag) h v3 v1287.1 (fun h =>
  quietK Try.prog .agg (Instr.loadAt T.api_Tag (.pointer v3)) (fun (r1288 : Array Value) =>
  R (.tuple #[.agg r1288, .int .i64 v1287.2]) h) h)) h)) h) ∧
  (newSlK h 4 #[.slice v1283.a v1283.n v1283.c, .slice v4.a v4.n v4.c, .slice v1069.a v1069.n v1069.c, .slice v1263.a v1263.n v1263.c] T.sl_uint8 (fun (v1289 : Sl) h =>
  callK Try.prog .bool F.commit_bit #[.int .i64 side3] (fun (v1290 : Bool) h =>
  stillAggK (sizeOfT Try.prog T.api_Tag) h nonce_2 v5 ∧
  callK Try.prog (Kd.pair .agg (.int .i64)) F.commit_some #[.pointer m0, .bool v1290, .agg v5, .slice v1289.a v1289.n v1289.c] (fun (v1291 : Array Value × Int) h =>
  storeAggK (sizeOfT Try.prog T.api_Tag) h v3 v1291.1 (fun h =>
  quietK Try.prog .agg (Instr.loadAt T.api_Tag (.pointer v3)) (fun (r1292 : Array Value) =>
  R (.tuple #[.agg r1292, .int .i64 v1291.2]) h) h)) h) h)))
  else
  newSlK h 4 #[.slice v1283.a v1283.n v1283.c, .slice v4.a v4.n v4.c, .slice v1069.a v1069.n v1069.c, .slice v1263.a v1263.n v1263.c] T.sl_uint8 (fun (v1293 : Sl) h =>
  callK Try.prog (Kd.pair .agg (.int .i64)) F.commit_some #[.pointer m0, .bool false, .agg v5, .slice v1293.a v1293.n v1293.c] (fun (v1294 : Array Value × Int) h =>
  storeAggK (sizeOfT Try.prog T.api_Tag) h v3 v1294.1 (fun h =>
  quietK Try.prog .agg (Instr.loadAt T.api_Tag (.pointer v3)) (fun (r1295 : Array Value) =>
  R (.tuple #[.agg r1295, .int .i64 v1294.2]) h) h)) h)) h) ∧
  (newSlK h 4 #[.slice v1283.a v1283.n v1283.c, .slice v4.a v4.n v4.c, .slice v1069.a v1069.n v1069.c, .slice v1263.a v1263.n v1263.c] T.sl_uint8 (fun (v1296 : Sl) h =>
  callK Try.prog .bool F.commit_bit #[.int .i64 player2] (fun (v1297 : Bool) h =>
  stillAggK (sizeOfT Try.prog T.api_Tag) h nonce_2 v5 ∧
  if v1297 = true then
  callK Try.prog .bool F.commit_bit #[.int .i64 side3] (fun (v1298 : Bool) h =>
  stillAggK (sizeOfT Try.prog T.api_Tag) h nonce_2 v5 ∧
  callK Try.prog (Kd.pair .agg (.int .i64)) F.commit_some #[.pointer m0, .bool v1298, .agg v5, .slice v1296.a v1296.n v1296.c] (fun (v1299 : Array Value × Int) h =>
  storeAggK (sizeOfT Try.prog T.api_Tag) h v3 v1299.1 (fun h =>
  quietK Try.prog .agg (Instr.loadAt T.api_Tag (.pointer v3)) (fun (r1300 : Array Value) =>
  R (.tuple #[.agg r1300, .int .i64 v1299.2]) h) h)) h) h
  else
  callK Try.prog (Kd.pair .agg (.int .i64)) F.commit_some #[.pointer m0, .bool false, .agg v5, .slice v1296.a v1296.n v1296.c] (fun (v1301 : Array Value × Int) h =>
  storeAggK (sizeOfT Try.prog T.api_Tag) h v3 v1301.1 (fun h =>
  quietK Try.prog .agg (Instr.loadAt T.api_Tag (.pointer v3)) (fun (r1302 : Array Value) =>
  R (.tuple #[.agg r1302, .int .i64 v1301.2]) h) h)) h) h)))) h))))))))) ∧
  (newSlK h 1 #[(.int .u8 (IntKind.u8.wrap side3))] T.uint8 (fun (v1303 : Sl) h =>
  ((callK Try.prog .bool F.commit_bit #[.int .i64 player2] (fun (v1304 : Bool) h =>
  stillAggK (sizeOfT Try.prog T.api_Tag) h nonce_2 v5 ∧
  if v1304 = true then
  ((callK Try.prog .bool F.commit_bit #[.int .i64 side3] (fun (v1305 : Bool) h =>
  stillAggK (sizeOfT Try.prog T.api_Tag) h nonce_2 v5 ∧
  newSlK h 4 #[.int .u8 99, .int .u8 111, .int .u8 105, .int .u8 110] T.uint8 (fun (v1306 : Sl) h =>
  opK Try.prog .slice (convert T.sl_uint8 T.sl_uint8 (.slice v1306.a v1306.n v1306.c)) (fun (v1307 : Sl) h =>
  newSlK h 4 #[.slice v1307.a v1307.n v1307.c, .slice v4.a v4.n v4.c, .slice v1069.a v1069.n v1069.c, .slice v1303.a v1303.n v1303.c] T.sl_uint8 (fun (v1308 : Sl) h =>
  callK Try.prog (Kd.pair .agg (.int .i64)) F.commit_some #[.pointer m0, .bool v1305, .agg v5, .slice v1308.a v1308.n v1308.c] (fun (v1309 : Array Value × Int) h =>
  storeAggK (sizeOfT Try.prog T.api_Tag) h v3 v1309.1 (fun h =>
  quietK Try.prog .agg (Instr.loadAt T.api_Tag (.pointer v3)) (fun (r1310 : Array Value) =>
  R (.tuple #[.agg r1310, .int .i64 v1309.2]) h) h)) h)) h)) h) ∧
  (newSlK h 4 #[.int .u8 99, .int .u8 111, .int .u8 105, .int .u8 110] T.uint8 (fun (v1311 : Sl) h =>
  ((callK Try.prog .bool F.commit_bit #[.int .i64 side3] (fun (v1312 : Bool) h =>
  stillAggK (sizeOfT Try.prog T.api_Tag) h nonce_2 v5 ∧
  opK Try.prog .slice (convert T.sl_uint8 T.sl_uint8 (.slice v1311.a v1311.n v1311.c)) (fun (v1313 : Sl) h =>
  newSlK h 4 #[.slice v1313.a v1313.n v1313.c, .slice v4.a v4.n v4.c, .slice v1069.a v1069.n v1069.c, .slice v1303.a v1303.n v1303.c] T.sl_uint8 (fun (v1314 : Sl) h =>
  callK Try.prog (Kd.pair .agg (.int .i64)) F.commit_some #[.pointer m0, .bool v1312, .agg v5, .slice v1314.a v1314.n v1314.c] (fun (v1315 : Array Value × Int) h =>
  storeAggK (sizeOfT Try.prog T.api_Tag) h v3 v1315.1 (fun h =>
  quietK Try.prog .agg (Instr.loadAt T.api_Tag (.pointer v3)) (fun (r1316 : Array Value) =>
  R (.tuple #[.agg r1316, .int .i64 v1315.2]) h) h)) h)) h) h) ∧
  (opK Try.prog .slice (convert T.sl_uint8 T.sl_uint8 (.slice v1311.a v1311.n v1311.c)) (fun (v1317 : Sl) h =>
  ((callK Try.prog .bool F.commit_bit #[.int .i64 side3] (fun (v1318 : Bool) h =>
  stillAggK (sizeOfT Try.prog T.api_Tag) h nonce_2 v5 ∧
  newSlK h 4 #[.slice v1317.a v1317.n v1317.c, .slice v4.a v4.n v4.c, .slice v1069.a v1069.n v1069.c, .slice v1303.a v1303.n v1303.c] T.sl_uint8 (fun (v1319 : Sl) h =>
  callK Try.prog (Kd.pair .agg (.int .i64)) F.commit_some #[.pointer m0, .bool v1318, .agg v5, .slice v1319.a v1319.n v1319.c] (fun (v1320 : Array Value × Int) h =>
  storeAggK (sizeOfT Try.prog T.api_Tag) h v3 v1320.1 (fun h =>
  quietK Try.prog .agg (Instr.loadAt T.api_Tag (.pointer v3)) (fun (r1321 : Array Value) =>
  R (.tuple #[.agg r1321, .int .i64 v1320.2]) h) h)) h)) h) ∧
  (newSlK h 4 #[.slice v1317.a v1317.n v1317.c, .slice v4.a v4.n v4.c, .slice v1069.a v1069.n v1069.c, .slice v1303.a v1303.n v1303.c] T.sl_uint8 (fun (v1322 : Sl) h =>
  callK Try.prog .bool F.commit_bit #[.int .i64 side3] (fun (v1323 : Bool) h =>
  stillAggK (sizeOfT Try.prog T.api_Tag) h nonce_2 v5 ∧
  callK Try.prog (Kd.pair .agg (.int .i64)) F.commit_some #[.pointer m0, .bool v1323, .agg v5, .slice v1322.a v1322.n v1322.c] (fun (v1324 : Array Value × Int) h =>
  storeAggK (sizeOfT Try.prog T.api_Tag) h v3 v1324.1 (fun h =>
  quietK Try.prog .agg (Instr.loadAt T.api_Tag (.pointer v3)) (fun (r1325 : Array Value) =>
  R (.tuple #[.agg r1325, .int .i64 v1324.2]) h) h)) h) h)))) h)))))
  else
  newSlK h 4 #[.int .u8 99, .int .u8 111, .int .u8 105, .int .u8 110] T.uint8 (fun (v1326 : Sl) h =>
  opK Try.prog .slice (convert T.sl_uint8 T.sl_uint8 (.slice v1326.a v1326.n v1326.c)) (fun (v1327 : Sl) h =>
  newSlK h 4 #[.slice v1327.a v1327.n v1327.c, .slice v4.a v4.n v4.c, .slice v1069.a v1069.n v1069.c, .slice v1303.a v1303.n v1303.c] T.sl_uint8 (fun (v1328 : Sl) h =>
  callK Try.prog (Kd.pair .agg (.int .i64)) F.commit_some #[.pointer m0, .bool false, .agg v5, .slice v1328.a v1328.n v1328.c] (fun (v1329 : Array Value × Int) h =>
  storeAggK (sizeOfT Try.prog T.api_Tag) h v3 v1329.1 (fun h =>
  quietK Try.prog .agg (Instr.loadAt T.api_Tag (.pointer v3)) (fun (r1330 : Array Value) =>
  R (.tuple #[.agg r1330, .int .i64 v1329.2]) h) h)) h)) h)) h) ∧
  (newSlK h 4 #[.int .u8 99, .int .u8 111, .int .u8 105, .int .u8 110] T.uint8 (fun (v1331 : Sl) h =>
  ((callK Try.prog .bool F.commit_bit #[.int .i64 player2] (fun (v1332 : Bool) h =>
  stillAggK (sizeOfT Try.prog T.api_Tag) h nonce_2 v5 ∧
  if v1332 = true then
  ((callK Try.prog .bool F.commit_bit #[.int .i64 side3] (fun (v1333 : Bool) h =>
  stillAggK (sizeOfT Try.prog T.api_Tag) h nonce_2 v5 ∧
  opK Try.prog .slice (convert T.sl_uint8 T.sl_uint8 (.slice v1331.a v1331.n v1331.c)) (fun (v1334 : Sl) h =>
  newSlK h 4 #[.slice v1334.a v1334.n v1334.c, .slice v4.a v4.n v4.c, .slice v1069.a v1069.n v1069.c, .slice v1303.a v1303.n v1303.c] T.sl_uint8 (fun (v1335 : Sl) h =>
  callK Try.prog (Kd.pair .agg (.int .i64)) F.commit_some #[.pointer m0, .bool v1333, .agg v5, .slice v1335.a v1335.n v1335.c] (fun (v1336 : Array Value × Int) h =>
  storeAggK (sizeOfT Try.prog T.api_Tag) h v3 v1336.1 (fun h =>
  quietK Try.prog .agg (Instr.loadAt T.api_Tag (.pointer v3)) (fun (r1337 : Array Value) =>
  R (.tuple #[.agg r1337, .int .i64 v1336.2]) h) h)) h)) h) h) ∧
  (opK Try.prog .slice (convert T.sl_uint8 T.sl_uint8 (.slice v1331.a v1331.n v1331.c)) (fun (v1338 : Sl) h =>
  ((callK Try.prog .bool F.commit_bit #[.int .i64 side3] (fun (v1339 : Bool) h =>
  stillAggK (sizeOfT Try.prog T.api_Tag) h nonce_2 v5 ∧
  newSlK h 4 #[.slice v1338.a v1338.n v1338.c, .slice v4.a v4.n v4.c, .slice v1069.a v1069.n v1069.c, .slice v1303.a v1303.n v1303.c] T.sl_uint8 (fun (v1340 : Sl) h =>
  callK Try.prog (Kd.pair .agg (.int .i64)) F.commit_some #[.pointer m0, .bool v1339, .agg v5, .slice v1340.a v1340.n v1340.c] (fun (v1341 : Array Value × Int) h =>
  storeAggK (sizeOfT Try.prog T.api_Tag) h v3 v1341.1 (fun h =>
  quietK Try.prog .agg (Instr.loadAt T.api_Tag (.pointer v3)) (fun (r1342 : Array Value) =>
  R (.tuple #[.agg r1342, .int .i64 v1341.2]) h) h)) h)) h) ∧
  (newSlK h 4 #[.slice v1338.a v1338.n v1338.c, .slice v4.a v4.n v4.c, .slice v1069.a v1069.n v1069.c, .slice v1303.a v1303.n v1303.c] T.sl_uint8 (fun (v1343 : Sl) h =>
  callK Try.prog .bool F.commit_bit #[.int .i64 side3] (fun (v1344 : Bool) h =>
  stillAggK (sizeOfT Try.prog T.api_Tag) h nonce_2 v5 ∧
  callK Try.prog (Kd.pair .agg (.int .i64)) F.commit_some #[.pointer m0, .bool v1344, .agg v5, .slice v1343.a v1343.n v1343.c] (fun (v1345 : Array Value × Int) h =>
  storeAggK (sizeOfT Try.prog T.api_Tag) h v3 v1345.1 (fun h =>
  quietK Try.prog .agg (Instr.loadAt T.api_Tag (.pointer v3)) (fun (r1346 : Array Value) =>
  R (.tuple #[.agg r1346, .int .i64 v1345.2]) h) h)) h) h)))) h))
  else
  opK Try.prog .slice (convert T.sl_uint8 T.sl_uint8 (.slice v1331.a v1331.n v1331.c)) (fun (v1347 : Sl) h =>
  newSlK h 4 #[.slice v1347.a v1347.n v1347.c, .slice v4.a v4.n v4.c, .slice v1069.a v1069.n v1069.c, .slice v1303.a v1303.n v1303.c] T.sl_uint8 (fun (v1348 : Sl) h =>
  callK Try.prog (Kd.pair .agg (.int .i64)) F.commit_some #[.pointer m0, .bool false, .agg v5, .slice v1348.a v1348.n v1348.c] (fun (v1349 : Array Value × Int) h =>
  storeAggK (sizeOfT Try.prog T.api_Tag) h v3 v1349.1 (fun h =>
  quietK Try.prog .agg (Instr.loadAt T.api_Tag (.pointer v3)) (fun (r1350 : Array Value) =>
  R (.tuple #[.agg r1350, .int .i64 v1349.2]) h) h)) h)) h) h) ∧
  (opK Try.prog .slice (convert T.sl_uint8 T.sl_uint8 (.slice v1331.a v1331.n v1331.c)) (fun (v1351 : Sl) h =>
  ((callK Try.prog .bool F.commit_bit #[.int .i64 player2] (fun (v1352 : Bool) h =>
  stillAggK (sizeOfT Try.prog T.api_Tag) h nonce_2 v5 ∧
  if v1352 = true then
  ((callK Try.prog .bool F.commit_bit #[.int .i64 side3] (fun (v1353 : Bool) h =>
  stillAggK (sizeOfT Try.prog T.api_Tag) h nonce_2 v5 ∧
  newSlK h 4 #[.slice v1351.a v1351.n v1351.c, .slice v4.a v4.n v4.c, .slice v1069.a v1069.n v1069.c, .slice v1303.a v1303.n v1303.c] T.sl_uint8 (fun (v1354 : Sl) h =>
  callK Try.prog (Kd.pair .agg (.int .i64)) F.commit_some #[.pointer m0, .bool v1353, .agg v5, .slice v1354.a v1354.n v1354.c] (fun (v1355 : Array Value × Int) h =>
  storeAggK (sizeOfT Try.prog T.api_Tag) h v3 v1355.1 (fun h =>
  quietK Try.prog .agg (Instr.loadAt T.api_Tag (.pointer v3)) (fun (r1356 : Array Value) =>
  R (.tuple #[.agg r1356, .int .i64 v1355.2]) h) h)) h)) h) ∧
  (newSlK h 4 #[.slice v1351.a v1351.n v1351.c, .slice v4.a v4.n v4.c, .slice v1069.a v1069.n v1069.c, .slice v1303.a v1303.n v1303.c] T.sl_uint8 (fun (v1357 : Sl) h =>
  callK Try.prog .bool F.commit_bit #[.int .i64 side3] (fun (v1358 : Bool) h =>
  stillAggK (sizeOfT Try.prog T.api_Tag) h nonce_2 v5 ∧
  callK Try.prog (Kd.pair .agg (.int .i64)) F.commit_some #[.pointer m0, .bool v1358, .agg v5, .slice v1357.a v1357.n v1357.c] (fun (v1359 : Array Value × Int) h =>
  storeAggK (sizeOfT Try.prog T.api_Tag) h v3 v1359.1 (fun h =>
  quietK Try.prog .agg (Instr.loadAt T.api_Tag (.pointer v3)) (fun (r1360 : Array Value) =>
  R (.tuple #[.agg r1360, .int .i64 v1359.2]) h) h)) h) h)))
  else
  newSlK h 4 #[.slice v1351.a v1351.n v1351.c, .slice v4.a v4.n v4.c, .slice v1069.a v1069.n v1069.c, .slice v1303.a v1303.n v1303.c] T.sl_uint8 (fun (v1361 : Sl) h =>
  callK Try.prog (Kd.pair .agg (.int .i64)) F.commit_some #[.pointer m0, .bool false, .agg v5, .slice v1361.a v1361.n v1361.c] (fun (v1362 : Array Value × Int) h =>
  storeAggK (sizeOfT Try.prog T.api_Tag) h v3 v1362.1 (fun h =>
  quietK Try.prog .agg (Instr.loadAt T.api_Tag (.pointer v3)) (fun (r1363 : Array Value) =>
  R (.tuple #[.agg r1363, .int .i64 v1362.2]) h) h)) h)) h) ∧
  (newSlK h 4 #[.slice v1351.a v1351.n v1351.c, .slice v4.a v4.n v4.c, .slice v1069.a v1069.n v1069.c, .slice v1303.a v1303.n v1303.c] T.sl_uint8 (fun (v1364 : Sl) h =>
  callK Try.prog .bool F.commit_bit #[.int .i64 player2] (fun (v1365 : Bool) h =>
  stillAggK (sizeOfT Try.prog T.api_Tag) h nonce_2 v5 ∧
  if v1365 = true then
  callK Try.prog .bool F.commit_bit #[.int .i64 side3] (fun (v1366 : Bool) h =>
  stillAggK (sizeOfT Try.prog T.api_Tag) h nonce_2 v5 ∧
  callK Try.prog (Kd.pair .agg (.int .i64)) F.commit_some #[.pointer m0, .bool v1366, .agg v5, .slice v1364.a v1364.n v1364.c] (fun (v1367 : Array Value × Int) h =>
  storeAggK (sizeOfT Try.prog T.api_Tag) h v3 v1367.1 (fun h =>
  quietK Try.prog .agg (Instr.loadAt T.api_Tag (.pointer v3)) (fun (r1368 : Array Value) =>
  R (.tuple #[.agg r1368, .int .i64 v1367.2]) h) h)) h) h
  else
  callK Try.prog (Kd.pair .agg (.int .i64)) F.commit_some #[.pointer m0, .bool false, .agg v5, .slice v1364.a v1364.n v1364.c] (fun (v1369 : Array Value × Int) h =>
  storeAggK (sizeOfT Try.prog T.api_Tag) h v3 v1369.1 (fun h =>
  quietK Try.prog .agg (Instr.loadAt T.api_Tag (.pointer v3)) (fun (r1370 : Array Value) =>
  R (.tuple #[.agg r1370, .int .i64 v1369.2]) h) h)) h) h)))) h)))))))))))) ∧
  (newSlK h 1 #[(.int .u8 (IntKind.u8.wrap side3))] T.uint8 (fun (v1371 : Sl) h =>
  ((callK Try.prog .bool F.commit_bit #[.int .i64 player2] (fun (v1372 : Bool) h =>
  stillAggK (sizeOfT Try.prog T.api_Tag) h nonce_2 v5 ∧
  if v1372 = true then
  ((callK Try.prog .bool F.commit_bit #[.int .i64 side3] (fun (v1373 : Bool) h =>
  stillAggK (sizeOfT Try.prog T.api_Tag) h nonce_2 v5 ∧
  ((newSlK h 4 #[.int .u8 99, .int .u8 111, .int .u8 105, .int .u8 110] T.uint8 (fun (v1374 : Sl) h =>
  ((opK Try.prog .slice (convert T.sl_uint8 T.sl_uint8 (.slice v1374.a v1374.n v1374.c)) (fun (v1375 : Sl) h =>
  newSlK h 1 #[(.int .u8 (IntKind.u8.wrap player2))] T.uint8 (fun (v1376 : Sl) h =>
  newSlK h 4 #[.slice v1375.a v1375.n v1375.c, .slice v4.a v4.n v4.c, .slice v1376.a v1376.n v1376.c, .slice v1371.a v1371.n v1371.c] T.sl_uint8 (fun (v1377 : Sl) h =>
  callK Try.prog (Kd.pair .agg (.int .i64)) F.commit_some #[.pointer m0, .bool v1373, .agg v5, .slice v1377.a v1377.n v1377.c] (fun (v1378 : Array Value × Int) h =>
  storeAggK (sizeOfT Try.prog T.api_Tag) h v3 v1378.1 (fun h =>
  quietK Try.prog .agg (Instr.loadAt T.api_Tag (.pointer v3)) (fun (r1379 : Array Value) =>
  R (.tuple #[.agg r1379, .int .i64 v1378.2]) h) h)) h))) h) ∧
  (newSlK h 1 #[(.int .u8 (IntKind.u8.wrap player2))] T.uint8 (fun (v1380 : Sl) h =>
  opK Try.prog .slice (convert T.sl_uint8 T.sl_uint8 (.slice v1374.a v1374.n v1374.c)) (fun (v1381 : Sl) h =>
  newSlK h 4 #[.slice v1381.a v1381.n v1381.c, .slice v4.a v4.n v4.c, .slice v1380.a v1380.n v1380.c, .slice v1371.a v1371.n v1371.c] T.sl_uint8 (fun (v1382 : Sl) h =>
  callK Try.prog (Kd.pair .agg (.int .i64)) F.commit_some #[.pointer m0, .bool v1373, .agg v5, .slice v1382.a v1382.n v1382.c] (fun (v1383 : Array Value × Int) h =>
  storeAggK (sizeOfT Try.prog T.api_Tag) h v3 v1383.1 (fun h =>
  quietK Try.prog .agg (Instr.loadAt T.api_Tag (.pointer v3)) (fun (r1384 : Array Value) =>
  R (.tuple #[.agg r1384, .int .i64 v1383.2]) h) h)) h)) h))))) ∧
  (newSlK h 1 #[(.int .u8 (IntKind.u8.wrap player2))] T.uint8 (fun (v1385 : Sl) h =>
  newSlK h 4 #[.int .u8 99, .int .u8 111, .int .u8 105, .int .u8 110] T.uint8 (fun (v1386 : Sl) h =>
  opK Try.prog .slice (convert T.sl_uint8 T.sl_uint8 (.slice v1386.a v1386.n v1386.c)) (fun (v1387 : Sl) h =>
  newSlK h 4 #[.slice v1387.a v1387.n v1387.c, .slice v4.a v4.n v4.c, .slice v1385.a v1385.n v1385.c, .slice v1371.a v1371.n v1371.c] T.sl_uint8 (fun (v1388 : Sl) h =>
  callK Try.prog (Kd.pair .agg (.int .i64)) F.commit_some #[.pointer m0, .bool v1373, .agg v5, .slice v1388.a v1388.n v1388.c] (fun (v1389 : Array Value × Int) h =>
  storeAggK (sizeOfT Try.prog T.api_Tag) h v3 v1389.1 (fun h =>
  quietK Try.prog .agg (Instr.loadAt T.api_Tag (.pointer v3)) (fun (r1390 : Array Value) =>
  R (.tuple #[.agg r1390, .int .i64 v1389.2]) h) h)) h)) h))))) h) ∧
  (((newSlK h 4 #[.int .u8 99, .int .u8 111, .int .u8 105, .int .u8 110] T.uint8 (fun (v1391 : Sl) h =>
  ((callK Try.prog .bool F.commit_bit #[.int .i64 side3] (fun (v1392 : Bool) h =>
  stillAggK (sizeOfT Try.prog T.api_Tag) h nonce_2 v5 ∧
  ((opK Try.prog .slice (convert T.sl_uint8 T.sl_uint8 (.slice v1391.a v1391.n v1391.c)) (fun (v1393 : Sl) h =>
  newSlK h 1 #[(.int .u8 (IntKind.u8.wrap player2))] T.uint8 (fun (v1394 : Sl) h =>
  newSlK h 4 #[.slice v1393.a v1393.n v1393.c, .slice v4.a v4.n v4.c, .slice v1394.a v1394.n v1394.c, .slice v1371.a v1371.n v1371.c] T.sl_uint8 (fun (v1395 : Sl) h =>
  callK Try.prog (Kd.pair .agg (.int .i64)) F.commit_some #[.pointer m0, .bool v1392, .agg v5, .slice v1395.a v1395.n v1395.c] (fun (v1396 : Array Value × Int) h =>
  storeAggK (sizeOfT Try.prog T.api_Tag) h v3 v1396.1 (fun h =>
  quietK Try.prog .agg (Instr.loadAt T.api_Tag (.pointer v3)) (fun (r1397 : Array Value) =>
  R (.tuple #[.agg r1397, .int .i64 v1396.2]) h) h)) h))) h) ∧
  (newSlK h 1 #[(.int .u8 (IntKind.u8.wrap player2))] T.uint8 (fun (v1398 : Sl) h =>
  opK Try.prog .slice (convert T.sl_uint8 T.sl_uint8 (.slice v1391.a v1391.n v1391.c)) (fun (v1399 : Sl) h =>
  newSlK h 4 #[.slice v1399.a v1399.n v1399.c, .slice v4.a v4.n v4.c, .slice v1398.a v1398.n v1398.c, .slice v1371.a v1371.n v1371.c] T.sl_uint8 (fun (v1400 : Sl) h =>
  callK Try.prog (Kd.pair .agg (.int .i64)) F.commit_some #[.pointer m0, .bool v1392, .agg v5, .slice v1400.a v1400.n v1400.c] (fun (v1401 : Array Value × Int) h =>
  storeAggK (sizeOfT Try.prog T.api_Tag) h v3 v1401.1 (fun h =>
  quietK Try.prog .agg (Instr.loadAt T.api_Tag (.pointer v3)) (fun (r1402 : Array Value) =>
  R (.tuple #[.agg r1402, .int .i64 v1401.2]) h) h)) h)) h)))) h) ∧
  (((opK Try.prog .slice (convert T.sl_uint8 T.sl_uint8 (.slice v1391.a v1391.n v1391.c)) (fun (v1403 : Sl) h =>
  ((callK Try.prog .bool F.commit_bit #[.int .i64 side3] (fun (v1404 : Bool) h =>
  stillAggK (sizeOfT Try.prog T.api_Tag) h nonce_2 v5 ∧
  newSlK h 1 #[(.int .u8 (IntKind.u8.wrap player2))] T.uint8 (fun (v1405 : Sl) h =>
  newSlK h 4 #[.slice v1403.a v1403.n v1403.c, .slice v4.a v4.n v4.c, .slice v1405.a v1405.n v1405.c, .slice v1371.a v1371.n v1371.c] T.sl_uint8 (fun (v1406 : Sl) h =>
  callK Try.prog (Kd.pair .agg (.int .i64)) F.commit_some #[.pointer m0, .bool v1404, .agg v5, .slice v1406.a v1406.n v1406.c] (fun (v1407 : Array Value × Int) h =>
  storeAggK (sizeOfT Try.prog T.api_Tag) h v3 v1407.1 (fun h =>
  quietK Try.prog .agg (Instr.loadAt T.api_Tag (.pointer v3)) (fun (r1408 : Array Value) =>
  R (.tuple #[.agg r1408, .int .i64 v1407.2]) h) h)) h))) h) ∧
  (newSlK h 1 #[(.int .u8 (IntKind.u8.wrap player2))] T.uint8 (fun (v1409 : Sl) h =>
  ((callK Try.prog .bool F.commit_bit #[.int .i64 side3] (fun (v1410 : Bool) h =>
  stillAggK (sizeOfT Try.prog T.api_Tag) h nonce_2 v5 ∧
  newSlK h 4 #[.slice v1403.a v1403.n v1403.c, .slice v4.a v4.n v4.c, .slice v1409.a v1409.n v1409.c, .slice v1371.a v1371.n v1371.c] T.sl_uint8 (fun (v1411 : Sl) h =>
  callK Try.prog (Kd.pair .agg (.int .i64)) F.commit_some #[.pointer m0, .bool v1410, .agg v5, .slice v1411.a v1411.n v1411.c] (fun (v1412 : Array Value × Int) h =>
  storeAggK (sizeOfT Try.prog T.api_Tag) h v3 v1412.1 (fun h =>
  quietK Try.prog .agg (Instr.loadAt T.api_Tag (.pointer v3)) (fun (r1413 : Array Value) =>
  R (.tuple #[.agg r1413, .int .i64 v1412.2]) h) h)) h)) h) ∧
  (newSlK h 4 #[.slice v1403.a v1403.n v1403.c, .slice v4.a v4.n v4.c, .slice v1409.a v1409.n v1409.c, .slice v1371.a v1371.n v1371.c] T.sl_uint8 (fun (v1414 : Sl) h =>
  callK Try.prog .bool F.commit_bit #[.int .i64 side3] (fun (v1415 : Bool) h =>
  stillAggK (sizeOfT Try.prog T.api_Tag) h nonce_2 v5 ∧
  callK Try.prog (Kd.pair .agg (.int .i64)) F.commit_some #[.pointer m0, .bool v1415, .agg v5, .slice v1414.a v1414.n v1414.c] (fun (v1416 : Array Value × Int) h =>
  storeAggK (sizeOfT Try.prog T.api_Tag) h v3 v1416.1 (fun h =>
  quietK Try.prog .agg (Instr.loadAt T.api_Tag (.pointer v3)) (fun (r1417 : Array Value) =>
  R (.tuple #[.agg r1417, .int .i64 v1416.2]) h) h)) h) h))))))) h) ∧
  (newSlK h 1 #[(.int .u8 (IntKind.u8.wrap player2))] T.uint8 (fun (v1418 : Sl) h =>
  ((callK Try.prog .bool F.commit_bit #[.int .i64 side3] (fun (v1419 : Bool) h =>
  stillAggK (sizeOfT Try.prog T.api_Tag) h nonce_2 v5 ∧
  opK Try.prog .slice (convert T.sl_uint8 T.sl_uint8 (.slice v1391.a v1391.n v1391.c)) (fun (v1420 : Sl) h =>
  newSlK h 4 #[.slice v1420.a v1420.n v1420.c, .slice v4.a v4.n v4.c, .slice v1418.a v1418.n v1418.c, .slice v1371.a v1371.n v1371.c] T.sl_uint8 (fun (v1421 : Sl) h =>
  callK Try.prog (Kd.pair .agg (.int .i64)) F.commit_some #[.pointer m0, .bool v1419, .agg v5, .slice v1421.a v1421.n v1421.c] (fun (v1422 : Array Value × Int) h =>
  storeAggK (sizeOfT Try.prog T.api_Tag) h v3 v1422.1 (fun h =>
  quietK Try.prog .agg (Instr.loadAt T.api_Tag (.pointer v3)) (fun (r1423 : Array Value) =>
  R (.tuple #[.agg r1423, .int .i64 v1422.2]) h) h)) h)) h) h) ∧
  (opK Try.prog .slice (convert T.sl_uint8 T.sl_uint8 (.slice v1391.a v1391.n v1391.c)) (fun (v1424 : Sl) h =>
  ((callK Try.prog .bool F.commit_bit #[.int .i64 side3] (fun (v1425 : Bool) h =>
  stillAggK (sizeOfT Try.prog T.api_Tag) h nonce_2 v5 ∧
  newSlK h 4 #[.slice v1424.a v1424.n v1424.c, .slice v4.a v4.n v4.c, .slice v1418.a v1418.n v1418.c, .slice v1371.a v1371.n v1371.c] T.sl_uint8 (fun (v1426 : Sl) h =>
  callK Try.prog (Kd.pair .agg (.int .i64)) F.commit_some #[.pointer m0, .bool v1425, .agg v5, .slice v1426.a v1426.n v1426.c] (fun (v1427 : Array Value × Int) h =>
  storeAggK (sizeOfT Try.prog T.api_Tag) h v3 v1427.1 (fun h =>
  quietK Try.prog .agg (Instr.loadAt T.api_Tag (.pointer v3)) (fun (r1428 : Array Value) =>
  R (.tuple #[.agg r1428, .int .i64 v1427.2]) h) h)) h)) h) ∧
  (newSlK h 4 #[.slice v1424.a v1424.n v1424.c, .slice v4.a v4.n v4.c, .slice v1418.a v1418.n v1418.c, .slice v1371.a v1371.n v1371.c] T.sl_uint8 (fun (v1429 : Sl) h =>
  callK Try.prog .bool F.commit_bit #[.int .i64 side3] (fun (v1430 : Bool) h =>
  stillAggK (sizeOfT Try.prog T.api_Tag) h nonce_2 v5 ∧
  callK Try.prog (Kd.pair .agg (.int .i64)) F.commit_some #[.pointer m0, .bool v1430, .agg v5, .slice v1429.a v1429.n v1429.c] (fun (v1431 : Array Value × Int) h =>
  storeAggK (sizeOfT Try.prog T.api_Tag) h v3 v1431.1 (fun h =>
  quietK Try.prog .agg (Instr.loadAt T.api_Tag (.pointer v3)) (fun (r1432 : Array Value) =>
  R (.tuple #[.agg r1432, .int .i64 v1431.2]) h) h)) h) h)))) h))))))))) ∧
  (newSlK h 1 #[(.int .u8 (IntKind.u8.wrap player2))] T.uint8 (fun (v1433 : Sl) h =>
  ((callK Try.prog .bool F.commit_bit #[.int .i64 side3] (fun (v1434 : Bool) h =>
  stillAggK (sizeOfT Try.prog T.api_Tag) h nonce_2 v5 ∧
  newSlK h 4 #[.int .u8 99, .int .u8 111, .int .u8 105, .int .u8 110] T.uint8 (fun (v1435 : Sl) h =>
  opK Try.prog .slice (convert T.sl_uint8 T.sl_uint8 (.slice v1435.a v1435.n v1435.c)) (fun (v1436 : Sl) h =>
  newSlK h 4 #[.slice v1436.a v1436.n v1436.c, .slice v4.a v4.n v4.c, .slice v1433.a v1433.n v1433.c, .slice v1371.a v1371.n v1371.c] T.sl_uint8 (fun (v1437 : Sl) h =>
  callK Try.prog (Kd.pair .agg (.int .i64)) F.commit_some #[.pointer m0, .bool v1434, .agg v5, .slice v1437.a v1437.n v1437.c] (fun (v1438 : Array Value × Int) h =>
  storeAggK (sizeOfT Try.prog T.api_Tag) h v3 v1438.1 (fun h =>
  quietK Try.prog .agg (Instr.loadAt T.api_Tag (.pointer v3)) (fun (r1439 : Array Value) =>
  R (.tuple #[.agg r1439, .int .i64 v1438.2]) h) h)) h)) h)) h) ∧
  (newSlK h 4 #[.int .u8 99, .int .u8 111, .int .u8 105, .int .u8 110] T.uint8 (fun (v1440 : Sl) h =>
  ((callK Try.prog .bool F.commit_bit #[.int .i64 side3] (fun (v1441 : Bool) h =>
  stillAggK (sizeOfT Try.prog T.api_Tag) h nonce_2 v5 ∧
  opK Try.prog .slice (convert T.sl_uint8 T.sl_uint8 (.slice v1440.a v1440.n v1440.c)) (fun (v1442 : Sl) h =>
  newSlK h 4 #[.slice v1442.a v1442.n v1442.c, .slice v4.a v4.n v4.c, .slice v1433.a v1433.n v1433.c, .slice v1371.a v1371.n v1371.c] T.sl_uint8 (fun (v1443 : Sl) h =>
  callK Try.prog (Kd.pair .agg (.int .i64)) F.commit_some #[.pointer m0, .bool v1441, .agg v5, .slice v1443.a v1443.n v1443.c] (fun (v1444 : Array Value × Int) h =>
  storeAggK (sizeOfT Try.prog T.api_Tag) h v3 v1444.1 (fun h =>
  quietK Try.prog .agg (Instr.loadAt T.api_Tag (.pointer v3)) (fun (r1445 : Array Value) =>
  R (.tuple #[.agg r1445, .int .i64 v1444.2]) h) h)) h)) h) h) ∧
  (opK Try.prog .slice (convert T.sl_uint8 T.sl_uint8 (.slice v1440.a v1440.n v1440.c)) (fun (v1446 : Sl) h =>
  ((callK Try.prog .bool F.commit_bit #[.int .i64 side3] (fun (v1447 : Bool) h =>
  stillAggK (sizeOfT Try.prog T.api_Tag) h nonce_2 v5 ∧
  newSlK h 4 #[.slice v1446.a v1446.n v1446.c, .slice v4.a v4.n v4.c, .slice v1433.a v1433.n v1433.c, .slice v1371.a v1371.n v1371.c] T.sl_uint8 (fun (v1448 : Sl) h =>
  callK Try.prog (Kd.pair .agg (.int .i64)) F.commit_some #[.pointer m0, .bool v1447, .agg v5, .slice v1448.a v1448.n v1448.c] (fun (v1449 : Array Value × Int) h =>
  storeAggK (sizeOfT Try.prog T.api_Tag) h v3 v1449.1 (fun h =>
  quietK Try.prog .agg (Instr.loadAt T.api_Tag (.pointer v3)) (fun (r1450 : Array Value) =>
  R (.tuple #[.agg r1450, .int .i64 v1449.2]) h) h)) h)) h) ∧
  (newSlK h 4 #[.slice v1446.a v1446.n v1446.c, .slice v4.a v4.n v4.c, .slice v1433.a v1433.n v1433.c, .slice v1371.a v1371.n v1371.c] T.sl_uint8 (fun (v1451 : Sl) h =>
  callK Try.prog .bool F.commit_bit #[.int .i64 side3] (fun (v1452 : Bool) h =>
  stillAggK (sizeOfT Try.prog T.api_Tag) h nonce_2 v5 ∧
  callK Try.prog (Kd.pair .agg (.int .i64)) F.commit_some #[.pointer m0, .bool v1452, .agg v5, .slice v1451.a v1451.n v1451.c] (fun (v1453 : Array Value × Int) h =>
  storeAggK (sizeOfT Try.prog T.api_Tag) h v3 v1453.1 (fun h =>
  quietK Try.prog .agg (Instr.loadAt T.api_Tag (.pointer v3)) (fun (r1454 : Array Value) =>
  R (.tuple #[.agg r1454, .int .i64 v1453.2]) h) h)) h) h)))) h))))))))))
  else
  ((newSlK h 4 #[.int .u8 99, .int .u8 111, .int .u8 105, .int .u8 110] T.uint8 (fun (v1455 : Sl) h =>
  ((opK Try.prog .slice (convert T.sl_uint8 T.sl_uint8 (.slice v1455.a v1455.n v1455.c)) (fun (v1456 : Sl) h =>
  newSlK h 1 #[(.int .u8 (IntKind.u8.wrap player2))] T.uint8 (fun (v1457 : Sl) h =>
  newSlK h 4 #[.slice v1456.a v1456.n v1456.c, .slice v4.a v4.n v4.c, .slice v1457.a v1457.n v1457.c, .slice v1371.a v1371.n v1371.c] T.sl_uint8 (fun (v1458 : Sl) h =>
  callK Try.prog (Kd.pair .agg (.int .i64)) F.commit_some #[.pointer m0, .bool false, .agg v5, .slice v1458.a v1458.n v1458.c] (fun (v1459 : Array Value × Int) h =>
  storeAggK (sizeOfT Try.prog T.api_Tag) h v3 v1459.1 (fun h =>
  quietK Try.prog .agg (Instr.loadAt T.api_Tag (.pointer v3)) (fun (r1460 : Array Value) =>
  R (.tuple #[.agg r1460, .int .i64 v1459.2]) h) h)) h))) h) ∧
  (newSlK h 1 #[(.int .u8 (IntKind.u8.wrap player2))] T.uint8 (fun (v1461 : Sl) h =>
  opK Try.prog .slice (convert T.sl_uint8 T.sl_uint8 (.slice v1455.a v1455.n v1455.c)) (fun (v1462 : Sl) h =>
  newSlK h 4 #[.slice v1462.a v1462.n v1462.c, .slice v4.a v4.n v4.c, .slice v1461.a v1461.n v1461.c, .slice v1371.a v1371.n v1371.c] T.sl_uint8 (fun (v1463 : Sl) h =>
  callK Try.prog (Kd.pair .agg (.int .i64)) F.commit_some #[.pointer m0, .bool false, .agg v5, .slice v1463.a v1463.n v1463.c] (fun (v1464 : Array Value × Int) h =>
  storeAggK (sizeOfT Try.prog T.api_Tag) h v3 v1464.1 (fun h =>
  quietK Try.prog .agg (Instr.loadAt T.api_Tag (.pointer v3)) (fun (r1465 : Array Value) =>
  R (.tuple #[.agg r1465, .int .i64 v1464.2]) h) h)) h)) h))))) ∧
  (newSlK h 1 #[(.int .u8 (IntKind.u8.wrap player2))] T.uint8 (fun (v1466 : Sl) h =>
  newSlK h 4 #[.int .u8 99, .int .u8 111, .int .u8 105, .int .u8 110] T.uint8 (fun (v1467 : Sl) h =>
  opK Try.prog .slice (convert T.sl_uint8 T.sl_uint8 (.slice v1467.a v1467.n v1467.c)) (fun (v1468 : Sl) h =>
  newSlK h 4 #[.slice v1468.a v1468.n v1468.c, .slice v4.a v4.n v4.c, .slice v1466.a v1466.n v1466.c, .slice v1371.a v1371.n v1371.c] T.sl_uint8 (fun (v1469 : Sl) h =>
  callK Try.prog (Kd.pair .agg (.int .i64)) F.commit_some #[.pointer m0, .bool false, .agg v5, .slice v1469.a v1469.n v1469.c] (fun (v1470 : Array Value × Int) h =>
  storeAggK (sizeOfT Try.prog T.api_Tag) h v3 v1470.1 (fun h =>
  quietK Try.prog .agg (Instr.loadAt T.api_Tag (.pointer v3)) (fun (r1471 : Array Value) =>
  R (.tuple #[.agg r1471, .int .i64 v1470.2]) h) h)) h)) h))))) h) ∧
  (((newSlK h 4 #[.int .u8 99, .int .u8 111, .int .u8 105, .int .u8 110] T.uint8 (fun (v1472 : Sl) h =>
  ((callK Try.prog .bool F.commit_bit #[.int .i64 player2] (fun (v1473 : Bool) h =>
  stillAggK (sizeOfT Try.prog T.api_Tag) h nonce_2 v5 ∧
  if v1473 = true then
  ((callK Try.prog .bool F.commit_bit #[.int .i64 side3] (fun (v1474 : Bool) h =>
  stillAggK (sizeOfT Try.prog T.api_Tag) h nonce_2 v5 ∧
  ((opK Try.prog .slice (convert T.sl_uint8 T.sl_uint8 (.slice v1472.a v1472.n v1472.c)) (fun (v1475 : Sl) h =>
  newSlK h 1 #[(.int .u8 (IntKind.u8.wrap player2))] T.uint8 (fun (v1476 : Sl) h =>
  newSlK h 4 #[.slice v1475.a v1475.n v1475.c, .slice v4.a v4.n v4.c, .slice v1476.a v1476.n v1476.c, .slice v1371.a v1371.n v1371.c] T.sl_uint8 (fun (v1477 : Sl) h =>
  callK Try.prog (Kd.pair .agg (.int .i64)) F.commit_some #[.pointer m0, .bool v1474, .agg v5, .slice v1477.a v1477.n v1477.c] (fun (v1478 : Array Value × Int) h =>
  storeAggK (sizeOfT Try.prog T.api_Tag) h v3 v1478.1 (fun h =>
  quietK Try.prog .agg (Instr.loadAt T.api_Tag (.pointer v3)) (fun (r1479 : Array Value) =>
  R (.tuple #[.agg r1479, .int .i64 v1478.2]) h) h)) h))) h) ∧
  (newSlK h 1 #[(.int .u8 (IntKind.u8.wrap player2))] T.uint8 (fun (v1480 : Sl) h =>
  opK Try.prog .slice (convert T.sl_uint8 T.sl_uint8 (.slice v1472.a v1472.n v1472.c)) (fun (v1481 : Sl) h =>
  newSlK h 4 #[.slice v1481.a v1481.n v1481.c, .slice v4.a v4.n v4.c, .slice v1480.a v1480.n v1480.c, .slice v1371.a v1371.n v1371.c] T.sl_uint8 (fun (v1482 : Sl) h =>
  callK Try.prog (Kd.pair .agg (.int .i64)) F.commit_some #[.pointer m0, .bool v1474, .agg v5, .slice v1482.a v1482.n v1482.c] (fun (v1483 : Array Value × Int) h =>
  storeAggK (sizeOfT Try.prog T.api_Tag) h v3 v1483.1 (fun h =>
  quietK Try.prog .agg (Instr.loadAt T.api_Tag (.pointer v3)) (fun (r1484 : Array Value) =>
  R (.tuple #[.agg r1484, .int .i64 v1483.2]) h) h)) h)) h)))) h) ∧
  (((opK Try.prog .slice (convert T.sl_uint8 T.sl_uint8 (.slice v1472.a v1472.n v1472.c)) (fun (v1485 : Sl) h =>
  ((callK Try.prog .bool F.commit_bit #[.int .i64 side3] (fun (v1486 : Bool) h =>
  stillAggK (sizeOfT Try.prog T.api_Tag) h nonce_2 v5 ∧
  newSlK h 1 #[(.int .u8 (IntKind.u8.wrap player2))] T.uint8 (fun (v1487 : Sl) h =>
  newSlK h 4 #[.slice v1485.a v1485.n v1485.c, .slice v4.a v4.n v4.c, .slice v1487.a v1487.n v1487.c, .slice v1371.a v1371.n v1371.c] T.sl_uint8 (fun (v1488 : Sl) h =>
  callK Try.prog (Kd.pair .agg (.int .i64)) F.commit_some #[.pointer m0, .bool v1486, .agg v5, .slice v1488.a v1488.n v1488.c] (fun (v1489 : Array Value × Int) h =>
  storeAggK (sizeOfT Try.prog T.api_Tag) h v3 v1489.1 (fun h =>
  quietK Try.prog .agg (Instr.loadAt T.api_Tag (.pointer v3)) (fun (r1490 : Array Value) =>
  R (.tuple #[.agg r1490, .int .i64 v1489.2]) h) h)) h))) h) ∧
  (newSlK h 1 #[(.int .u8 (IntKind.u8.wrap player2))] T.uint8 (fun (v1491 : Sl) h =>
  ((callK Try.prog .bool F.commit_bit #[.int .i64 side3] (fun (v1492 : Bool) h =>
  stillAggK (sizeOfT Try.prog T.api_Tag) h nonce_2 v5 ∧
  newSlK h 4 #[.slice v1485.a v1485.n v1485.c, .slice v4.a v4.n v4.c, .slice v1491.a v1491.n v1491.c, .slice v1371.a v1371.n v1371.c] T.sl_uint8 (fun (v1493 : Sl) h =>
  callK Try.prog (Kd.pair .agg (.int .i64)) F.commit_some #[.pointer m0, .bool v1492, .agg v5, .slice v1493.a v1493.n v1493.c] (fun (v1494 : Array Value × Int) h =>
  storeAggK (sizeOfT Try.prog T.api_Tag) h v3 v1494.1 (fun h =>
  quietK Try.prog .agg (Instr.loadAt T.api_Tag (.pointer v3)) (fun (r1495 : Array Value) =>
  R (.tuple #[.agg r1495, .int .i64 v1494.2]) h) h)) h)) h) ∧
  (newSlK h 4 #[.slice v1485.a v1485.n v1485.c, .slice v4.a v4.n v4.c, .slice v1491.a v1491.n v1491.c, .slice v1371.a v1371.n v1371.c] T.sl_uint8 (fun (v1496 : Sl) h =>
  callK Try.prog .bool F.commit_bit #[.int .i64 side3] (fun (v1497 : Bool) h =>
  stillAggK (sizeOfT Try.prog T.api_Tag) h nonce_2 v5 ∧
  callK Try.prog (Kd.pair .agg (.int .i64)) F.commit_some #[.pointer m0, .bool v1497, .agg v5, .slice v1496.a v1496.n v1496.c] (fun (v1498 : Array Value × Int) h =>
  storeAggK (sizeOfT Try.prog T.api_Tag) h v3 v1498.1 (fun h =>
  quietK Try.prog .agg (Instr.loadAt T.api_Tag (.pointer v3)) (fun (r1499 : Array Value) =>
  R (.tuple #[.agg r1499, .int .i64 v1498.2]) h) h)) h) h))))))) h) ∧
  (newSlK h 1 #[(.int .u8 (IntKind.u8.wrap player2))] T.uint8 (fun (v1500 : Sl) h =>
  ((callK Try.prog .bool F.commit_bit #[.int .i64 side3] (fun (v1501 : Bool) h =>
  stillAggK (sizeOfT Try.prog T.api_Tag) h nonce_2 v5 ∧
  opK Try.prog .slice (convert T.sl_uint8 T.sl_uint8 (.slice v1472.a v1472.n v1472.c)) (fun (v1502 : Sl) h =>
  newSlK h 4 #[.slice v1502.a v1502.n v1502.c, .slice v4.a v4.n v4.c, .slice v1500.a v1500.n v1500.c, .slice v1371.a v1371.n v1371.c] T.sl_uint8 (fun (v1503 : Sl) h =>
  callK Try.prog (Kd.pair .agg (.int .i64)) F.commit_some #[.pointer m0, .bool v1501, .agg v5, .slice v1503.a v1503.n v1503.c] (fun (v1504 : Array Value × Int) h =>
  storeAggK (sizeOfT Try.prog T.api_Tag) h v3 v1504.1 (fun h =>
  quietK Try.prog .agg (Instr.loadAt T.api_Tag (.pointer v3)) (fun (r1505 : Array Value) =>
  R (.tuple #[.agg r1505, .int .i64 v1504.2]) h) h)) h)) h) h) ∧
  (opK Try.prog .slice (convert T.sl_uint8 T.sl_uint8 (.slice v1472.a v1472.n v1472.c)) (fun (v1506 : Sl) h =>
  ((callK Try.prog .bool F.commit_bit #[.int .i64 side3] (fun (v1507 : Bool) h =>
  stillAggK (sizeOfT Try.prog T.api_Tag) h nonce_2 v5 ∧
  newSlK h 4 #[.slice v1506.a v1506.n v1506.c, .slice v4.a v4.n v4.c, .slice v1500.a v1500.n v1500.c, .slice v1371.a v1371.n v1371.c] T.sl_uint8 (fun (v1508 : Sl) h =>
  callK Try.prog (Kd.pair .agg (.int .i64)) F.commit_some #[.pointer m0, .bool v1507, .agg v5, .slice v1508.a v1508.n v1508.c] (fun (v1509 : Array Value × Int) h =>
  storeAggK (sizeOfT Try.prog T.api_Tag) h v3 v1509.1 (fun h =>
  quietK Try.prog .agg (Instr.loadAt T.api_Tag (.pointer v3)) (fun (r1510 : Array Value) =>
  R (.tuple #[.agg r1510, .int .i64 v1509.2]) h) h)) h)) h) ∧
  (newSlK h 4 #[.slice v1506.a v1506.n v1506.c, .slice v4.a v4.n v4.c, .slice v1500.a v1500.n v1500.c, .slice v1371.a v1371.n v1371.c] T.sl_uint8 (fun (v1511 : Sl) h =>
  callK Try.prog .bool F.commit_bit #[.int .i64 side3] (fun (v1512 : Bool) h =>
  stillAggK (sizeOfT Try.prog T.api_Tag) h nonce_2 v5 ∧
  callK Try.prog (Kd.pair .agg (.int .i64)) F.commit_some #[.pointer m0, .bool v1512, .agg v5, .slice v1511.a v1511.n v1511.c] (fun (v1513 : Array Value × Int) h =>
  storeAggK (sizeOfT Try.prog T.api_Tag) h v3 v1513.1 (fun h =>
  quietK Try.prog .agg (Instr.loadAt T.api_Tag (.pointer v3)) (fun (r1514 : Array Value) =>
  R (.tuple #[.agg r1514, .int .i64 v1513.2]) h) h)) h) h)))) h)))))))
  else
  ((opK Try.prog .slice (convert T.sl_uint8 T.sl_uint8 (.slice v1472.a v1472.n v1472.c)) (fun (v1515 : Sl) h =>
  newSlK h 1 #[(.int .u8 (IntKind.u8.wrap player2))] T.uint8 (fun (v1516 : Sl) h =>
  newSlK h 4 #[.slice v1515.a v1515.n v1515.c, .slice v4.a v4.n v4.c, .slice v1516.a v1516.n v1516.c, .slice v1371.a v1371.n v1371.c] T.sl_uint8 (fun (v1517 : Sl) h =>
  callK Try.prog (Kd.pair .agg (.int .i64)) F.commit_some #[.pointer m0, .bool false, .agg v5, .slice v1517.a v1517.n v1517.c] (fun (v1518 : Array Value × Int) h =>
  storeAggK (sizeOfT Try.prog T.api_Tag) h v3 v1518.1 (fun h =>
  quietK Try.prog .agg (Instr.loadAt T.api_Tag (.pointer v3)) (fun (r1519 : Array Value) =>
  R (.tuple #[.agg r1519, .int .i64 v1518.2]) h) h)) h))) h) ∧
  (newSlK h 1 #[(.int .u8 (IntKind.u8.wrap player2))] T.uint8 (fun (v1520 : Sl) h =>
  opK Try.prog .slice (convert T.sl_uint8 T.sl_uint8 (.slice v1472.a v1472.n v1472.c)) (fun (v1521 : Sl) h =>
  newSlK h 4 #[.slice v1521.a v1521.n v1521.c, .slice v4.a v4.n v4.c, .slice v1520.a v1520.n v1520.c, .slice v1371.a v1371.n v1371.c] T.sl_uint8 (fun (v1522 : Sl) h =>
  callK Try.prog (Kd.pair .agg (.int .i64)) F.commit_some #[.pointer m0, .bool false, .agg v5, .slice v1522.a v1522.n v1522.c] (fun (v1523 : Array Value × Int) h =>
  storeAggK (sizeOfT Try.prog T.api_Tag) h v3 v1523.1 (fun h =>
  quietK Try.prog .agg (Instr.loadAt T.api_Tag (.pointer v3)) (fun (r1524 : Array Value) =>
  R (.tuple #[.agg r1524, .int .i64 v1523.2]) h) h)) h)) h)))) h) ∧
  (((opK Try.prog .slice (convert T.sl_uint8 T.sl_uint8 (.slice v1472.a v1472.n v1472.c)) (fun (v1525 : Sl) h =>
  ((callK Try.prog .bool F.commit_bit #[.int .i64 player2] (fun (v1526 : Bool) h =>
  stillAggK (sizeOfT Try.prog T.api_Tag) h nonce_2 v5 ∧
  if v1526 = true then
  ((callK Try.prog .bool F.commit_bit #[.int .i64 side3] (fun (v1527 : Bool) h =>
  stillAggK (sizeOfT Try.prog T.api_Tag) h nonce_2 v5 ∧
  newSlK h 1 #[(.int .u8 (IntKind.u8.wrap player2))] T.uint8 (fun (v1528 : Sl) h =>
  newSlK h 4 #[.slice v1525.a v1525.n v1525.c, .slice v4.a v4.n v4.c, .slice v1528.a v1528.n v1528.c, .slice v1371.a v1371.n v1371.c] T.sl_uint8 (fun (v1529 : Sl) h =>
  callK Try.prog (Kd.pair .agg (.int .i64)) F.commit_some #[.pointer m0, .bool v1527, .agg v5, .slice v1529.a v1529.n v1529.c] (fun (v1530 : Array Value × Int) h =>
  storeAggK (sizeOfT Try.prog T.api_Tag) h v3 v1530.1 (fun h =>
  quietK Try.prog .agg (Instr.loadAt T.api_Tag (.pointer v3)) (fun (r1531 : Array Value) =>
  R (.tuple #[.agg r1531, .int .i64 v1530.2]) h) h)) h))) h) ∧
  (newSlK h 1 #[(.int .u8 (IntKind.u8.wrap player2))] T.uint8 (fun (v1532 : Sl) h =>
  ((callK Try.prog .bool F.commit_bit #[.int .i64 side3] (fun (v1533 : Bool) h =>
  stillAggK (sizeOfT Try.prog T.api_Tag) h nonce_2 v5 ∧
  newSlK h 4 #[.slice v1525.a v1525.n v1525.c, .slice v4.a v4.n v4.c, .slice v1532.a v1532.n v1532.c, .slice v1371.a v1371.n v1371.c] T.sl_uint8 (fun (v1534 : Sl) h =>
  callK Try.prog (Kd.pair .agg (.int .i64)) F.commit_some #[.pointer m0, .bool v1533, .agg v5, .slice v1534.a v1534.n v1534.c] (fun (v1535 : Array Value × Int) h =>
  storeAggK (sizeOfT Try.prog T.api_Tag) h v3 v1535.1 (fun h =>
  quietK Try.prog .agg (Instr.loadAt T.api_Tag (.pointer v3)) (fun (r1536 : Array Value) =>
  R (.tuple #[.agg r1536, .int .i64 v1535.2]) h) h)) h)) h) ∧
  (newSlK h 4 #[.slice v1525.a v1525.n v1525.c, .slice v4.a v4.n v4.c, .slice v1532.a v1532.n v1532.c, .slice v1371.a v1371.n v1371.c] T.sl_uint8 (fun (v1537 : Sl) h =>
  callK Try.prog .bool F.commit_bit #[.int .i64 side3] (fun (v1538 : Bool) h =>
  stillAggK (sizeOfT Try.prog T.api_Tag) h nonce_2 v5 ∧
  callK Try.prog (Kd.pair .agg (.int .i64)) F.commit_some #[.pointer m0, .bool v1538, .agg v5, .slice v1537.a v1537.n v1537.c] (fun (v1539 : Array Value × Int) h =>
  storeAggK (sizeOfT Try.prog T.api_Tag) h v3 v1539.1 (fun h =>
  quietK Try.prog .agg (Instr.loadAt T.api_Tag (.pointer v3)) (fun (r1540 : Array Value) =>
  R (.tuple #[.agg r1540, .int .i64 v1539.2]) h) h)) h) h))))))
  else
  newSlK h 1 #[(.int .u8 (IntKind.u8.wrap player2))] T.uint8 (fun (v1541 : Sl) h =>
  newSlK h 4 #[.slice v1525.a v1525.n v1525.c, .slice v4.a v4.n v4.c, .slice v1541.a v1541.n v1541.c, .slice v1371.a v1371.n v1371.c] T.sl_uint8 (fun (v1542 : Sl) h =>
  callK Try.prog (Kd.pair .agg (.int .i64)) F.commit_some #[.pointer m0, .bool false, .agg v5, .slice v1542.a v1542.n v1542.c] (fun (v1543 : Array Value × Int) h =>
  storeAggK (sizeOfT Try.prog T.api_Tag) h v3 v1543.1 (fun h =>
  quietK Try.prog .agg (Instr.loadAt T.api_Tag (.pointer v3)) (fun (r1544 : Array Value) =>
  R (.tuple #[.agg r1544, .int .i64 v1543.2]) h) h)) h))) h) ∧
  (newSlK h 1 #[(.int .u8 (IntKind.u8.wrap player2))] T.uint8 (fun (v1545 : Sl) h =>
  ((callK Try.prog .bool F.commit_bit #[.int .i64 player2] (fun (v1546 : Bool) h =>
  stillAggK (sizeOfT Try.prog T.api_Tag) h nonce_2 v5 ∧
  if v1546 = true then
  ((callK Try.prog .bool F.commit_bit #[.int .i64 side3] (fun (v1547 : Bool) h =>
  stillAggK (sizeOfT Try.prog T.api_Tag) h nonce_2 v5 ∧
  newSlK h 4 #[.slice v1525.a v1525.n v1525.c, .slice v4.a v4.n v4.c, .slice v1545.a v1545.n v1545.c, .slice v1371.a v1371.n v1371.c] T.sl_uint8 (fun (v1548 : Sl) h =>
  callK Try.prog (Kd.pair .agg (.int .i64)) F.commit_some #[.pointer m0, .bool v1547, .agg v5, .slice v1548.a v1548.n v1548.c] (fun (v1549 : Array Value × Int) h =>
  storeAggK (sizeOfT Try.prog T.api_Tag) h v3 v1549.1 (fun h =>
  quietK Try.prog .agg (Instr.loadAt T.api_Tag (.pointer v3)) (fun (r1550 : Array Value) =>
  R (.tuple #[.agg r1550, .int .i64 v1549.2]) h) h)) h)) h) ∧
  (newSlK h 4 #[.slice v1525.a v1525.n v1525.c, .slice v4.a v4.n v4.c, .slice v1545.a v1545.n v1545.c, .slice v1371.a v1371.n v1371.c] T.sl_uint8 (fun (v1551 : Sl) h =>
  callK Try.prog .bool F.commit_bit #[.int .i64 side3] (fun (v1552 : Bool) h =>
  stillAggK (sizeOfT Try.prog T.api_Tag) h nonce_2 v5 ∧
  callK Try.prog (Kd.pair .agg (.int .i64)) F.commit_some #[.pointer m0, .bool v1552, .agg v5, .slice v1551.a v1551.n v1551.c] (fun (v1553 : Array Value × Int) h =>
  storeAggK (sizeOfT Try.prog T.api_Tag) h v3 v1553.1 (fun h =>
  quietK Try.prog .agg (Instr.loadAt T.api_Tag (.pointer v3)) (fun (r1554 : Array Value) =>
  R (.tuple #[.agg r1554, .int .i64 v1553.2]) h) h)) h) h)))
  else
  newSlK h 4 #[.slice v1525.a v1525.n v1525.c, .slice v4.a v4.n v4.c, .slice v1545.a v1545.n v1545.c, .slice v1371.a v1371.n v1371.c] T.sl_uint8 (fun (v1555 : Sl) h =>
  callK Try.prog (Kd.pair .agg (.int .i64)) F.commit_some #[.pointer m0, .bool false, .agg v5, .slice v1555.a v1555.n v1555.c] (fun (v1556 : Array Value × Int) h =>
  storeAggK (sizeOfT Try.prog T.api_Tag) h v3 v1556.1 (fun h =>
  quietK Try.prog .agg (Instr.loadAt T.api_Tag (.pointer v3)) (fun (r1557 : Array Value) =>
  R (.tuple #[.agg r1557, .int .i64 v1556.2]) h) h)) h)) h) ∧
  (newSlK h 4 #[.slice v1525.a v1525.n v1525.c, .slice v4.a v4.n v4.c, .slice v1545.a v1545.n v1545.c, .slice v1371.a v1371.n v1371.c] T.sl_uint8 (fun (v1558 : Sl) h =>
  callK Try.prog .bool F.commit_bit #[.int .i64 player2] (fun (v1559 : Bool) h =>
  stillAggK (sizeOfT Try.prog T.api_Tag) h nonce_2 v5 ∧
  if v1559 = true then
  callK Try.prog .bool F.commit_bit #[.int .i64 side3] (fun (v1560 : Bool) h =>
  stillAggK (sizeOfT Try.prog T.api_Tag) h nonce_2 v5 ∧
  callK Try.prog (Kd.pair .agg (.int .i64)) F.commit_some #[.pointer m0, .bool v1560, .agg v5, .slice v1558.a v1558.n v1558.c] (fun (v1561 : Array Value × Int) h =>
  storeAggK (sizeOfT Try.prog T.api_Tag) h v3 v1561.1 (fun h =>
  quietK Try.prog .agg (Instr.loadAt T.api_Tag (.pointer v3)) (fun (r1562 : Array Value) =>
  R (.tuple #[.agg r1562, .int .i64 v1561.2]) h) h)) h) h
  else
  callK Try.prog (Kd.pair .agg (.int .i64)) F.commit_some #[.pointer m0, .bool false, .agg v5, .slice v1558.a v1558.n v1558.c] (fun (v1563 : Array Value × Int) h =>
  storeAggK (sizeOfT Try.prog T.api_Tag) h v3 v1563.1 (fun h =>
  quietK Try.prog .agg (Instr.loadAt T.api_Tag (.pointer v3)) (fun (r1564 : Array Value) =>
  R (.tuple #[.agg r1564, .int .i64 v1563.2]) h) h)) h) h))))))) h) ∧
  (newSlK h 1 #[(.int .u8 (IntKind.u8.wrap player2))] T.uint8 (fun (v1565 : Sl) h =>
  ((callK Try.prog .bool F.commit_bit #[.int .i64 player2] (fun (v1566 : Bool) h =>
  stillAggK (sizeOfT Try.prog T.api_Tag) h nonce_2 v5 ∧
  if v1566 = true then
  ((callK Try.prog .bool F.commit_bit #[.int .i64 side3] (fun (v1567 : Bool) h =>
  stillAggK (sizeOfT Try.prog T.api_Tag) h nonce_2 v5 ∧
  opK Try.prog .slice (convert T.sl_uint8 T.sl_uint8 (.slice v1472.a v1472.n v1472.c)) (fun (v1568 : Sl) h =>
  newSlK h 4 #[.slice v1568.a v1568.n v1568.c, .slice v4.a v4.n v4.c, .slice v1565.a v1565.n v1565.c, .slice v1371.a v1371.n v1371.c] T.sl_uint8 (fun (v1569 : Sl) h =>
  callK Try.prog (Kd.pair .agg (.int .i64)) F.commit_some #[.pointer m0, .bool v1567, .agg v5, .slice v1569.a v1569.n v1569.c] (fun (v1570 : Array Value × Int) h =>
  storeAggK (sizeOfT Try.prog T.api_Tag) h v3 v1570.1 (fun h =>
  quietK Try.prog .agg (Instr.loadAt T.api_Tag (.pointer v3)) (fun (r1571 : Array Value) =>
  R (.tuple #[.agg r1571, .int .i64 v1570.2]) h) h)) h)) h) h) ∧
  (opK Try.prog .slice (convert T.sl_uint8 T.sl_uint8 (.slice v1472.a v1472.n v1472.c)) (fun (v1572 : Sl) h =>
  ((callK Try.prog .bool F.commit_bit #[.int .i64 side3] (fun (v1573 : Bool) h =>
  stillAggK (sizeOfT Try.prog T.api_Tag) h nonce_2 v5 ∧
  newSlK h 4 #[.slice v1572.a v1572.n v1572.c, .slice v4.a v4.n v4.c, .slice v1565.a v1565.n v1565.c, .slice v1371.a v1371.n v1371.c] T.sl_uint8 (fun (v1574 : Sl) h =>
  callK Try.prog (Kd.pair .agg (.int .i64)) F.commit_some #[.pointer m0, .bool v1573, .agg v5, .slice v1574.a v1574.n v1574.c] (fun (v1575 : Array Value × Int) h =>
  storeAggK (sizeOfT Try.prog T.api_Tag) h v3 v1575.1 (fun h =>
  quietK Try.prog .agg (Instr.loadAt T.api_Tag (.pointer v3)) (fun (r1576 : Array Value) =>
  R (.tuple #[.agg r1576, .int .i64 v1575.2]) h) h)) h)) h) ∧
  (newSlK h 4 #[.slice v1572.a v1572.n v1572.c, .slice v4.a v4.n v4.c, .slice v1565.a v1565.n v1565.c, .slice v1371.a v1371.n v1371.c] T.sl_uint8 (fun (v1577 : Sl) h =>
  callK Try.prog .bool F.commit_bit #[.int .i64 side3] (fun (v1578 : Bool) h =>
  stillAggK (sizeOfT Try.prog T.api_Tag) h nonce_2 v5 ∧
  callK Try.prog (Kd.pair .agg (.int .i64)) F.commit_some #[.pointer m0, .bool v1578, .agg v5, .slice v1577.a v1577.n v1577.c] (fun (v1579 : Array Value × Int) h =>
  storeAggK (sizeOfT Try.prog T.api_Tag) h v3 v1579.1 (fun h =>
  quietK Try.prog .agg (Instr.loadAt T.api_Tag (.pointer v3)) (fun (r1580 : Array Value) =>
  R (.tuple #[.agg r1580, .int .i64 v1579.2]) h) h)) h) h)))) h))
  else
  opK Try.prog .slice (convert T.sl_uint8 T.sl_uint8 (.slice v1472.a v1472.n v1472.c)) (fun (v1581 : Sl) h =>
  newSlK h 4 #[.slice v1581.a v1581.n v1581.c, .slice v4.a v4.n v4.c, .slice v1565.a v1565.n v1565.c, .slice v1371.a v1371.n v1371.c] T.sl_uint8 (fun (v1582 : Sl) h =>
  callK Try.prog (Kd.pair .agg (.int .i64)) F.commit_some #[.pointer m0, .bool false, .agg v5, .slice v1582.a v1582.n v1582.c] (fun (v1583 : Array Value × Int) h =>
  storeAggK (sizeOfT Try.prog T.api_Tag) h v3 v1583.1 (fun h =>
  quietK Try.prog .agg (Instr.loadAt T.api_Tag (.pointer v3)) (fun (r1584 : Array Value) =>
  R (.tuple #[.agg r1584, .int .i64 v1583.2]) h) h)) h)) h) h) ∧
  (opK Try.prog .slice (convert T.sl_uint8 T.sl_uint8 (.slice v1472.a v1472.n v1472.c)) (fun (v1585 : Sl) h =>
  ((callK Try.prog .bool F.commit_bit #[.int .i64 player2] (fun (v1586 : Bool) h =>
  stillAggK (sizeOfT Try.prog T.api_Tag) h nonce_2 v5 ∧
  if v1586 = true then
  ((callK Try.prog .bool F.commit_bit #[.int .i64 side3] (fun (v1587 : Bool) h =>
  stillAggK (sizeOfT Try.prog T.api_Tag) h nonce_2 v5 ∧
  newSlK h 4 #[.slice v1585.a v1585.n v1585.c, .slice v4.a v4.n v4.c, .slice v1565.a v1565.n v1565.c, .slice v1371.a v1371.n v1371.c] T.sl_uint8 (fun (v1588 : Sl) h =>
  callK Try.prog (Kd.pair .agg (.int .i64)) F.commit_some #[.pointer m0, .bool v1587, .agg v5, .slice v1588.a v1588.n v1588.c] (fun (v1589 : Array Value × Int) h =>
  storeAggK (sizeOfT Try.prog T.api_Tag) h v3 v1589.1 (fun h =>
  quietK Try.prog .agg (Instr.loadAt T.api_Tag (.pointer v3)) (fun (r1590 : Array Value) =>
  R (.tuple #[.agg r1590, .int .i64 v1589.2]) h) h)) h)) h) ∧
  (newSlK h 4 #[.slice v1585.a v1585.n v1585.c, .slice v4.a v4.n v4.c, .slice v1565.a v1565.n v1565.c, .slice v1371.a v1371.n v1371.c] T.sl_uint8 (fun (v1591 : Sl) h =>
  callK Try.prog .bool F.commit_bit #[.int .i64 side3] (fun (v1592 : Bool) h =>
  stillAggK (sizeOfT Try.prog T.api_Tag) h nonce_2 v5 ∧
  callK Try.prog (Kd.pair .agg (.int .i64)) F.commit_some #[.pointer m0, .bool v1592, .agg v5, .slice v1591.a v1591.n v1591.c] (fun (v1593 : Array Value × Int) h =>
  storeAggK (sizeOfT Try.prog T.api_Tag) h v3 v1593.1 (fun h =>
  quietK Try.prog .agg (Instr.loadAt T.api_Tag (.pointer v3)) (fun (r1594 : Array Value) =>
  R (.tuple #[.agg r1594, .int .i64 v1593.2]) h) h)) h) h)))
  else
  newSlK h 4 #[.slice v1585.a v1585.n v1585.c, .slice v4.a v4.n v4.c, .slice v1565.a v1565.n v1565.c, .slice v1371.a v1371.n v1371.c] T.sl_uint8 (fun (v1595 : Sl) h =>
  callK Try.prog (Kd.pair .agg (.int .i64)) F.commit_some #[.pointer m0, .bool false, .agg v5, .slice v1595.a v1595.n v1595.c] (fun (v1596 : Array Value × Int) h =>
  storeAggK (sizeOfT Try.prog T.api_Tag) h v3 v1596.1 (fun h =>
  quietK Try.prog .agg (Instr.loadAt T.api_Tag (.pointer v3)) (fun (r1597 : Array Value) =>
  R (.tuple #[.agg r1597, .int .i64 v1596.2]) h) h)) h)) h) ∧
  (newSlK h 4 #[.slice v1585.a v1585.n v1585.c, .slice v4.a v4.n v4.c, .slice v1565.a v1565.n v1565.c, .slice v1371.a v1371.n v1371.c] T.sl_uint8 (fun (v1598 : Sl) h =>
  callK Try.prog .bool F.commit_bit #[.int .i64 player2] (fun (v1599 : Bool) h =>
  stillAggK (sizeOfT Try.prog T.api_Tag) h nonce_2 v5 ∧
  if v1599 = true then
  callK Try.prog .bool F.commit_bit #[.int .i64 side3] (fun (v1600 : Bool) h =>
  stillAggK (sizeOfT Try.prog T.api_Tag) h nonce_2 v5 ∧
  callK Try.prog (Kd.pair .agg (.int .i64)) F.commit_some #[.pointer m0, .bool v1600, .agg v5, .slice v1598.a v1598.n v1598.c] (fun (v1601 : Array Value × Int) h =>
  storeAggK (sizeOfT Try.prog T.api_Tag) h v3 v1601.1 (fun h =>
  quietK Try.prog .agg (Instr.loadAt T.api_Tag (.pointer v3)) (fun (r1602 : Array Value) =>
  R (.tuple #[.agg r1602, .int .i64 v1601.2]) h) h)) h) h
  else
  callK Try.prog (Kd.pair .agg (.int .i64)) F.commit_some #[.pointer m0, .bool false, .agg v5, .slice v1598.a v1598.n v1598.c] (fun (v1603 : Array Value × Int) h =>
  storeAggK (sizeOfT Try.prog T.api_Tag) h v3 v1603.1 (fun h =>
  quietK Try.prog .agg (Instr.loadAt T.api_Tag (.pointer v3)) (fun (r1604 : Array Value) =>
  R (.tuple #[.agg r1604, .int .i64 v1603.2]) h) h)) h) h)))) h))))))))) ∧
  (newSlK h 1 #[(.int .u8 (IntKind.u8.wrap player2))] T.uint8 (fun (v1605 : Sl) h =>
  ((callK Try.prog .bool F.commit_bit #[.int .i64 player2] (fun (v1606 : Bool) h =>
  stillAggK (sizeOfT Try.prog T.api_Tag) h nonce_2 v5 ∧
  if v1606 = true then
  ((callK Try.prog .bool F.commit_bit #[.int .i64 side3] (fun (v1607 : Bool) h =>
  stillAggK (sizeOfT Try.prog T.api_Tag) h nonce_2 v5 ∧
  newSlK h 4 #[.int .u8 99, .int .u8 111, .int .u8 105, .int .u8 110] T.uint8 (fun (v1608 : Sl) h =>
  opK Try.prog .slice (convert T.sl_uint8 T.sl_uint8 (.slice v1608.a v1608.n v1608.c)) (fun (v1609 : Sl) h =>
  newSlK h 4 #[.slice v1609.a v1609.n v1609.c, .slice v4.a v4.n v4.c, .slice v1605.a v1605.n v1605.c, .slice v1371.a v1371.n v1371.c] T.sl_uint8 (fun (v1610 : Sl) h =>
  callK Try.prog (Kd.pair .agg (.int .i64)) F.commit_some #[.pointer m0, .bool v1607, .agg v5, .slice v1610.a v1610.n v1610.c] (fun (v1611 : Array Value × Int) h =>
  storeAggK (sizeOfT Try.prog T.api_Tag) h v3 v1611.1 (fun h =>
  quietK Try.prog .agg (Instr.loadAt T.api_Tag (.pointer v3)) (fun (r1612 : Array Value) =>
  R (.tuple #[.agg r1612, .int .i64 v1611.2]) h) h)) h)) h)) h) ∧
  (newSlK h 4 #[.int .u8 99, .int .u8 111, .int .u8 105, .int .u8 110] T.uint8 (fun (v1613 : Sl) h =>
  ((callK Try.prog .bool F.commit_bit #[.int .i64 side3] (fun (v1614 : Bool) h =>
  stillAggK (sizeOfT Try.prog T.api_Tag) h nonce_2 v5 ∧
  opK Try.prog .slice (convert T.sl_uint8 T.sl_uint8 (.slice v1613.a v1613.n v1613.c)) (fun (v1615 : Sl) h =>
  newSlK h 4 #[.slice v1615.a v1615.n v1615.c, .slice v4.a v4.n v4.c, .slice v1605.a v1605.n v1605.c, .slice v1371.a v1371.n v1371.c] T.sl_uint8 (fun (v1616 : Sl) h =>
  callK Try.prog (Kd.pair .agg (.int .i64)) F.commit_some #[.pointer m0, .bool v1614, .agg v5, .slice v1616.a v1616.n v1616.c] (fun (v1617 : Array Value × Int) h =>
  storeAggK (sizeOfT Try.prog T.api_Tag) h v3 v1617.1 (fun h =>
  quietK Try.prog .agg (Instr.loadAt T.api_Tag (.pointer v3)) (fun (r1618 : Array Value) =>
  R (.tuple #[.agg r1618, .int .i64 v1617.2]) h) h)) h)) h) h) ∧
  (opK Try.prog .slice (convert T.sl_uint8 T.sl_uint8 (.slice v1613.a v1613.n v1613.c)) (fun (v1619 : Sl) h =>
  ((callK Try.prog .bool F.commit_bit #[.int .i64 side3] (fun (v1620 : Bool) h =>
  stillAggK (sizeOfT Try.prog T.api_Tag) h nonce_2 v5 ∧
  newSlK h 4 #[.slice v1619.a v1619.n v1619.c, .slice v4.a v4.n v4.c, .slice v1605.a v1605.n v1605.c, .slice v1371.a v1371.n v1371.c] T.sl_uint8 (fun (v1621 : Sl) h =>
  callK Try.prog (Kd.pair .agg (.int .i64)) F.commit_some #[.pointer m0, .bool v1620, .agg v5, .slice v1621.a v1621.n v1621.c] (fun (v1622 : Array Value × Int) h =>
  storeAggK (sizeOfT Try.prog T.api_Tag) h v3 v1622.1 (fun h =>
  quietK Try.prog .agg (Instr.loadAt T.api_Tag (.pointer v3)) (fun (r1623 : Array Value) =>
  R (.tuple #[.agg r1623, .int .i64 v1622.2]) h) h)) h)) h) ∧
  (newSlK h 4 #[.slice v1619.a v1619.n v1619.c, .slice v4.a v4.n v4.c, .slice v1605.a v1605.n v1605.c, .slice v1371.a v1371.n v1371.c] T.sl_uint8 (fun (v1624 : Sl) h =>
  callK Try.prog .bool F.commit_bit #[.int .i64 side3] (fun (v1625 : Bool) h =>
  stillAggK (sizeOfT Try.prog T.api_Tag) h nonce_2 v5 ∧
  callK Try.prog (Kd.pair .agg (.int .i64)) F.commit_some #[.pointer m0, .bool v1625, .agg v5, .slice v1624.a v1624.n v1624.c] (fun (v1626 : Array Value × Int) h =>
  storeAggK (sizeOfT Try.prog T.api_Tag) h v3 v1626.1 (fun h =>
  quietK Try.prog .agg (Instr.loadAt T.api_Tag (.pointer v3)) (fun (r1627 : Array Value) =>
  R (.tuple #[.agg r1627, .int .i64 v1626.2]) h) h)) h) h)))) h)))))
  else
  newSlK h 4 #[.int .u8 99, .int .u8 111, .int .u8 105, .int .u8 110] T.uint8 (fun (v1628 : Sl) h =>
  opK Try.prog .slice (convert T.sl_uint8 T.sl_uint8 (.slice v1628.a v1628.n v1628.c)) (fun (v1629 : Sl) h =>
  newSlK h 4 #[.slice v1629.a v1629.n v1629.c, .slice v4.a v4.n v4.c, .slice v1605.a v1605.n v1605.c, .slice v1371.a v1371.n v1371.c] T.sl_uint8 (fun (v1630 : Sl) h =>
  callK Try.prog (Kd.pair .agg (.int .i64)) F.commit_some #[.pointer m0, .bool false, .agg v5, .slice v1630.a v1630.n v1630.c] (fun (v1631 : Array Value × Int) h =>
  storeAggK (sizeOfT Try.prog T.api_Tag) h v3 v1631.1 (fun h =>
  quietK Try.prog .agg (Instr.loadAt T.api_Tag (.pointer v3)) (fun (r1632 : Array Value) =>
  R (.tuple #[.agg r1632, .int .i64 v1631.2]) h) h)) h)) h)) h) ∧
  (newSlK h 4 #[.int .u8 99, .int .u8 111, .int .u8 105, .int .u8 110] T.uint8 (fun (v1633 : Sl) h =>
  ((callK Try.prog .bool F.commit_bit #[.int .i64 player2] (fun (v1634 : Bool) h =>
  stillAggK (sizeOfT Try.prog T.api_Tag) h nonce_2 v5 ∧
  if v1634 = true then
  ((callK Try.prog .bool F.commit_bit #[.int .i64 side3] (fun (v1635 : Bool) h =>
  stillAggK (sizeOfT Try.prog T.api_Tag) h nonce_2 v5 ∧
  opK Try.prog .slice (convert T.sl_uint8 T.sl_uint8 (.slice v1633.a v1633.n v1633.c)) (fun (v1636 : Sl) h =>
  newSlK h 4 #[.slice v1636.a v1636.n v1636.c, .slice v4.a v4.n v4.c, .slice v1605.a v1605.n v1605.c, .slice v1371.a v1371.n v1371.c] T.sl_uint8 (fun (v1637 : Sl) h =>
  callK Try.prog (Kd.pair .agg (.int .i64)) F.commit_some #[.pointer m0, .bool v1635, .agg v5, .slice v1637.a v1637.n v1637.c] (fun (v1638 : Array Value × Int) h =>
  storeAggK (sizeOfT Try.prog T.api_Tag) h v3 v1638.1 (fun h =>
  quietK Try.prog .agg (Instr.loadAt T.api_Tag (.pointer v3)) (fun (r1639 : Array Value) =>
  R (.tuple #[.agg r1639, .int .i64 v1638.2]) h) h)) h)) h) h) ∧
  (opK Try.prog .slice (convert T.sl_uint8 T.sl_uint8 (.slice v1633.a v1633.n v1633.c)) (fun (v1640 : Sl) h =>
  ((callK Try.prog .bool F.commit_bit #[.int .i64 side3] (fun (v1641 : Bool) h =>
  stillAggK (sizeOfT Try.prog T.api_Tag) h nonce_2 v5 ∧
  newSlK h 4 #[.slice v1640.a v1640.n v1640.c, .slice v4.a v4.n v4.c, .slice v1605.a v1605.n v1605.c, .slice v1371.a v1371.n v1371.c] T.sl_uint8 (fun (v1642 : Sl) h =>
  callK Try.prog (Kd.pair .agg (.int .i64)) F.commit_some #[.pointer m0, .bool v1641, .agg v5, .slice v1642.a v1642.n v1642.c] (fun (v1643 : Array Value × Int) h =>
  storeAggK (sizeOfT Try.prog T.api_Tag) h v3 v1643.1 (fun h =>
  quietK Try.prog .agg (Instr.loadAt T.api_Tag (.pointer v3)) (fun (r1644 : Array Value) =>
  R (.tuple #[.agg r1644, .int .i64 v1643.2]) h) h)) h)) h) ∧
  (newSlK h 4 #[.slice v1640.a v1640.n v1640.c, .slice v4.a v4.n v4.c, .slice v1605.a v1605.n v1605.c, .slice v1371.a v1371.n v1371.c] T.sl_uint8 (fun (v1645 : Sl) h =>
  callK Try.prog .bool F.commit_bit #[.int .i64 side3] (fun (v1646 : Bool) h =>
  stillAggK (sizeOfT Try.prog T.api_Tag) h nonce_2 v5 ∧
  callK Try.prog (Kd.pair .agg (.int .i64)) F.commit_some #[.pointer m0, .bool v1646, .agg v5, .slice v1645.a v1645.n v1645.c] (fun (v1647 : Array Value × Int) h =>
  storeAggK (sizeOfT Try.prog T.api_Tag) h v3 v1647.1 (fun h =>
  quietK Try.prog .agg (Instr.loadAt T.api_Tag (.pointer v3)) (fun (r1648 : Array Value) =>
  R (.tuple #[.agg r1648, .int .i64 v1647.2]) h) h)) h) h)))) h))
  else
  opK Try.prog .slice (convert T.sl_uint8 T.sl_uint8 (.slice v1633.a v1633.n v1633.c)) (fun (v1649 : Sl) h =>
  newSlK h 4 #[.slice v1649.a v1649.n v1649.c, .slice v4.a v4.n v4.c, .slice v1605.a v1605.n v1605.c, .slice v1371.a v1371.n v1371.c] T.sl_uint8 (fun (v1650 : Sl) h =>
  callK Try.prog (Kd.pair .agg (.int .i64)) F.commit_some #[.pointer m0, .bool false, .agg v5, .slice v1650.a v1650.n v1650.c] (fun (v1651 : Array Value × Int) h =>
  storeAggK (sizeOfT Try.prog T.api_Tag) h v3 v1651.1 (fun h =>
  quietK Try.prog .agg (Instr.loadAt T.api_Tag (.pointer v3)) (fun (r1652 : Array Value) =>
  R (.tuple #[.agg r1652, .int .i64 v1651.2]) h) h)) h)) h) h) ∧
  (opK Try.prog .slice (convert T.sl_uint8 T.sl_uint8 (.slice v1633.a v1633.n v1633.c)) (fun (v1653 : Sl) h =>
  ((callK Try.prog .bool F.commit_bit #[.int .i64 player2] (fun (v1654 : Bool) h =>
  stillAggK (sizeOfT Try.prog T.api_Tag) h nonce_2 v5 ∧
  if v1654 = true then
  ((callK Try.prog .bool F.commit_bit #[.int .i64 side3] (fun (v1655 : Bool) h =>
  stillAggK (sizeOfT Try.prog T.api_Tag) h nonce_2 v5 ∧
  newSlK h 4 #[.slice v1653.a v1653.n v1653.c, .slice v4.a v4.n v4.c, .slice v1605.a v1605.n v1605.c, .slice v1371.a v1371.n v1371.c] T.sl_uint8 (fun (v1656 : Sl) h =>
  callK Try.prog (Kd.pair .agg (.int .i64)) F.commit_some #[.pointer m0, .bool v1655, .agg v5, .slice v1656.a v1656.n v1656.c] (fun (v1657 : Array Value × Int) h =>
  storeAggK (sizeOfT Try.prog T.api_Tag) h v3 v1657.1 (fun h =>
  quietK Try.prog .agg (Instr.loadAt T.api_Tag (.pointer v3)) (fun (r1658 : Array Value) =>
  R (.tuple #[.agg r1658, .int .i64 v1657.2]) h) h)) h)) h) ∧
  (newSlK h 4 #[.slice v1653.a v1653.n v1653.c, .slice v4.a v4.n v4.c, .slice v1605.a v1605.n v1605.c, .slice v1371.a v1371.n v1371.c] T.sl_uint8 (fun (v1659 : Sl) h =>
  callK Try.prog .bool F.commit_bit #[.int .i64 side3] (fun (v1660 : Bool) h =>
  stillAggK (sizeOfT Try.prog T.api_Tag) h nonce_2 v5 ∧
  callK Try.prog (Kd.pair .agg (.int .i64)) F.commit_some #[.pointer m0, .bool v1660, .agg v5, .slice v1659.a v1659.n v1659.c] (fun (v1661 : Array Value × Int) h =>
  storeAggK (sizeOfT Try.prog T.api_Tag) h v3 v1661.1 (fun h =>
  quietK Try.prog .agg (Instr.loadAt T.api_Tag (.pointer v3)) (fun (r1662 : Array Value) =>
  R (.tuple #[.agg r1662, .int .i64 v1661.2]) h) h)) h) h)))
  else
  newSlK h 4 #[.slice v1653.a v1653.n v1653.c, .slice v4.a v4.n v4.c, .slice v1605.a v1605.n v1605.c, .slice v1371.a v1371.n v1371.c] T.sl_uint8 (fun (v1663 : Sl) h =>
  callK Try.prog (Kd.pair .agg (.int .i64)) F.commit_some #[.pointer m0, .bool false, .agg v5, .slice v1663.a v1663.n v1663.c] (fun (v1664 : Array Value × Int) h =>
  storeAggK (sizeOfT Try.prog T.api_Tag) h v3 v1664.1 (fun h =>
  quietK Try.prog .agg (Instr.loadAt T.api_Tag (.pointer v3)) (fun (r1665 : Array Value) =>
  R (.tuple #[.agg r1665, .int .i64 v1664.2]) h) h)) h)) h) ∧
  (newSlK h 4 #[.slice v1653.a v1653.n v1653.c, .slice v4.a v4.n v4.c, .slice v1605.a v1605.n v1605.c, .slice v1371.a v1371.n v1371.c] T.sl_uint8 (fun (v1666 : Sl) h =>
  callK Try.prog .bool F.commit_bit #[.int .i64 player2] (fun (v1667 : Bool) h =>
  stillAggK (sizeOfT Try.prog T.api_Tag) h nonce_2 v5 ∧
  if v1667 = true then
  callK Try.prog .bool F.commit_bit #[.int .i64 side3] (fun (v1668 : Bool) h =>
  stillAggK (sizeOfT Try.prog T.api_Tag) h nonce_2 v5 ∧
  callK Try.prog (Kd.pair .agg (.int .i64)) F.commit_some #[.pointer m0, .bool v1668, .agg v5, .slice v1666.a v1666.n v1666.c] (fun (v1669 : Array Value × Int) h =>
  storeAggK (sizeOfT Try.prog T.api_Tag) h v3 v1669.1 (fun h =>
  quietK Try.prog .agg (Instr.loadAt T.api_Tag (.pointer v3)) (fun (r1670 : Array Value) =>
  R (.tuple #[.agg r1670, .int .i64 v1669.2]) h) h)) h) h
  else
  callK Try.prog (Kd.pair .agg (.int .i64)) F.commit_some #[.pointer m0, .bool false, .agg v5, .slice v1666.a v1666.n v1666.c] (fun (v1671 : Array Value × Int) h =>
  storeAggK (sizeOfT Try.prog T.api_Tag) h v3 v1671.1 (fun h =>
  quietK Try.prog .agg (Instr.loadAt T.api_Tag (.pointer v3)) (fun (r1672 : Array Value) =>
  R (.tuple #[.agg r1672, .int .i64 v1671.2]) h) h)) h) h)))) h))))))))))))))))))))))
def commit_Coin.ann : Ann := (.seq .leaf (.seq (.any (.loc 0 (.loc 1 (.loc 10 (.loc 11 (.loc 12 (.loc 14 (.loc 15 (.st 7 8126464 (.alt 2 (.loc 3 (.locA 4 (.alt 5 (.loc 6 (.alt 8 (.alt 9 (.alt 13 (.last 16 (.last 17 (.last 18 (.loc 19 (.loc 20 (.last 21 (.loc 22 .done))))))) (.last 16 (.last 13 (.last 17 (.last 18 (.loc 19 (.loc 20 (.last 21 (.loc 22 .done))))))))) (.alt 13 (.alt 9 (.last 16 (.last 17 (.last 18 (.loc 19 (.loc 20 (.last 21 (.loc 22 .done))))))) (.last 16 (.last 9 (.last 17 (.last 18 (.loc 19 (.loc 20 (.last 21 (.loc 22 .done))))))))) (.last 16 (.alt 9 (.last 13 (.last 17 (.last 18 (.loc 19 (.loc 20 (.last 21 (.loc 22 .done))))))) (.last 13 (.last 9 (.last 17 (.last 18 (.loc 19 (.loc 20 (.last 21 (.loc 22 .done)))))))))))) (.alt 13 (.alt 8 (.alt 9 (.last 16 (.last 17 (.last 18 (.loc 19 (.loc 20 (.last 21 (.loc 22 .done))))))) (.last 16 (.last 9 (.last 17 (.last 18 (.loc 19 (.loc 20 (.last 21 (.loc 22 .done))))))))) (.last 16 (.last 8 (.last 9 (.last 17 (.last 18 (.loc 19 (.loc 20 (.last 21 (.loc 22 .done)))))))))) (.last 16 (.alt 8 (.alt 9 (.last 13 (.last 17 (.last 18 (.loc 19 (.loc 20 (.last 21 (.loc 22 .done))))))) (.last 13 (.last 9 (.last 17 (.last 18 (.loc 19 (.loc 20 (.last 21 (.loc 22 .done))))))))) (.last 13 (.last 8 (.last 9 (.last 17 (.last 18 (.loc 19 (.loc 20 (.last 21 (.loc 22 .done)))))))))))))) (.alt 8 (.alt 5 (.loc 6 (.alt 9 (.alt 13 (.last 16 (.last 17 (.last 18 (.loc 19 (.loc 20 (.last 21 (.loc 22 .done))))))) (.last 16 (.last 13 (.last 17 (.last 18 (.loc 19 (.loc 20 (.last 21 (.loc 22 .done))))))))) (.alt 13 (.alt 9 (.last 16 (.last 17 (.last 18 (.loc 19 (.loc 20 (.last 21 (.loc 22 .done))))))) (.last 16 (.last 9 (.last 17 (.last 18 (.loc 19 (.loc 20 (.last 21 (.loc 22 .done))))))))) (.last 16 (.alt 9 (.last 13 (.last 17 (.last 18 (.loc 19 (.loc 20 (.last 21 (.loc 22 .done))))))) (.last 13 (.last 9 (.last 17 (.last 18 (.loc 19 (.loc 20 (.last 21 (.loc 22 .done))))))))))))) (.alt 9 (.alt 5 (.loc 6 (.alt 13 (.last 16 (.last 17 (.last 18 (.loc 19 (.loc 20 (.last 21 (.loc 22 .done))))))) (.last 16 (.last 13 (.last 17 (.last 18 (.loc 19 (.loc 20 (.last 21 (.loc 22 .done)))))))))) (.alt 13 (.alt 5 (.loc 6 (.last 16 (.last 17 (.last 18 (.loc 19 (.loc 20 (.last 21 (.loc 22 .done)))))))) (.last 16 (.alt 5 (.loc 6 (.last 17 (.last 18 (.loc 19 (.loc 20 (.last 21 (.loc 22 .done))))))) (.last 17 (.last 5 (.loc 6 (.last 18 (.loc 19 (.loc 20 (.last 21 (.loc 22 .done))))))))))) (.last 16 (.alt 5 (.loc 6 (.last 13 (.last 17 (.last 18 (.loc 19 (.loc 20 (.last 21 (.loc 22 .done)))))))) (.last 13 (.alt 5 (.loc 6 (.last 17 (.last 18 (.loc 19 (.loc 20 (.last 21 (.loc 22 .done))))))) (.last 17 (.last 5 (.loc 6 (.last 18 (.loc 19 (.loc 20 (.last 21 (.loc 22 .done)))))))))))))) (.alt 13 (.alt 5 (.loc 6 (.alt 9 (.last 16 (.last 17 (.last 18 (.loc 19 (.loc 20 (.last 21 (.loc 22 .done))))))) (.last 16 (.last 9 (.last 17 (.last 18 (.loc 19 (.loc 20 (.last 21 (.loc 22 .done)))))))))) (.alt 9 (.alt 5 (.loc 6 (.last 16 (.last 17 (.last 18 (.loc 19 (.loc 20 (.last 21 (.loc 22 .done)))))))) (.last 16 (.alt 5 (.loc 6 (.last 17 (.last 18 (.loc 19 (.loc 20 (.last 21 (.loc 22 .done))))))) (.last 17 (.last 5 (.loc 6 (.last 18 (.loc 19 (.loc 20 (.last 21 (.loc 22 .done))))))))))) (.last 16 (.alt 5 (.loc 6 (.last 9 (.last 17 (.last 18 (.loc 19 (.loc 20 (.last 21 (.loc 22 .done)))))))) (.last 9 (.alt 5 (.loc 6 (.last 17 (.last 18 (.loc 19 (.loc 20 (.last 21 (.loc 22 .done))))))) (.last 17 (.last 5 (.loc 6 (.last 18 (.loc 19 (.loc 20 (.last 21 (.loc 22 .done)))))))))))))) (.last 16 (.alt 5 (.loc 6 (.alt 9 (.last 13 (.last 17 (.last 18 (.loc 19 (.loc 20 (.last 21 (.loc 22 .done))))))) (.last 13 (.last 9 (.last 17 (.last 18 (.loc 19 (.loc 20 (.last 21 (.loc 22 .done)))))))))) (.alt 9 (.alt 5 (.loc 6 (.last 13 (.last 17 (.last 18 (.loc 19 (.loc 20 (.last 21 (.loc 22 .done)))))))) (.last 13 (.alt 5 (.loc 6 (.last 17 (.last 18 (.loc 19 (.loc 20 (.last 21 (.loc 22 .done))))))) (.last 17 (.last 5 (.loc 6 (.last 18 (.loc 19 (.loc 20 (.last 21 (.loc 22 .done))))))))))) (.last 13 (.alt 5 (.loc 6 (.last 9 (.last 17 (.last 18 (.loc 19 (.loc 20 (.last 21 (.loc 22 .done)))))))) (.last 9 (.alt 5 (.loc 6 (.last 17 (.last 18 (.loc 19 (.loc 20 (.last 21 (.loc 22 .done))))))) (.last 17 (.last 5 (.loc 6 (.last 18 (.loc 19 (.loc 20 (.last 21 (.loc 22 .done)))))))))))))))))) (.alt 13 (.alt 5 (.loc 6 (.alt 8 (.alt 9 (.last 16 (.last 17 (.last 18 (.loc 19 (.loc 20 (.last 21 (.loc 22 .done))))))) (.last 16 (.last 9 (.last 17 (.last 18 (.loc 19 (.loc 20 (.last 21 (.loc 22 .done))))))))) (.last 16 (.last 8 (.last 9 (.last 17 (.last 18 (.loc 19 (.loc 20 (.last 21 (.loc 22 .done))))))))))) (.alt 8 (.alt 5 (.loc 6 (.alt 9 (.last 16 (.last 17 (.last 18 (.loc 19 (.loc 20 (.last 21 (.loc 22 .done))))))) (.last 16 (.last 9 (.last 17 (.last 18 (.loc 19 (.loc 20 (.last 21 (.loc 22 .done)))))))))) (.alt 9 (.alt 5 (.loc 6 (.last 16 (.last 17 (.last 18 (.loc 19 (.loc 20 (.last 21 (.loc 22 .done)))))))) (.last 16 (.alt 5 (.loc 6 (.last 17 (.last 18 (.loc 19 (.loc 20 (.last 21 (.loc 22 .done))))))) (.last 17 (.last 5 (.loc 6 (.last 18 (.loc 19 (.loc 20 (.last 21 (.loc 22 .done))))))))))) (.last 16 (.alt 5 (.loc 6 (.last 9 (.last 17 (.last 18 (.loc 19 (.loc 20 (.last 21 (.loc 22 .done)))))))) (.last 9 (.alt 5 (.loc 6 (.last 17 (.last 18 (.loc 19 (.loc 20 (.last 21 (.loc 22 .done))))))) (.last 17 (.last 5 (.loc 6 (.last 18 (.loc 19 (.loc 20 (.last 21 (.loc 22 .done)))))))))))))) (.last 16 (.alt 5 (.loc 6 (.last 8 (.last 9 (.last 17 (.last 18 (.loc 19 (.loc 20 (.last 21 (.loc 22 .done))))))))) (.last 8 (.alt 5 (.loc 6 (.last 9 (.last 17 (.last 18 (.loc 19 (.loc 20 (.last 21 (.loc 22 .done)))))))) (.last 9 (.alt 5 (.loc 6 (.last 17 (.last 18 (.loc 19 (.loc 20 (.last 21 (.loc 22 .done))))))) (.last 17 (.last 5 (.loc 6 (.last 18 (.loc 19 (.loc 20 (.last 21 (.loc 22 .done)))))))))))))))) (.last 16 (.alt 5 (.loc 6 (.alt 8 (.alt 9 (.last 13 (.last 17 (.last 18 (.loc 19 (.loc 20 (.last 21 (.loc 22 .done))))))) (.last 13 (.last 9 (.last 17 (.last 18 (.loc 19 (.loc 20 (.last 21 (.loc 22 .done))))))))) (.last 13 (.last 8 (.last 9 (.last 17 (.last 18 (.loc 19 (.loc 20 (.last 21 (.loc 22 .done))))))))))) (.alt 8 (.alt 5 (.loc 6 (.alt 9 (.last 13 (.last 17 (.last 18 (.loc 19 (.loc 20 (.last 21 (.loc 22 .done))))))) (.last 13 (.last 9 (.last 17 (.last 18 (.loc 19 (.loc 20 (.last 21 (.loc 22 .done)))))))))) (.alt 9 (.alt 5 (.loc 6 (.last 13 (.last 17 (.last 18 (.loc 19 (.loc 20 (.last 21 (.loc 22 .done)))))))) (.last 13 (.alt 5 (.loc 6 (.last 17 (.last 18 (.loc 19 (.loc 20 (.last 21 (.loc 22 .done))))))) (.last 17 (.last 5 (.loc 6 (.last 18 (.loc 19 (.loc 20 (.last 21 (.loc 22 .done))))))))))) (.last 13 (.alt 5 (.loc 6 (.last 9 (.last 17 (.last 18 (.loc 19 (.loc 20 (.last 21 (.loc 22 .done)))))))) (.last 9 (.alt 5 (.loc 6 (.last 17 (.last 18 (.loc 19 (.loc 20 (.last 21 (.loc 22 .done))))))) (.last 17 (.last 5 (.loc 6 (.last 18 (.loc 19 (.loc 20 (.last 21 (.loc 22 .done)))))))))))))) (.last 13 (.alt 5 (.loc 6 (.last 8 (.last 9 (.last 17 (.last 18 (.loc 19 (.loc 20 (.last 21 (.loc 22 .done))))))))) (.last 8 (.alt 5 (.loc 6 (.last 9 (.last 17 (.last 18 (.loc 19 (.loc 20 (.last 21 (.loc 22 .done)))))))) (.last 9 (.alt 5 (.loc 6 (.last 17 (.last 18 (.loc 19 (.loc 20 (.last 21 (.loc 22 .done))))))) (.last 17 (.last 5 (.loc 6 (.last 18 (.loc 19 (.loc 20 (.last 21 (.loc 22 .done)))))))))))))))))))) (.loc 5 (.loc 6 (.alt 8 (.alt 9 (.alt 13 (.last 16 (.last 17 (.last 18 (.loc 19 (.loc 20 (.last 21 (.loc 22 .done))))))) (.last 16 (.last 13 (.last 17 (.last 18 (.loc 19 (.loc 20 (.last 21 (.loc 22 .done))))))))) (.alt 13 (.alt 9 (.last 16 (.last 17 (.last 18 (.loc 19 (.loc 20 (.last 21 (.loc 22 .done))))))) (.last 16 (.last 9 (.last 17 (.last 18 (.loc 19 (.loc 20 (.last 21 (.loc 22 .done))))))))) (.last 16 (.alt 9 (.last 13 (.last 17 (.last 18 (.loc 19 (.loc 20 (.last 21 (.loc 22 .done))))))) (.last 13 (.last 9 (.last 17 (.last 18 (.loc 19 (.loc 20 (.last 21 (.loc 22 .done)))))))))))) (.alt 13 (.alt 8 (.alt 9 (.last 16 (.last 17 (.last 18 (.loc 19 (.loc 20 (.last 21 (.loc 22 .done))))))) (.last 16 (.last 9 (.last 17 (.last 18 (.loc 19 (.loc 20 (.last 21 (.loc 22 .done))))))))) (.last 16 (.last 8 (.last 9 (.last 17 (.last 18 (.loc 19 (.loc 20 (.last 21 (.loc 22 .done)))))))))) (.last 16 (.alt 8 (.alt 9 (.last 13 (.last 17 (.last 18 (.loc 19 (.loc 20 (.last 21 (.loc 22 .done))))))) (.last 13 (.last 9 (.last 17 (.last 18 (.loc 19 (.loc 20 (.last 21 (.loc 22 .done))))))))) (.last 13 (.last 8 (.last 9 (.last 17 (.last 18 (.loc 19 (.loc 20 (.last 21 (.loc 22 .done))))))))))))))))) (.alt 8 (.alt 2 (.loc 3 (.locA 4 (.alt 5 (.loc 6 (.alt 9 (.alt 13 (.last 16 (.last 17 (.last 18 (.loc 19 (.loc 20 (.last 21 (.loc 22 .done))))))) (.last 16 (.last 13 (.last 17 (.last 18 (.loc 19 (.loc 20 (.last 21 (.loc 22 .done))))))))) (.alt 13 (.alt 9 (.last 16 (.last 17 (.last 18 (.loc 19 (.loc 20 (.last 21 (.loc 22 .done))))))) (.last 16 (.last 9 (.last 17 (.last 18 (.loc 19 (.loc 20 (.last 21 (.loc 22 .done))))))))) (.last 16 (.alt 9 (.last 13 (.last 17 (.last 18 (.loc 19 (.loc 20 (.last 21 (.loc 22 .done))))))) (.last 13 (.last 9 (.last 17 (.last 18 (.loc 19 (.loc 20 (.last 21 (.loc 22 .done))))))))))))) (.alt 9 (.alt 5 (.loc 6 (.alt 13 (.last 16 (.last 17 (.last 18 (.loc 19 (.loc 20 (.last 21 (.loc 22 .done))))))) (.last 16 (.last 13 (.last 17 (.last 18 (.loc 19 (.loc 20 (.last 21 (.loc 22 .done)))))))))) (.alt 13 (.alt 5 (.loc 6 (.last 16 (.last 17 (.last 18 (.loc 19 (.loc 20 (.last 21 (.loc 22 .done)))))))) (.last 16 (.alt 5 (.loc 6 (.last 17 (.last 18 (.loc 19 (.loc 20 (.last 21 (.loc 22 .done))))))) (.last 17 (.last 5 (.loc 6 (.last 18 (.loc 19 (.loc 20 (.last 21 (.loc 22 .done))))))))))) (.last 16 (.alt 5 (.loc 6 (.last 13 (.last 17 (.last 18 (.loc 19 (.loc 20 (.last 21 (.loc 22 .done)))))))) (.last 13 (.alt 5 (.loc 6 (.last 17 (.last 18 (.loc 19 (.loc 20 (.last 21 (.loc 22 .done))))))) (.last 17 (.last 5 (.loc 6 (.last 18 (.loc 19 (.loc 20 (.last 21 (.loc 22 .done)))))))))))))) (.alt 13 (.alt 5 (.loc 6 (.alt 9 (.last 16 (.last 17 (.last 18 (.loc 19 (.loc 20 (.last 21 (.loc 22 .done))))))) (.last 16 (.last 9 (.last 17 (.last 18 (.loc 19 (.loc 20 (.last 21 (.loc 22 .done)))))))))) (.alt 9 (.alt 5 (.loc 6 (.last 16 (.last 17 (.last 18 (.loc 19 (.loc 20 (.last 21 (.loc 22 .done)))))))) (.last 16 (.alt 5 (.loc 6 (.last 17 (.last 18 (.loc 19 (.loc 20 (.last 21 (.loc 22 .done))))))) (.last 17 (.last 5 (.loc 6 (.last 18 (.loc 19 (.loc 20 (.last 21 (.loc 22 .done))))))))))) (.last 16 (.alt 5 (.loc 6 (.last 9 (.last 17 (.last 18 (.loc 19 (.loc 20 (.last 21 (.loc 22 .done)))))))) (.last 9 (.alt 5 (.loc 6 (.last 17 (.last 18 (.loc 19 (.loc 20 (.last 21 (.loc 22 .done))))))) (.last 17 (.last 5 (.loc 6 (.last 18 (.loc 19 (.loc 20 (.last 21 (.loc 22 .done)))))))))))))) (.last 16 (.alt 5 (.loc 6 (.alt 9 (.last 13 (.last 17 (.last 18 (.loc 19 (.loc 20 (.last 21 (.loc 22 .done))))))) (.last 13 (.last 9 (.last 17 (.last 18 (.loc 19 (.loc 20 (.last 21 (.loc 22 .done)))))))))) (.alt 9 (.alt 5 (.loc 6 (.last 13 (.last 17 (.last 18 (.loc 19 (.loc 20 (.last 21 (.loc 22 .done)))))))) (.last 13 (.alt 5 (.loc 6 (.last 17 (.last 18 (.loc 19 (.loc 20 (.last 21 (.loc 22 .done))))))) (.last 17 (.last 5 (.loc 6 (.last 18 (.loc 19 (.loc 20 (.last 21 (.loc 22 .done))))))))))) (.last 13 (.alt 5 (.loc 6 (.last 9 (.last 17 (.last 18 (.loc 19 (.loc 20 (.last 21 (.loc 22 .done)))))))) (.last 9 (.alt 5 (.loc 6 (.last 17 (.last 18 (.loc 19 (.loc 20 (.last 21 (.loc 22 .done))))))) (.last 17 (.last 5 (.loc 6 (.last 18 (.loc 19 (.loc 20 (.last 21 (.loc 22 .done)))))))))))))))))) (.loc 5 (.loc 6 (.alt 9 (.alt 13 (.last 16 (.last 17 (.last 18 (.loc 19 (.loc 20 (.last 21 (.loc 22 .done))))))) (.last 16 (.last 13 (.last 17 (.last 18 (.loc 19 (.loc 20 (.last 21 (.loc 22 .done))))))))) (.alt 13 (.alt 9 (.last 16 (.last 17 (.last 18 (.loc 19 (.loc 20 (.last 21 (.loc 22 .done))))))) (.last 16 (.last 9 (.last 17 (.last 18 (.loc 19 (.loc 20 (.last 21 (.loc 22 .done))))))))) (.last 16 (.alt 9 (.last 13 (.last 17 (.last 18 (.loc 19 (.loc 20 (.last 21 (.loc 22 .done))))))) (.last 13 (.last 9 (.last 17 (.last 18 (.loc 19 (.loc 20 (.last 21 (.loc 22 .done)))))))))))))))) (.alt 9 (.alt 2 (.loc 3 (.locA 4 (.alt 5 (.loc 6 (.alt 13 (.last 16 (.last 17 (.last 18 (.loc 19 (.loc 20 (.last 21 (.loc 22 .done))))))) (.last 16 (.last 13 (.last 17 (.last 18 (.loc 19 (.loc 20 (.last 21 (.loc 22 .done)))))))))) (.alt 13 (.alt 5 (.loc 6 (.last 16 (.last 17 (.last 18 (.loc 19 (.loc 20 (.last 21 (.loc 22 .done)))))))) (.last 16 (.alt 5 (.loc 6 (.last 17 (.last 18 (.loc 19 (.loc 20 (.last 21 (.loc 22 .done))))))) (.last 17 (.last 5 (.loc 6 (.last 18 (.loc 19 (.loc 20 (.last 21 (.loc 22 .done))))))))))) (.last 16 (.alt 5 (.loc 6 (.last 13 (.last 17 (.last 18 (.loc 19 (.loc 20 (.last 21 (.loc 22 .done)))))))) (.last 13 (.alt 5 (.loc 6 (.last 17 (.last 18 (.loc 19 (.loc 20 (.last 21 (.loc 22 .done))))))) (.last 17 (.last 5 (.loc 6 (.last 18 (.loc 19 (.loc 20 (.last 21 (.loc 22 .done)))))))))))))) (.loc 5 (.loc 6 (.alt 13 (.last 16 (.last 17 (.last 18 (.loc 19 (.loc 20 (.last 21 (.loc 22 .done))))))) (.last 16 (.last 13 (.last 17 (.last 18 (.loc 19 (.loc 20 (.last 21 (.loc 22 .done))))))))))))) (.alt 13 (.alt 2 (.loc 3 (.locA 4 (.alt 5 (.loc 6 (.last 16 (.last 17 (.last 18 (.loc 19 (.loc 20 (.last 21 (.loc 22 .done)))))))) (.last 16 (.alt 5 (.loc 6 (.last 17 (.last 18 (.loc 19 (.loc 20 (.last 21 (.loc 22 .done))))))) (.last 17 (.last 5 (.loc 6 (.last 18 (.loc 19 (.loc 20 (.last 21 (.loc 22 .done))))))))))) (.loc 5 (.loc 6 (.last 16 (.last 17 (.last 18 (.loc 19 (.loc 20 (.last 21 (.loc 22 .done))))))))))) (.last 16 (.alt 2 (.loc 3 (.locA 4 (.alt 5 (.loc 6 (.last 17 (.last 18 (.loc 19 (.loc 20 (.last 21 (.loc 22 .done))))))) (.last 17 (.last 5 (.loc 6 (.last 18 (.loc 19 (.loc 20 (.last 21 (.loc 22 .done))))))))) (.loc 5 (.loc 6 (.last 17 (.last 18 (.loc 19 (.loc 20 (.last 21 (.loc 22 .done)))))))))) (.last 17 (.last 2 (.loc 3 (.locA 4 (.last 5 (.loc 6 (.last 18 (.loc 19 (.loc 20 (.last 21 (.loc 22 .done))))))) (.loc 5 (.loc 6 (.last 18 (.loc 19 (.loc 20 (.last 21 (.loc 22 .done)))))))))))))) (.last 16 (.alt 2 (.loc 3 (.locA 4 (.alt 5 (.loc 6 (.last 13 (.last 17 (.last 18 (.loc 19 (.loc 20 (.last 21 (.loc 22 .done)))))))) (.last 13 (.alt 5 (.loc 6 (.last 17 (.last 18 (.loc 19 (.loc 20 (.last 21 (.loc 22 .done))))))) (.last 17 (.last 5 (.loc 6 (.last 18 (.loc 19 (.loc 20 (.last 21 (.loc 22 .done))))))))))) (.loc 5 (.loc 6 (.last 13 (.last 17 (.last 18 (.loc 19 (.loc 20 (.last 21 (.loc 22 .done))))))))))) (.last 13 (.alt 2 (.loc 3 (.locA 4 (.alt 5 (.loc 6 (.last 17 (.last 18 (.loc 19 (.loc 20 (.last 21 (.loc 22 .done))))))) (.last 17 (.last 5 (.loc 6 (.last 18 (.loc 19 (.loc 20 (.last 21 (.loc 22 .done))))))))) (.loc 5 (.loc 6 (.last 17 (.last 18 (.loc 19 (.loc 20 (.last 21 (.loc 22 .done)))))))))) (.last 17 (.last 2 (.loc 3 (.locA 4 (.last 5 (.loc 6 (.last 18 (.loc 19 (.loc 20 (.last 21 (.loc 22 .done))))))) (.loc 5 (.loc 6 (.last 18 (.loc 19 (.loc 20 (.last 21 (.loc 22 .done))))))))))))))))) (.alt 13 (.alt 2 (.loc 3 (.locA 4 (.alt 5 (.loc 6 (.alt 9 (.last 16 (.last 17 (.last 18 (.loc 19 (.loc 20 (.last 21 (.loc 22 .done))))))) (.last 16 (.last 9 (.last 17 (.last 18 (.loc 19 (.loc 20 (.last 21 (.loc 22 .done)))))))))) (.alt 9 (.alt 5 (.loc 6 (.last 16 (.last 17 (.last 18 (.loc 19 (.loc 20 (.last 21 (.loc 22 .done)))))))) (.last 16 (.alt 5 (.loc 6 (.last 17 (.last 18 (.loc 19 (.loc 20 (.last 21 (.loc 22 .done))))))) (.last 17 (.last 5 (.loc 6 (.last 18 (.loc 19 (.loc 20 (.last 21 (.loc 22 .done))))))))))) (.last 16 (.alt 5 (.loc 6 (.last 9 (.last 17 (.last 18 (.loc 19 (.loc 20 (.last 21 (.loc 22 .done)))))))) (.last 9 (.alt 5 (.loc 6 (.last 17 (.last 18 (.loc 19 (.loc 20 (.last 21 (.loc 22 .done))))))) (.last 17 (.last 5 (.loc 6 (.last 18 (.loc 19 (.loc 20 (.last 21 (.loc 22 .done)))))))))))))) (.loc 5 (.loc 6 (.alt 9 (.last 16 (.last 17 (.last 18 (.loc 19 (.loc 20 (.last 21 (.loc 22 .done))))))) (.last 16 (.last 9 (.last 17 (.last 18 (.loc 19 (.loc 20 (.last 21 (.loc 22 .done))))))))))))) (.alt 9 (.alt 2 (.loc 3 (.locA 4 (.alt 5 (.loc 6 (.last 16 (.last 17 (.last 18 (.loc 19 (.loc 20 (.last 21 (.loc 22 .done)))))))) (.last 16 (.alt 5 (.loc 6 (.last 17 (.last 18 (.loc 19 (.loc 20 (.last 21 (.loc 22 .done))))))) (.last 17 (.last 5 (.loc 6 (.last 18 (.loc 19 (.loc 20 (.last 21 (.loc 22 .done))))))))))) (.loc 5 (.loc 6 (.last 16 (.last 17 (.last 18 (.loc 19 (.loc 20 (.last 21 (.loc 22 .done))))))))))) (.last 16 (.alt 2 (.loc 3 (.locA 4 (.alt 5 (.loc 6 (.last 17 (.last 18 (.loc 19 (.loc 20 (.last 21 (.loc 22 .done))))))) (.last 17 (.last 5 (.loc 6 (.last 18 (.loc 19 (.loc 20 (.last 21 (.loc 22 .done))))))))) (.loc 5 (.loc 6 (.last 17 (.last 18 (.loc 19 (.loc 20 (.last 21 (.loc 22 .done)))))))))) (.last 17 (.last 2 (.loc 3 (.locA 4 (.last 5 (.loc 6 (.last 18 (.loc 19 (.loc 20 (.last 21 (.loc 22 .done))))))) (.loc 5 (.loc 6 (.last 18 (.loc 19 (.loc 20 (.last 21 (.loc 22 .done)))))))))))))) (.last 16 (.alt 2 (.loc 3 (.locA 4 (.alt 5 (.loc 6 (.last 9 (.last 17 (.last 18 (.loc 19 (.loc 20 (.last 21 (.loc 22 .done)))))))) (.last 9 (.alt 5 (.loc 6 (.last 17 (.last 18 (.loc 19 (.loc 20 (.last 21 (.loc 22 .done))))))) (.last 17 (.last 5 (.loc 6 (.last 18 (.loc 19 (.loc 20 (.last 21 (.loc 22 .done))))))))))) (.loc 5 (.loc 6 (.last 9 (.last 17 (.last 18 (.loc 19 (.loc 20 (.last 21 (.loc 22 .done))))))))))) (.last 9 (.alt 2 (.loc 3 (.locA 4 (.alt 5 (.loc 6 (.last 17 (.last 18 (.loc 19 (.loc 20 (.last 21 (.loc 22 .done))))))) (.last 17 (.last 5 (.loc 6 (.last 18 (.loc 19 (.loc 20 (.last 21 (.loc 22 .done))))))))) (.loc 5 (.loc 6 (.last 17 (.last 18 (.loc 19 (.loc 20 (.last 21 (.loc 22 .done)))))))))) (.last 17 (.last 2 (.loc 3 (.locA 4 (.last 5 (.loc 6 (.last 18 (.loc 19 (.loc 20 (.last 21 (.loc 22 .done))))))) (.loc 5 (.loc 6 (.last 18 (.loc 19 (.loc 20 (.last 21 (.loc 22 .done))))))))))))))))) (.last 16 (.alt 2 (.loc 3 (.locA 4 (.alt 5 (.loc 6 (.alt 9 (.last 13 (.last 17 (.last 18 (.loc 19 (.loc 20 (.last 21 (.loc 22 .done))))))) (.last 13 (.last 9 (.last 17 (.last 18 (.loc 19 (.loc 20 (.last 21 (.loc 22 .done)))))))))) (.alt 9 (.alt 5 (.loc 6 (.last 13 (.last 17 (.last 18 (.loc 19 (.loc 20 (.last 21 (.loc 22 .done)))))))) (.last 13 (.alt 5 (.loc 6 (.last 17 (.last 18 (.loc 19 (.loc 20 (.last 21 (.loc 22 .done))))))) (.last 17 (.last 5 (.loc 6 (.last 18 (.loc 19 (.loc 20 (.last 21 (.loc 22 .done))))))))))) (.last 13 (.alt 5 (.loc 6 (.last 9 (.last 17 (.last 18 (.loc 19 (.loc 20 (.last 21 (.loc 22 .done)))))))) (.last 9 (.alt 5 (.loc 6 (.last 17 (.last 18 (.loc 19 (.loc 20 (.last 21 (.loc 22 .done))))))) (.last 17 (.last 5 (.loc 6 (.last 18 (.loc 19 (.loc 20 (.last 21 (.loc 22 .done)))))))))))))) (.loc 5 (.loc 6 (.alt 9 (.last 13 (.last 17 (.last 18 (.loc 19 (.loc 20 (.last 21 (.loc 22 .done))))))) (.last 13 (.last 9 (.last 17 (.last 18 (.loc 19 (.loc 20 (.last 21 (.loc 22 .done))))))))))))) (.alt 9 (.alt 2 (.loc 3 (.locA 4 (.alt 5 (.loc 6 (.last 13 (.last 17 (.last 18 (.loc 19 (.loc 20 (.last 21 (.loc 22 .done)))))))) (.last 13 (.alt 5 (.loc 6 (.last 17 (.last 18 (.loc 19 (.loc 20 (.last 21 (.loc 22 .done))))))) (.last 17 (.last 5 (.loc 6 (.last 18 (.loc 19 (.loc 20 (.last 21 (.loc 22 .done))))))))))) (.loc 5 (.loc 6 (.last 13 (.last 17 (.last 18 (.loc 19 (.loc 20 (.last 21 (.loc 22 .done))))))))))) (.last 13 (.alt 2 (.loc 3 (.locA 4 (.alt 5 (.loc 6 (.last 17 (.last 18 (.loc 19 (.loc 20 (.last 21 (.loc 22 .done))))))) (.last 17 (.last 5 (.loc 6 (.last 18 (.loc 19 (.loc 20 (.last 21 (.loc 22 .done))))))))) (.loc 5 (.loc 6 (.last 17 (.last 18 (.loc 19 (.loc 20 (.last 21 (.loc 22 .done)))))))))) (.last 17 (.last 2 (.loc 3 (.locA 4 (.last 5 (.loc 6 (.last 18 (.loc 19 (.loc 20 (.last 21 (.loc 22 .done))))))) (.loc 5 (.loc 6 (.last 18 (.loc 19 (.loc 20 (.last 21 (.loc 22 .done)))))))))))))) (.last 13 (.alt 2 (.loc 3 (.locA 4 (.alt 5 (.loc 6 (.last 9 (.last 17 (.last 18 (.loc 19 (.loc 20 (.last 21 (.loc 22 .done)))))))) (.last 9 (.alt 5 (.loc 6 (.last 17 (.last 18 (.loc 19 (.loc 20 (.last 21 (.loc 22 .done))))))) (.last 17 (.last 5 (.loc 6 (.last 18 (.loc 19 (.loc 20 (.last 21 (.loc 22 .done))))))))))) (.loc 5 (.loc 6 (.last 9 (.last 17 (.last 18 (.loc 19 (.loc 20 (.last 21 (.loc 22 .done))))))))))) (.last 9 (.alt 2 (.loc 3 (.locA 4 (.alt 5 (.loc 6 (.last 17 (.last 18 (.loc 19 (.loc 20 (.last 21 (.loc 22 .done))))))) (.last 17 (.last 5 (.loc 6 (.last 18 (.loc 19 (.loc 20 (.last 21 (.loc 22 .done))))))))) (.loc 5 (.loc 6 (.last 17 (.last 18 (.loc 19 (.loc 20 (.last 21 (.loc 22 .done)))))))))) (.last 17 (.last 2 (.loc 3 (.locA 4 (.last 5 (.loc 6 (.last 18 (.loc 19 (.loc 20 (.last 21 (.loc 22 .done))))))) (.loc 5 (.loc 6 (.last 18 (.loc 19 (.loc 20 (.last 21 (.loc 22 .done))))))))))))))))))))) (.alt 13 (.alt 2 (.loc 3 (.locA 4 (.alt 5 (.loc 6 (.alt 8 (.alt 9 (.last 16 (.last 17 (.last 18 (.loc 19 (.loc 20 (.last 21 (.loc 22 .done))))))) (.last 16 (.last 9 (.last 17 (.last 18 (.loc 19 (.loc 20 (.last 21 (.loc 22 .done))))))))) (.last 16 (.last 8 (.last 9 (.last 17 (.last 18 (.loc 19 (.loc 20 (.last 21 (.loc 22 .done))))))))))) (.alt 8 (.alt 5 (.loc 6 (.alt 9 (.last 16 (.last 17 (.last 18 (.loc 19 (.loc 20 (.last 21 (.loc 22 .done))))))) (.last 16 (.last 9 (.last 17 (.last 18 (.loc 19 (.loc 20 (.last 21 (.loc 22 .done)))))))))) (.alt 9 (.alt 5 (.loc 6 (.last 16 (.last 17 (.last 18 (.loc 19 (.loc 20 (.last 21 (.loc 22 .done)))))))) (.last 16 (.alt 5 (.loc 6 (.last 17 (.last 18 (.loc 19 (.loc 20 (.last 21 (.loc 22 .done))))))) (.last 17 (.last 5 (.loc 6 (.last 18 (.loc 19 (.loc 20 (.last 21 (.loc 22 .done))))))))))) (.last 16 (.alt 5 (.loc 6 (.last 9 (.last 17 (.last 18 (.loc 19 (.loc 20 (.last 21 (.loc 22 .done)))))))) (.last 9 (.alt 5 (.loc 6 (.last 17 (.last 18 (.loc 19 (.loc 20 (.last 21 (.loc 22 .done))))))) (.last 17 (.last 5 (.loc 6 (.last 18 (.loc 19 (.loc 20 (.last 21 (.loc 22 .done)))))))))))))) (.last 16 (.alt 5 (.loc 6 (.last 8 (.last 9 (.last 17 (.last 18 (.loc 19 (.loc 20 (.last 21 (.loc 22 .done))))))))) (.last 8 (.alt 5 (.loc 6 (.last 9 (.last 17 (.last 18 (.loc 19 (.loc 20 (.last 21 (.loc 22 .done)))))))) (.last 9 (.alt 5 (.loc 6 (.last 17 (.last 18 (.loc 19 (.loc 20 (.last 21 (.loc 22 .done))))))) (.last 17 (.last 5 (.loc 6 (.last 18 (.loc 19 (.loc 20 (.last 21 (.loc 22 .done)))))))))))))))) (.loc 5 (.loc 6 (.alt 8 (.alt 9 (.last 16 (.last 17 (.last 18 (.loc 19 (.loc 20 (.last 21 (.loc 22 .done))))))) (.last 16 (.last 9 (.last 17 (.last 18 (.loc 19 (.loc 20 (.last 21 (.loc 22 .done))))))))) (.last 16 (.last 8 (.last 9 (.last 17 (.last 18 (.loc 19 (.loc 20 (.last 21 (.loc 22 .done)))))))))))))) (.alt 8 (.alt 2 (.loc 3 (.locA 4 (.alt 5 (.loc 6 (.alt 9 (.last 16 (.last 17 (.last 18 (.loc 19 (.loc 20 (.last 21 (.loc 22 .done))))))) (.last 16 (.last 9 (.last 17 (.last 18 (.loc 19 (.loc 20 (.last 21 (.loc 22 .done)))))))))) (.alt 9 (.alt 5 (.loc 6 (.last 16 (.last 17 (.last 18 (.loc 19 (.loc 20 (.last 21 (.loc 22 .done)))))))) (.last 16 (.alt 5 (.loc 6 (.last 17 (.last 18 (.loc 19 (.loc 20 (.last 21 (.loc 22 .done))))))) (.last 17 (.last 5 (.loc 6 (.last 18 (.loc 19 (.loc 20 (.last 21 (.loc 22 .done))))))))))) (.last 16 (.alt 5 (.loc 6 (.last 9 (.last 17 (.last 18 (.loc 19 (.loc 20 (.last 21 (.loc 22 .done)))))))) (.last 9 (.alt 5 (.loc 6 (.last 17 (.last 18 (.loc 19 (.loc 20 (.last 21 (.loc 22 .done))))))) (.last 17 (.last 5 (.loc 6 (.last 18 (.loc 19 (.loc 20 (.last 21 (.loc 22 .done)))))))))))))) (.loc 5 (.loc 6 (.alt 9 (.last 16 (.last 17 (.last 18 (.loc 19 (.loc 20 (.last 21 (.loc 22 .done))))))) (.last 16 (.last 9 (.last 17 (.last 18 (.loc 19 (.loc 20 (.last 21 (.loc 22 .done))))))))))))) (.alt 9 (.alt 2 (.loc 3 (.locA 4 (.alt 5 (.loc 6 (.last 16 (.last 17 (.last 18 (.loc 19 (.loc 20 (.last 21 (.loc 22 .done)))))))) (.last 16 (.alt 5 (.loc 6 (.last 17 (.last 18 (.loc 19 (.loc 20 (.last 21 (.loc 22 .done))))))) (.last 17 (.last 5 (.loc 6 (.last 18 (.loc 19 (.loc 20 (.last 21 (.loc 22 .done))))))))))) (.loc 5 (.loc 6 (.last 16 (.last 17 (.last 18 (.loc 19 (.loc 20 (.last 21 (.loc 22 .done))))))))))) (.last 16 (.alt 2 (.loc 3 (.locA 4 (.alt 5 (.loc 6 (.last 17 (.last 18 (.loc 19 (.loc 20 (.last 21 (.loc 22 .done))))))) (.last 17 (.last 5 (.loc 6 (.last 18 (.loc 19 (.loc 20 (.last 21 (.loc 22 .done))))))))) (.loc 5 (.loc 6 (.last 17 (.last 18 (.loc 19 (.loc 20 (.last 21 (.loc 22 .done)))))))))) (.last 17 (.last 2 (.loc 3 (.locA 4 (.last 5 (.loc 6 (.last 18 (.loc 19 (.loc 20 (.last 21 (.loc 22 .done))))))) (.loc 5 (.loc 6 (.last 18 (.loc 19 (.loc 20 (.last 21 (.loc 22 .done)))))))))))))) (.last 16 (.alt 2 (.loc 3 (.locA 4 (.alt 5 (.loc 6 (.last 9 (.last 17 (.last 18 (.loc 19 (.loc 20 (.last 21 (.loc 22 .done)))))))) (.last 9 (.alt 5 (.loc 6 (.last 17 (.last 18 (.loc 19 (.loc 20 (.last 21 (.loc 22 .done))))))) (.last 17 (.last 5 (.loc 6 (.last 18 (.loc 19 (.loc 20 (.last 21 (.loc 22 .done))))))))))) (.loc 5 (.loc 6 (.last 9 (.last 17 (.last 18 (.loc 19 (.loc 20 (.last 21 (.loc 22 .done))))))))))) (.last 9 (.alt 2 (.loc 3 (.locA 4 (.alt 5 (.loc 6 (.last 17 (.last 18 (.loc 19 (.loc 20 (.last 21 (.loc 22 .done))))))) (.last 17 (.last 5 (.loc 6 (.last 18 (.loc 19 (.loc 20 (.last 21 (.loc 22 .done))))))))) (.loc 5 (.loc 6 (.last 17 (.last 18 (.loc 19 (.loc 20 (.last 21 (.loc 22 .done)))))))))) (.last 17 (.last 2 (.loc 3 (.locA 4 (.last 5 (.loc 6 (.last 18 (.loc 19 (.loc 20 (.last 21 (.loc 22 .done))))))) (.loc 5 (.loc 6 (.last 18 (.loc 19 (.loc 20 (.last 21 (.loc 22 .done))))))))))))))))) (.last 16 (.alt 2 (.loc 3 (.locA 4 (.alt 5 (.loc 6 (.last 8 (.last 9 (.last 17 (.last 18 (.loc 19 (.loc 20 (.last 21 (.loc 22 .done))))))))) (.last 8 (.alt 5 (.loc 6 (.last 9 (.last 17 (.last 18 (.loc 19 (.loc 20 (.last 21 (.loc 22 .done)))))))) (.last 9 (.alt 5 (.loc 6 (.last 17 (.last 18 (.loc 19 (.loc 20 (.last 21 (.loc 22 .done))))))) (.last 17 (.last 5 (.loc 6 (.last 18 (.loc 19 (.loc 20 (.last 21 (.loc 22 .done))))))))))))) (.loc 5 (.loc 6 (.last 8 (.last 9 (.last 17 (.last 18 (.loc 19 (.loc 20 (.last 21 (.loc 22 .done)))))))))))) (.last 8 (.alt 2 (.loc 3 (.locA 4 (.alt 5 (.loc 6 (.last 9 (.last 17 (.last 18 (.loc 19 (.loc 20 (.last 21 (.loc 22 .done)))))))) (.last 9 (.alt 5 (.loc 6 (.last 17 (.last 18 (.loc 19 (.loc 20 (.last 21 (.loc 22 .done))))))) (.last 17 (.last 5 (.loc 6 (.last 18 (.loc 19 (.loc 20 (.last 21 (.loc 22 .done))))))))))) (.loc 5 (.loc 6 (.last 9 (.last 17 (.last 18 (.loc 19 (.loc 20 (.last 21 (.loc 22 .done))))))))))) (.last 9 (.alt 2 (.loc 3 (.locA 4 (.alt 5 (.loc 6 (.last 17 (.last 18 (.loc 19 (.loc 20 (.last 21 (.loc 22 .done))))))) (.last 17 (.last 5 (.loc 6 (.last 18 (.loc 19 (.loc 20 (.last 21 (.loc 22 .done))))))))) (.loc 5 (.loc 6 (.last 17 (.last 18 (.loc 19 (.loc 20 (.last 21 (.loc 22 .done)))))))))) (.last 17 (.last 2 (.loc 3 (.locA 4 (.last 5 (.loc 6 (.last 18 (.loc 19 (.loc 20 (.last 21 (.loc 22 .done))))))) (.loc 5 (.loc 6 (.last 18 (.loc 19 (.loc 20 (.last 21 (.loc 22 .done))))))))))))))))))) (.last 16 (.alt 2 (.loc 3 (.locA 4 (.alt 5 (.loc 6 (.alt 8 (.alt 9 (.last 13 (.last 17 (.last 18 (.loc 19 (.loc 20 (.last 21 (.loc 22 .done))))))) (.last 13 (.last 9 (.last 17 (.last 18 (.loc 19 (.loc 20 (.last 21 (.loc 22 .done))))))))) (.last 13 (.last 8 (.last 9 (.last 17 (.last 18 (.loc 19 (.loc 20 (.last 21 (.loc 22 .done))))))))))) (.alt 8 (.alt 5 (.loc 6 (.alt 9 (.last 13 (.last 17 (.last 18 (.loc 19 (.loc 20 (.last 21 (.loc 22 .done))))))) (.last 13 (.last 9 (.last 17 (.last 18 (.loc 19 (.loc 20 (.last 21 (.loc 22 .done)))))))))) (.alt 9 (.alt 5 (.loc 6 (.last 13 (.last 17 (.last 18 (.loc 19 (.loc 20 (.last 21 (.loc 22 .done)))))))) (.last 13 (.alt 5 (.loc 6 (.last 17 (.last 18 (.loc 19 (.loc 20 (.last 21 (.loc 22 .done))))))) (.last 17 (.last 5 (.loc 6 (.last 18 (.loc 19 (.loc 20 (.last 21 (.loc 22 .done))))))))))) (.last 13 (.alt 5 (.loc 6 (.last 9 (.last 17 (.last 18 (.loc 19 (.loc 20 (.last 21 (.loc 22 .done)))))))) (.last 9 (.alt 5 (.loc 6 (.last 17 (.last 18 (.loc 19 (.loc 20 (.last 21 (.loc 22 .done))))))) (.last 17 (.last 5 (.loc 6 (.last 18 (.loc 19 (.loc 20 (.last 21 (.loc 22 .done)))))))))))))) (.last 13 (.alt 5 (.loc 6 (.last 8 (.last 9 (.last 17 (.last 18 (.loc 19 (.loc 20 (.last 21 (.loc 22 .done))))))))) (.last 8 (.alt 5 (.loc 6 (.last 9 (.last 17 (.last 18 (.loc 19 (.loc 20 (.last 21 (.loc 22 .done)))))))) (.last 9 (.alt 5 (.loc 6 (.last 17 (.last 18 (.loc 19 (.loc 20 (.last 21 (.loc 22 .done))))))) (.last 17 (.last 5 (.loc 6 (.last 18 (.loc 19 (.loc 20 (.last 21 (.loc 22 .done)))))))))))))))) (.loc 5 (.loc 6 (.alt 8 (.alt 9 (.last 13 (.last 17 (.last 18 (.loc 19 (.loc 20 (.last 21 (.loc 22 .done))))))) (.last 13 (.last 9 (.last 17 (.last 18 (.loc 19 (.loc 20 (.last 21 (.loc 22 .done))))))))) (.last 13 (.last 8 (.last 9 (.last 17 (.last 18 (.loc 19 (.loc 20 (.last 21 (.loc 22 .done)))))))))))))) (.alt 8 (.alt 2 (.loc 3 (.locA 4 (.alt 5 (.loc 6 (.alt 9 (.last 13 (.last 17 (.last 18 (.loc 19 (.loc 20 (.last 21 (.loc 22 .done))))))) (.last 13 (.last 9 (.last 17 (.last 18 (.loc 19 (.loc 20 (.last 21 (.loc 22 .done)))))))))) (.alt 9 (.alt 5 (.loc 6 (.last 13 (.last 17 (.last 18 (.loc 19 (.loc 20 (.last 21 (.loc 22 .done)))))))) (.last 13 (.alt 5 (.loc 6 (.last 17 (.last 18 (.loc 19 (.loc 20 (.last 21 (.loc 22 .done))))))) (.last 17 (.last 5 (.loc 6 (.last 18 (.loc 19 (.loc 20 (.last 21 (.loc 22 .done))))))))))) (.last 13 (.alt 5 (.loc 6 (.last 9 (.last 17 (.last 18 (.loc 19 (.loc 20 (.last 21 (.loc 22 .done)))))))) (.last 9 (.alt 5 (.loc 6 (.last 17 (.last 18 (.loc 19 (.loc 20 (.last 21 (.loc 22 .done))))))) (.last 17 (.last 5 (.loc 6 (.last 18 (.loc 19 (.loc 20 (.last 21 (.loc 22 .done)))))))))))))) (.loc 5 (.loc 6 (.alt 9 (.last 13 (.last 17 (.last 18 (.loc 19 (.loc 20 (.last 21 (.loc 22 .done))))))) (.last 13 (.last 9 (.last 17 (.last 18 (.loc 19 (.loc 20 (.last 21 (.loc 22 .done))))))))))))) (.alt 9 (.alt 2 (.loc 3 (.locA 4 (.alt 5 (.loc 6 (.last 13 (.last 17 (.last 18 (.loc 19 (.loc 20 (.last 21 (.loc 22 .done)))))))) (.last 13 (.alt 5 (.loc 6 (.last 17 (.last 18 (.loc 19 (.loc 20 (.last 21 (.loc 22 .done))))))) (.last 17 (.last 5 (.loc 6 (.last 18 (.loc 19 (.loc 20 (.last 21 (.loc 22 .done))))))))))) (.loc 5 (.loc 6 (.last 13 (.last 17 (.last 18 (.loc 19 (.loc 20 (.last 21 (.loc 22 .done))))))))))) (.last 13 (.alt 2 (.loc 3 (.locA 4 (.alt 5 (.loc 6 (.last 17 (.last 18 (.loc 19 (.loc 20 (.last 21 (.loc 22 .done))))))) (.last 17 (.last 5 (.loc 6 (.last 18 (.loc 19 (.loc 20 (.last 21 (.loc 22 .done))))))))) (.loc 5 (.loc 6 (.last 17 (.last 18 (.loc 19 (.loc 20 (.last 21 (.loc 22 .done)))))))))) (.last 17 (.last 2 (.loc 3 (.locA 4 (.last 5 (.loc 6 (.last 18 (.loc 19 (.loc 20 (.last 21 (.loc 22 .done))))))) (.loc 5 (.loc 6 (.last 18 (.loc 19 (.loc 20 (.last 21 (.loc 22 .done)))))))))))))) (.last 13 (.alt 2 (.loc 3 (.locA 4 (.alt 5 (.loc 6 (.last 9 (.last 17 (.last 18 (.loc 19 (.loc 20 (.last 21 (.loc 22 .done)))))))) (.last 9 (.alt 5 (.loc 6 (.last 17 (.last 18 (.loc 19 (.loc 20 (.last 21 (.loc 22 .done))))))) (.last 17 (.last 5 (.loc 6 (.last 18 (.loc 19 (.loc 20 (.last 21 (.loc 22 .done))))))))))) (.loc 5 (.loc 6 (.last 9 (.last 17 (.last 18 (.loc 19 (.loc 20 (.last 21 (.loc 22 .done))))))))))) (.last 9 (.alt 2 (.loc 3 (.locA 4 (.alt 5 (.loc 6 (.last 17 (.last 18 (.loc 19 (.loc 20 (.last 21 (.loc 22 .done))))))) (.last 17 (.last 5 (.loc 6 (.last 18 (.loc 19 (.loc 20 (.last 21 (.loc 22 .done))))))))) (.loc 5 (.loc 6 (.last 17 (.last 18 (.loc 19 (.loc 20 (.last 21 (.loc 22 .done)))))))))) (.last 17 (.last 2 (.loc 3 (.locA 4 (.last 5 (.loc 6 (.last 18 (.loc 19 (.loc 20 (.last 21 (.loc 22 .done))))))) (.loc 5 (.loc 6 (.last 18 (.loc 19 (.loc 20 (.last 21 (.loc 22 .done))))))))))))))))) (.last 13 (.alt 2 (.loc 3 (.locA 4 (.alt 5 (.loc 6 (.last 8 (.last 9 (.last 17 (.last 18 (.loc 19 (.loc 20 (.last 21 (.loc 22 .done))))))))) (.last 8 (.alt 5 (.loc 6 (.last 9 (.last 17 (.last 18 (.loc 19 (.loc 20 (.last 21 (.loc 22 .done)))))))) (.last 9 (.alt 5 (.loc 6 (.last 17 (.last 18 (.loc 19 (.loc 20 (.last 21 (.loc 22 .done))))))) (.last 17 (.last 5 (.loc 6 (.last 18 (.loc 19 (.loc 20 (.last 21 (.loc 22 .done))))))))))))) (.loc 5 (.loc 6 (.last 8 (.last 9 (.last 17 (.last 18 (.loc 19 (.loc 20 (.last 21 (.loc 22 .done)))))))))))) (.last 8 (.alt 2 (.loc 3 (.locA 4 (.alt 5 (.loc 6 (.last 9 (.last 17 (.last 18 (.loc 19 (.loc 20 (.last 21 (.loc 22 .done)))))))) (.last 9 (.alt 5 (.loc 6 (.last 17 (.last 18 (.loc 19 (.loc 20 (.last 21 (.loc 22 .done))))))) (.last 17 (.last 5 (.loc 6 (.last 18 (.loc 19 (.loc 20 (.last 21 (.loc 22 .done))))))))))) (.loc 5 (.loc 6 (.last 9 (.last 17 (.last 18 (.loc 19 (.loc 20 (.last 21 (.loc 22 .done))))))))))) (.last 9 (.alt 2 (.loc 3 (.locA 4 (.alt 5 (.loc 6 (.last 17 (.last 18 (.loc 19 (.loc 20 (.last 21 (.loc 22 .done))))))) (.last 17 (.last 5 (.loc 6 (.last 18 (.loc 19 (.loc 20 (.last 21 (.loc 22 .done))))))))) (.loc 5 (.loc 6 (.last 17 (.last 18 (.loc 19 (.loc 20 (.last 21 (.loc 22 .done)))))))))) (.last 17 (.last 2 (.loc 3 (.locA 4 (.last 5 (.loc 6 (.last 18 (.loc 19 (.loc 20 (.last 21 (.loc 22 .done))))))) (.loc 5 (.loc 6 (.last 18 (.loc 19 (.loc 20 (.last 21 (.loc 22 .done)))))))))))))))))))))))))))))))) .leaf))
theorem commit_Coin.eq (m0 : Option Addr) (game1 : Array Value) (player2 : Int) (side3 : Int) (nonce4 : Array Value) (R : Value → Heap → Prop) (h : Heap) : commit_Coin.body m0 game1 player2 side3 nonce4 R h = evFn Try.prog Try.f13 commit_Coin.ann [.pointer m0, .agg game1, .int .i64 player2, .int .i64 side3, .agg nonce4] R h := by kernel_rfl
theorem commit_Coin.calls {m0 : Option Addr} {game1 : Array Value} {player2 : Int} {side3 : Int} {nonce4 : Array Value} {R : Value → Heap → Prop} {h : Heap} (H : commit_Coin.body m0 game1 player2 side3 nonce4 R h) : HC Try.prog F.commit_Coin #[.pointer m0, .agg game1, .int .i64 player2, .int .i64 side3, .agg nonce4] R h :=
  evFn_sound mixed Try.func13 (by kernel_rfl) (commit_Coin.eq m0 game1 player2 side3 nonce4 R h ▸ H)

end Go.Proofs.Ytdlfodakdapghaa
