import Derived.Test.YtgllngcoclnpeaaCode2
import Derived.Test.YtgllngcoclnpeaaSig
set_option linter.unusedVariables false
set_option maxRecDepth 100000
namespace Go.Proofs.Ytgllngcoclnpeaa
open Go.Ev
/-! zugzwang/commit.Coin -/
abbrev commit_Coin.tail (m : Option Addr) (b : Bool) (a : Array Value) (z : Option Addr) (R : Value → Heap → Prop) (s : Sl) (h : Heap) : Prop :=
  callK Try.prog (Kd.pair .agg (.int .i64)) F.commit_some #[.pointer m, .bool b, .agg a, .slice s.a s.n s.c] (fun (v : Array Value × Int) h =>
  storeAggK (sizeOfT Try.prog T.api_Tag) h z v.1 (fun h =>
  quietK Try.prog .agg (Instr.loadAt T.api_Tag (.pointer z)) (fun r =>
  R (.tuple #[.agg r, .int .i64 v.2]) h) h)) h
def commit_Coin.body (m0 : Option Addr) (game1 : Array Value) (player2 : Int) (side3 : Int) (nonce4 : Array Value) (R : Value → Heap → Prop) (h : Heap) : Prop :=
  newK h game1 T.api_Tag (fun (game_1 : Option Addr) h =>
  newK h nonce4 T.api_Tag (fun (nonce_2 : Option Addr) h =>
  newK h (zerosOf Try.prog T.api_Tag) T.api_Tag (fun (v3 : Option Addr) h =>
  sliceArrK game_1 32 none none none (sizeOfT Try.prog T.uint8) (fun (v4 : Sl) =>
  loadAggK (sizeOfT Try.prog T.api_Tag) h nonce_2 (fun (v5 : Array Value) =>
  ((callK Try.prog .bool F.commit_bit #[.int .i64 player2] (fun (v6 : Bool) h =>
  stillAggK (sizeOfT Try.prog T.api_Tag) h nonce_2 v5 ∧
  if v6 = true then
  ((callK Try.prog .bool F.commit_bit #[.int .i64 side3] (fun (v7 : Bool) h =>
  stillAggK (sizeOfT Try.prog T.api_Tag) h nonce_2 v5 ∧
  ((newSlK h 4 #[.int .u8 99, .int .u8 111, .int .u8 105, .int .u8 110] T.uint8 (fun v8 h =>
  ((opK Try.prog .slice (convert T.sl_uint8 T.sl_uint8 (.slice v8.a v8.n v8.c)) (fun (v9 : Sl) h =>
  ((newSlK h 1 #[(.int .u8 (IntKind.u8.wrap player2))] T.uint8 (fun v10 h =>
  newSlK h 1 #[(.int .u8 (IntKind.u8.wrap side3))] T.uint8 (fun v11 h =>
  newSlK h 4 #[.slice v9.a v9.n v9.c, .slice v4.a v4.n v4.c, .slice v10.a v10.n v10.c, .slice v11.a v11.n v11.c] T.sl_uint8 (fun v12 h =>
  commit_Coin.tail m0 v7 v5 v3 R v12 h)))) ∧
  (newSlK h 1 #[(.int .u8 (IntKind.u8.wrap side3))] T.uint8 (fun v15 h =>
  newSlK h 1 #[(.int .u8 (IntKind.u8.wrap player2))] T.uint8 (fun v16 h =>
  newSlK h 4 #[.slice v9.a v9.n v9.c, .slice v4.a v4.n v4.c, .slice v16.a v16.n v16.c, .slice v15.a v15.n v15.c] T.sl_uint8 (fun v17 h =>
  commit_Coin.tail m0 v7 v5 v3 R v17 h)))))) h) ∧
  (((newSlK h 1 #[(.int .u8 (IntKind.u8.wrap player2))] T.uint8 (fun v20 h =>
  ((opK Try.prog .slice (convert T.sl_uint8 T.sl_uint8 (.slice v8.a v8.n v8.c)) (fun (v21 : Sl) h =>
  newSlK h 1 #[(.int .u8 (IntKind.u8.wrap side3))] T.uint8 (fun v22 h =>
  newSlK h 4 #[.slice v21.a v21.n v21.c, .slice v4.a v4.n v4.c, .slice v20.a v20.n v20.c, .slice v22.a v22.n v22.c] T.sl_uint8 (fun v23 h =>
  commit_Coin.tail m0 v7 v5 v3 R v23 h))) h) ∧
  (newSlK h 1 #[(.int .u8 (IntKind.u8.wrap side3))] T.uint8 (fun v26 h =>
  opK Try.prog .slice (convert T.sl_uint8 T.sl_uint8 (.slice v8.a v8.n v8.c)) (fun (v27 : Sl) h =>
  newSlK h 4 #[.slice v27.a v27.n v27.c, .slice v4.a v4.n v4.c, .slice v20.a v20.n v20.c, .slice v26.a v26.n v26.c] T.sl_uint8 (fun v28 h =>
  commit_Coin.tail m0 v7 v5 v3 R v28 h)) h))))) ∧
  (newSlK h 1 #[(.int .u8 (IntKind.u8.wrap side3))] T.uint8 (fun v31 h =>
  ((opK Try.prog .slice (convert T.sl_uint8 T.sl_uint8 (.slice v8.a v8.n v8.c)) (fun (v32 : Sl) h =>
  newSlK h 1 #[(.int .u8 (IntKind.u8.wrap player2))] T.uint8 (fun v33 h =>
  newSlK h 4 #[.slice v32.a v32.n v32.c, .slice v4.a v4.n v4.c, .slice v33.a v33.n v33.c, .slice v31.a v31.n v31.c] T.sl_uint8 (fun v34 h =>
  commit_Coin.tail m0 v7 v5 v3 R v34 h))) h) ∧
  (newSlK h 1 #[(.int .u8 (IntKind.u8.wrap player2))] T.uint8 (fun v37 h =>
  opK Try.prog .slice (convert T.sl_uint8 T.sl_uint8 (.slice v8.a v8.n v8.c)) (fun (v38 : Sl) h =>
  newSlK h 4 #[.slice v38.a v38.n v38.c, .slice v4.a v4.n v4.c, .slice v37.a v37.n v37.c, .slice v31.a v31.n v31.c] T.sl_uint8 (fun v39 h =>
  commit_Coin.tail m0 v7 v5 v3 R v39 h)) h)))))))))) ∧
  (((newSlK h 1 #[(.int .u8 (IntKind.u8.wrap player2))] T.uint8 (fun v42 h =>
  ((newSlK h 4 #[.int .u8 99, .int .u8 111, .int .u8 105, .int .u8 110] T.uint8 (fun v43 h =>
  ((opK Try.prog .slice (convert T.sl_uint8 T.sl_uint8 (.slice v43.a v43.n v43.c)) (fun (v44 : Sl) h =>
  newSlK h 1 #[(.int .u8 (IntKind.u8.wrap side3))] T.uint8 (fun v45 h =>
  newSlK h 4 #[.slice v44.a v44.n v44.c, .slice v4.a v4.n v4.c, .slice v42.a v42.n v42.c, .slice v45.a v45.n v45.c] T.sl_uint8 (fun v46 h =>
  commit_Coin.tail m0 v7 v5 v3 R v46 h))) h) ∧
  (newSlK h 1 #[(.int .u8 (IntKind.u8.wrap side3))] T.uint8 (fun v49 h =>
  opK Try.prog .slice (convert T.sl_uint8 T.sl_uint8 (.slice v43.a v43.n v43.c)) (fun (v50 : Sl) h =>
  newSlK h 4 #[.slice v50.a v50.n v50.c, .slice v4.a v4.n v4.c, .slice v42.a v42.n v42.c, .slice v49.a v49.n v49.c] T.sl_uint8 (fun v51 h =>
  commit_Coin.tail m0 v7 v5 v3 R v51 h)) h))))) ∧
  (newSlK h 1 #[(.int .u8 (IntKind.u8.wrap side3))] T.uint8 (fun v54 h =>
  newSlK h 4 #[.int .u8 99, .int .u8 111, .int .u8 105, .int .u8 110] T.uint8 (fun v55 h =>
  opK Try.prog .slice (convert T.sl_uint8 T.sl_uint8 (.slice v55.a v55.n v55.c)) (fun (v56 : Sl) h =>
  newSlK h 4 #[.slice v56.a v56.n v56.c, .slice v4.a v4.n v4.c, .slice v42.a v42.n v42.c, .slice v54.a v54.n v54.c] T.sl_uint8 (fun v57 h =>
  commit_Coin.tail m0 v7 v5 v3 R v57 h)) h)))))) ∧
  (newSlK h 1 #[(.int .u8 (IntKind.u8.wrap side3))] T.uint8 (fun v60 h =>
  ((newSlK h 4 #[.int .u8 99, .int .u8 111, .int .u8 105, .int .u8 110] T.uint8 (fun v61 h =>
  ((opK Try.prog .slice (convert T.sl_uint8 T.sl_uint8 (.slice v61.a v61.n v61.c)) (fun (v62 : Sl) h =>
  newSlK h 1 #[(.int .u8 (IntKind.u8.wrap player2))] T.uint8 (fun v63 h =>
  newSlK h 4 #[.slice v62.a v62.n v62.c, .slice v4.a v4.n v4.c, .slice v63.a v63.n v63.c, .slice v60.a v60.n v60.c] T.sl_uint8 (fun v64 h =>
  commit_Coin.tail m0 v7 v5 v3 R v64 h))) h) ∧
  (newSlK h 1 #[(.int .u8 (IntKind.u8.wrap player2))] T.uint8 (fun v67 h =>
  opK Try.prog .slice (convert T.sl_uint8 T.sl_uint8 (.slice v61.a v61.n v61.c)) (fun (v68 : Sl) h =>
  newSlK h 4 #[.slice v68.a v68.n v68.c, .slice v4.a v4.n v4.c, .slice v67.a v67.n v67.c, .slice v60.a v60.n v60.c] T.sl_uint8 (fun v69 h =>
  commit_Coin.tail m0 v7 v5 v3 R v69 h)) h))))) ∧
  (newSlK h 1 #[(.int .u8 (IntKind.u8.wrap player2))] T.uint8 (fun v72 h =>
  newSlK h 4 #[.int .u8 99, .int .u8 111, .int .u8 105, .int .u8 110] T.uint8 (fun v73 h =>
  opK Try.prog .slice (convert T.sl_uint8 T.sl_uint8 (.slice v73.a v73.n v73.c)) (fun (v74 : Sl) h =>
  newSlK h 4 #[.slice v74.a v74.n v74.c, .slice v4.a v4.n v4.c, .slice v72.a v72.n v72.c, .slice v60.a v60.n v60.c] T.sl_uint8 (fun v75 h =>
  commit_Coin.tail m0 v7 v5 v3 R v75 h)) h)))))))))) h) ∧
  (((newSlK h 4 #[.int .u8 99, .int .u8 111, .int .u8 105, .int .u8 110] T.uint8 (fun v78 h =>
  ((callK Try.prog .bool F.commit_bit #[.int .i64 side3] (fun (v79 : Bool) h =>
  stillAggK (sizeOfT Try.prog T.api_Tag) h nonce_2 v5 ∧
  ((opK Try.prog .slice (convert T.sl_uint8 T.sl_uint8 (.slice v78.a v78.n v78.c)) (fun (v80 : Sl) h =>
  ((newSlK h 1 #[(.int .u8 (IntKind.u8.wrap player2))] T.uint8 (fun v81 h =>
  newSlK h 1 #[(.int .u8 (IntKind.u8.wrap side3))] T.uint8 (fun v82 h =>
  newSlK h 4 #[.slice v80.a v80.n v80.c, .slice v4.a v4.n v4.c, .slice v81.a v81.n v81.c, .slice v82.a v82.n v82.c] T.sl_uint8 (fun v83 h =>
  commit_Coin.tail m0 v79 v5 v3 R v83 h)))) ∧
  (newSlK h 1 #[(.int .u8 (IntKind.u8.wrap side3))] T.uint8 (fun v86 h =>
  newSlK h 1 #[(.int .u8 (IntKind.u8.wrap player2))] T.uint8 (fun v87 h =>
  newSlK h 4 #[.slice v80.a v80.n v80.c, .slice v4.a v4.n v4.c, .slice v87.a v87.n v87.c, .slice v86.a v86.n v86.c] T.sl_uint8 (fun v88 h =>
  commit_Coin.tail m0 v79 v5 v3 R v88 h)))))) h) ∧
  (((newSlK h 1 #[(.int .u8 (IntKind.u8.wrap player2))] T.uint8 (fun v91 h =>
  ((opK Try.prog .slice (convert T.sl_uint8 T.sl_uint8 (.slice v78.a v78.n v78.c)) (fun (v92 : Sl) h =>
  newSlK h 1 #[(.int .u8 (IntKind.u8.wrap side3))] T.uint8 (fun v93 h =>
  newSlK h 4 #[.slice v92.a v92.n v92.c, .slice v4.a v4.n v4.c, .slice v91.a v91.n v91.c, .slice v93.a v93.n v93.c] T.sl_uint8 (fun v94 h =>
  commit_Coin.tail m0 v79 v5 v3 R v94 h))) h) ∧
  (newSlK h 1 #[(.int .u8 (IntKind.u8.wrap side3))] T.uint8 (fun v97 h =>
  opK Try.prog .slice (convert T.sl_uint8 T.sl_uint8 (.slice v78.a v78.n v78.c)) (fun (v98 : Sl) h =>
  newSlK h 4 #[.slice v98.a v98.n v98.c, .slice v4.a v4.n v4.c, .slice v91.a v91.n v91.c, .slice v97.a v97.n v97.c] T.sl_uint8 (fun v99 h =>
  commit_Coin.tail m0 v79 v5 v3 R v99 h)) h))))) ∧
  (newSlK h 1 #[(.int .u8 (IntKind.u8.wrap side3))] T.uint8 (fun v102 h =>
  ((opK Try.prog .slice (convert T.sl_uint8 T.sl_uint8 (.slice v78.a v78.n v78.c)) (fun (v103 : Sl) h =>
  newSlK h 1 #[(.int .u8 (IntKind.u8.wrap player2))] T.uint8 (fun v104 h =>
  newSlK h 4 #[.slice v103.a v103.n v103.c, .slice v4.a v4.n v4.c, .slice v104.a v104.n v104.c, .slice v102.a v102.n v102.c] T.sl_uint8 (fun v105 h =>
  commit_Coin.tail m0 v79 v5 v3 R v105 h))) h) ∧
  (newSlK h 1 #[(.int .u8 (IntKind.u8.wrap player2))] T.uint8 (fun v108 h =>
  opK Try.prog .slice (convert T.sl_uint8 T.sl_uint8 (.slice v78.a v78.n v78.c)) (fun (v109 : Sl) h =>
  newSlK h 4 #[.slice v109.a v109.n v109.c, .slice v4.a v4.n v4.c, .slice v108.a v108.n v108.c, .slice v102.a v102.n v102.c] T.sl_uint8 (fun v110 h =>
  commit_Coin.tail m0 v79 v5 v3 R v110 h)) h))))))))) h) ∧
  (((opK Try.prog .slice (convert T.sl_uint8 T.sl_uint8 (.slice v78.a v78.n v78.c)) (fun (v113 : Sl) h =>
  ((callK Try.prog .bool F.commit_bit #[.int .i64 side3] (fun (v114 : Bool) h =>
  stillAggK (sizeOfT Try.prog T.api_Tag) h nonce_2 v5 ∧
  ((newSlK h 1 #[(.int .u8 (IntKind.u8.wrap player2))] T.uint8 (fun v115 h =>
  newSlK h 1 #[(.int .u8 (IntKind.u8.wrap side3))] T.uint8 (fun v116 h =>
  newSlK h 4 #[.slice v113.a v113.n v113.c, .slice v4.a v4.n v4.c, .slice v115.a v115.n v115.c, .slice v116.a v116.n v116.c] T.sl_uint8 (fun v117 h =>
  commit_Coin.tail m0 v114 v5 v3 R v117 h)))) ∧
  (newSlK h 1 #[(.int .u8 (IntKind.u8.wrap side3))] T.uint8 (fun v120 h =>
  newSlK h 1 #[(.int .u8 (IntKind.u8.wrap player2))] T.uint8 (fun v121 h =>
  newSlK h 4 #[.slice v113.a v113.n v113.c, .slice v4.a v4.n v4.c, .slice v121.a v121.n v121.c, .slice v120.a v120.n v120.c] T.sl_uint8 (fun v122 h =>
  commit_Coin.tail m0 v114 v5 v3 R v122 h)))))) h) ∧
  (((newSlK h 1 #[(.int .u8 (IntKind.u8.wrap player2))] T.uint8 (fun v125 h =>
  ((callK Try.prog .bool F.commit_bit #[.int .i64 side3] (fun (v126 : Bool) h =>
  stillAggK (sizeOfT Try.prog T.api_Tag) h nonce_2 v5 ∧
  newSlK h 1 #[(.int .u8 (IntKind.u8.wrap side3))] T.uint8 (fun v127 h =>
  newSlK h 4 #[.slice v113.a v113.n v113.c, .slice v4.a v4.n v4.c, .slice v125.a v125.n v125.c, .slice v127.a v127.n v127.c] T.sl_uint8 (fun v128 h =>
  commit_Coin.tail m0 v126 v5 v3 R v128 h))) h) ∧
  (newSlK h 1 #[(.int .u8 (IntKind.u8.wrap side3))] T.uint8 (fun v131 h =>
  ((callK Try.prog .bool F.commit_bit #[.int .i64 side3] (fun (v132 : Bool) h =>
  stillAggK (sizeOfT Try.prog T.api_Tag) h nonce_2 v5 ∧
  newSlK h 4 #[.slice v113.a v113.n v113.c, .slice v4.a v4.n v4.c, .slice v125.a v125.n v125.c, .slice v131.a v131.n v131.c] T.sl_uint8 (fun v133 h =>
  commit_Coin.tail m0 v132 v5 v3 R v133 h)) h) ∧
  (newSlK h 4 #[.slice v113.a v113.n v113.c, .slice v4.a v4.n v4.c, .slice v125.a v125.n v125.c, .slice v131.a v131.n v131.c] T.sl_uint8 (fun v136 h =>
  callK Try.prog .bool F.commit_bit #[.int .i64 side3] (fun (v137 : Bool) h =>
  stillAggK (sizeOfT Try.prog T.api_Tag) h nonce_2 v5 ∧
  commit_Coin.tail m0 v137 v5 v3 R v136 h) h)))))))) ∧
  (newSlK h 1 #[(.int .u8 (IntKind.u8.wrap side3))] T.uint8 (fun v140 h =>
  ((callK Try.prog .bool F.commit_bit #[.int .i64 side3] (fun (v141 : Bool) h =>
  stillAggK (sizeOfT Try.prog T.api_Tag) h nonce_2 v5 ∧
  newSlK h 1 #[(.int .u8 (IntKind.u8.wrap player2))] T.uint8 (fun v142 h =>
  newSlK h 4 #[.slice v113.a v113.n v113.c, .slice v4.a v4.n v4.c, .slice v142.a v142.n v142.c, .slice v140.a v140.n v140.c] T.sl_uint8 (fun v143 h =>
  commit_Coin.tail m0 v141 v5 v3 R v143 h))) h) ∧
  (newSlK h 1 #[(.int .u8 (IntKind.u8.wrap player2))] T.uint8 (fun v146 h =>
  ((callK Try.prog .bool F.commit_bit #[.int .i64 side3] (fun (v147 : Bool) h =>
  stillAggK (sizeOfT Try.prog T.api_Tag) h nonce_2 v5 ∧
  newSlK h 4 #[.slice v113.a v113.n v113.c, .slice v4.a v4.n v4.c, .slice v146.a v146.n v146.c, .slice v140.a v140.n v140.c] T.sl_uint8 (fun v148 h =>
  commit_Coin.tail m0 v147 v5 v3 R v148 h)) h) ∧
  (newSlK h 4 #[.slice v113.a v113.n v113.c, .slice v4.a v4.n v4.c, .slice v146.a v146.n v146.c, .slice v140.a v140.n v140.c] T.sl_uint8 (fun v151 h =>
  callK Try.prog .bool F.commit_bit #[.int .i64 side3] (fun (v152 : Bool) h =>
  stillAggK (sizeOfT Try.prog T.api_Tag) h nonce_2 v5 ∧
  commit_Coin.tail m0 v152 v5 v3 R v151 h) h)))))))))))) h) ∧
  (((newSlK h 1 #[(.int .u8 (IntKind.u8.wrap player2))] T.uint8 (fun v155 h =>
  ((callK Try.prog .bool F.commit_bit #[.int .i64 side3] (fun (v156 : Bool) h =>
  stillAggK (sizeOfT Try.prog T.api_Tag) h nonce_2 v5 ∧
  ((opK Try.prog .slice (convert T.sl_uint8 T.sl_uint8 (.slice v78.a v78.n v78.c)) (fun (v157 : Sl) h =>
  newSlK h 1 #[(.int .u8 (IntKind.u8.wrap side3))] T.uint8 (fun v158 h =>
  newSlK h 4 #[.slice v157.a v157.n v157.c, .slice v4.a v4.n v4.c, .slice v155.a v155.n v155.c, .slice v158.a v158.n v158.c] T.sl_uint8 (fun v159 h =>
  commit_Coin.tail m0 v156 v5 v3 R v159 h))) h) ∧
  (newSlK h 1 #[(.int .u8 (IntKind.u8.wrap side3))] T.uint8 (fun v162 h =>
  opK Try.prog .slice (convert T.sl_uint8 T.sl_uint8 (.slice v78.a v78.n v78.c)) (fun (v163 : Sl) h =>
  newSlK h 4 #[.slice v163.a v163.n v163.c, .slice v4.a v4.n v4.c, .slice v155.a v155.n v155.c, .slice v162.a v162.n v162.c] T.sl_uint8 (fun v164 h =>
  commit_Coin.tail m0 v156 v5 v3 R v164 h)) h)))) h) ∧
  (((opK Try.prog .slice (convert T.sl_uint8 T.sl_uint8 (.slice v78.a v78.n v78.c)) (fun (v167 : Sl) h =>
  ((callK Try.prog .bool F.commit_bit #[.int .i64 side3] (fun (v168 : Bool) h =>
  stillAggK (sizeOfT Try.prog T.api_Tag) h nonce_2 v5 ∧
  newSlK h 1 #[(.int .u8 (IntKind.u8.wrap side3))] T.uint8 (fun v169 h =>
  newSlK h 4 #[.slice v167.a v167.n v167.c, .slice v4.a v4.n v4.c, .slice v155.a v155.n v155.c, .slice v169.a v169.n v169.c] T.sl_uint8 (fun v170 h =>
  commit_Coin.tail m0 v168 v5 v3 R v170 h))) h) ∧
  (newSlK h 1 #[(.int .u8 (IntKind.u8.wrap side3))] T.uint8 (fun v173 h =>
  ((callK Try.prog .bool F.commit_bit #[.int .i64 side3] (fun (v174 : Bool) h =>
  stillAggK (sizeOfT Try.prog T.api_Tag) h nonce_2 v5 ∧
  newSlK h 4 #[.slice v167.a v167.n v167.c, .slice v4.a v4.n v4.c, .slice v155.a v155.n v155.c, .slice v173.a v173.n v173.c] T.sl_uint8 (fun v175 h =>
  commit_Coin.tail m0 v174 v5 v3 R v175 h)) h) ∧
  (newSlK h 4 #[.slice v167.a v167.n v167.c, .slice v4.a v4.n v4.c, .slice v155.a v155.n v155.c, .slice v173.a v173.n v173.c] T.sl_uint8 (fun v178 h =>
  callK Try.prog .bool F.commit_bit #[.int .i64 side3] (fun (v179 : Bool) h =>
  stillAggK (sizeOfT Try.prog T.api_Tag) h nonce_2 v5 ∧
  commit_Coin.tail m0 v179 v5 v3 R v178 h) h))))))) h) ∧
  (newSlK h 1 #[(.int .u8 (IntKind.u8.wrap side3))] T.uint8 (fun v182 h =>
  ((callK Try.prog .bool F.commit_bit #[.int .i64 side3] (fun (v183 : Bool) h =>
  stillAggK (sizeOfT Try.prog T.api_Tag) h nonce_2 v5 ∧
  opK Try.prog .slice (convert T.sl_uint8 T.sl_uint8 (.slice v78.a v78.n v78.c)) (fun (v184 : Sl) h =>
  newSlK h 4 #[.slice v184.a v184.n v184.c, .slice v4.a v4.n v4.c, .slice v155.a v155.n v155.c, .slice v182.a v182.n v182.c] T.sl_uint8 (fun v185 h =>
  commit_Coin.tail m0 v183 v5 v3 R v185 h)) h) h) ∧
  (opK Try.prog .slice (convert T.sl_uint8 T.sl_uint8 (.slice v78.a v78.n v78.c)) (fun (v188 : Sl) h =>
  ((callK Try.prog .bool F.commit_bit #[.int .i64 side3] (fun (v189 : Bool) h =>
  stillAggK (sizeOfT Try.prog T.api_Tag) h nonce_2 v5 ∧
  newSlK h 4 #[.slice v188.a v188.n v188.c, .slice v4.a v4.n v4.c, .slice v155.a v155.n v155.c, .slice v182.a v182.n v182.c] T.sl_uint8 (fun v190 h =>
  commit_Coin.tail m0 v189 v5 v3 R v190 h)) h) ∧
  (newSlK h 4 #[.slice v188.a v188.n v188.c, .slice v4.a v4.n v4.c, .slice v155.a v155.n v155.c, .slice v182.a v182.n v182.c] T.sl_uint8 (fun v193 h =>
  callK Try.prog .bool F.commit_bit #[.int .i64 side3] (fun (v194 : Bool) h =>
  stillAggK (sizeOfT Try.prog T.api_Tag) h nonce_2 v5 ∧
  commit_Coin.tail m0 v194 v5 v3 R v193 h) h)))) h))))))))) ∧
  (newSlK h 1 #[(.int .u8 (IntKind.u8.wrap side3))] T.uint8 (fun v197 h =>
  ((callK Try.prog .bool F.commit_bit #[.int .i64 side3] (fun (v198 : Bool) h =>
  stillAggK (sizeOfT Try.prog T.api_Tag) h nonce_2 v5 ∧
  ((opK Try.prog .slice (convert T.sl_uint8 T.sl_uint8 (.slice v78.a v78.n v78.c)) (fun (v199 : Sl) h =>
  newSlK h 1 #[(.int .u8 (IntKind.u8.wrap player2))] T.uint8 (fun v200 h =>
  newSlK h 4 #[.slice v199.a v199.n v199.c, .slice v4.a v4.n v4.c, .slice v200.a v200.n v200.c, .slice v197.a v197.n v197.c] T.sl_uint8 (fun v201 h =>
  commit_Coin.tail m0 v198 v5 v3 R v201 h))) h) ∧
  (newSlK h 1 #[(.int .u8 (IntKind.u8.wrap player2))] T.uint8 (fun v204 h =>
  opK Try.prog .slice (convert T.sl_uint8 T.sl_uint8 (.slice v78.a v78.n v78.c)) (fun (v205 : Sl) h =>
  newSlK h 4 #[.slice v205.a v205.n v205.c, .slice v4.a v4.n v4.c, .slice v204.a v204.n v204.c, .slice v197.a v197.n v197.c] T.sl_uint8 (fun v206 h =>
  commit_Coin.tail m0 v198 v5 v3 R v206 h)) h)))) h) ∧
  (((opK Try.prog .slice (convert T.sl_uint8 T.sl_uint8 (.slice v78.a v78.n v78.c)) (fun (v209 : Sl) h =>
  ((callK Try.prog .bool F.commit_bit #[.int .i64 side3] (fun (v210 : Bool) h =>
  stillAggK (sizeOfT Try.prog T.api_Tag) h nonce_2 v5 ∧
  newSlK h 1 #[(.int .u8 (IntKind.u8.wrap player2))] T.uint8 (fun v211 h =>
  newSlK h 4 #[.slice v209.a v209.n v209.c, .slice v4.a v4.n v4.c, .slice v211.a v211.n v211.c, .slice v197.a v197.n v197.c] T.sl_uint8 (fun v212 h =>
  commit_Coin.tail m0 v210 v5 v3 R v212 h))) h) ∧
  (newSlK h 1 #[(.int .u8 (IntKind.u8.wrap player2))] T.uint8 (fun v215 h =>
  ((callK Try.prog .bool F.commit_bit #[.int .i64 side3] (fun (v216 : Bool) h =>
  stillAggK (sizeOfT Try.prog T.api_Tag) h nonce_2 v5 ∧
  newSlK h 4 #[.slice v209.a v209.n v209.c, .slice v4.a v4.n v4.c, .slice v215.a v215.n v215.c, .slice v197.a v197.n v197.c] T.sl_uint8 (fun v217 h =>
  commit_Coin.tail m0 v216 v5 v3 R v217 h)) h) ∧
  (newSlK h 4 #[.slice v209.a v209.n v209.c, .slice v4.a v4.n v4.c, .slice v215.a v215.n v215.c, .slice v197.a v197.n v197.c] T.sl_uint8 (fun v220 h =>
  callK Try.prog .bool F.commit_bit #[.int .i64 side3] (fun (v221 : Bool) h =>
  stillAggK (sizeOfT Try.prog T.api_Tag) h nonce_2 v5 ∧
  commit_Coin.tail m0 v221 v5 v3 R v220 h) h))))))) h) ∧
  (newSlK h 1 #[(.int .u8 (IntKind.u8.wrap player2))] T.uint8 (fun v224 h =>
  ((callK Try.prog .bool F.commit_bit #[.int .i64 side3] (fun (v225 : Bool) h =>
  stillAggK (sizeOfT Try.prog T.api_Tag) h nonce_2 v5 ∧
  opK Try.prog .slice (convert T.sl_uint8 T.sl_uint8 (.slice v78.a v78.n v78.c)) (fun (v226 : Sl) h =>
  newSlK h 4 #[.slice v226.a v226.n v226.c, .slice v4.a v4.n v4.c, .slice v224.a v224.n v224.c, .slice v197.a v197.n v197.c] T.sl_uint8 (fun v227 h =>
  commit_Coin.tail m0 v225 v5 v3 R v227 h)) h) h) ∧
  (opK Try.prog .slice (convert T.sl_uint8 T.sl_uint8 (.slice v78.a v78.n v78.c)) (fun (v230 : Sl) h =>
  ((callK Try.prog .bool F.commit_bit #[.int .i64 side3] (fun (v231 : Bool) h =>
  stillAggK (sizeOfT Try.prog T.api_Tag) h nonce_2 v5 ∧
  newSlK h 4 #[.slice v230.a v230.n v230.c, .slice v4.a v4.n v4.c, .slice v224.a v224.n v224.c, .slice v197.a v197.n v197.c] T.sl_uint8 (fun v232 h =>
  commit_Coin.tail m0 v231 v5 v3 R v232 h)) h) ∧
  (newSlK h 4 #[.slice v230.a v230.n v230.c, .slice v4.a v4.n v4.c, .slice v224.a v224.n v224.c, .slice v197.a v197.n v197.c] T.sl_uint8 (fun v235 h =>
  callK Try.prog .bool F.commit_bit #[.int .i64 side3] (fun (v236 : Bool) h =>
  stillAggK (sizeOfT Try.prog T.api_Tag) h nonce_2 v5 ∧
  commit_Coin.tail m0 v236 v5 v3 R v235 h) h)))) h)))))))))))))))) ∧
  (((newSlK h 1 #[(.int .u8 (IntKind.u8.wrap player2))] T.uint8 (fun v239 h =>
  ((callK Try.prog .bool F.commit_bit #[.int .i64 side3] (fun (v240 : Bool) h =>
  stillAggK (sizeOfT Try.prog T.api_Tag) h nonce_2 v5 ∧
  ((newSlK h 4 #[.int .u8 99, .int .u8 111, .int .u8 105, .int .u8 110] T.uint8 (fun v241 h =>
  ((opK Try.prog .slice (convert T.sl_uint8 T.sl_uint8 (.slice v241.a v241.n v241.c)) (fun (v242 : Sl) h =>
  newSlK h 1 #[(.int .u8 (IntKind.u8.wrap side3))] T.uint8 (fun v243 h =>
  newSlK h 4 #[.slice v242.a v242.n v242.c, .slice v4.a v4.n v4.c, .slice v239.a v239.n v239.c, .slice v243.a v243.n v243.c] T.sl_uint8 (fun v244 h =>
  commit_Coin.tail m0 v240 v5 v3 R v244 h))) h) ∧
  (newSlK h 1 #[(.int .u8 (IntKind.u8.wrap side3))] T.uint8 (fun v247 h =>
  opK Try.prog .slice (convert T.sl_uint8 T.sl_uint8 (.slice v241.a v241.n v241.c)) (fun (v248 : Sl) h =>
  newSlK h 4 #[.slice v248.a v248.n v248.c, .slice v4.a v4.n v4.c, .slice v239.a v239.n v239.c, .slice v247.a v247.n v247.c] T.sl_uint8 (fun v249 h =>
  commit_Coin.tail m0 v240 v5 v3 R v249 h)) h))))) ∧
  (newSlK h 1 #[(.int .u8 (IntKind.u8.wrap side3))] T.uint8 (fun v252 h =>
  newSlK h 4 #[.int .u8 99, .int .u8 111, .int .u8 105, .int .u8 110] T.uint8 (fun v253 h =>
  opK Try.prog .slice (convert T.sl_uint8 T.sl_uint8 (.slice v253.a v253.n v253.c)) (fun (v254 : Sl) h =>
  newSlK h 4 #[.slice v254.a v254.n v254.c, .slice v4.a v4.n v4.c, .slice v239.a v239.n v239.c, .slice v252.a v252.n v252.c] T.sl_uint8 (fun v255 h =>
  commit_Coin.tail m0 v240 v5 v3 R v255 h)) h))))) h) ∧
  (((newSlK h 4 #[.int .u8 99, .int .u8 111, .int .u8 105, .int .u8 110] T.uint8 (fun v258 h =>
  ((callK Try.prog .bool F.commit_bit #[.int .i64 side3] (fun (v259 : Bool) h =>
  stillAggK (sizeOfT Try.prog T.api_Tag) h nonce_2 v5 ∧
  ((opK Try.prog .slice (convert T.sl_uint8 T.sl_uint8 (.slice v258.a v258.n v258.c)) (fun (v260 : Sl) h =>
  newSlK h 1 #[(.int .u8 (IntKind.u8.wrap side3))] T.uint8 (fun v261 h =>
  newSlK h 4 #[.slice v260.a v260.n v260.c, .slice v4.a v4.n v4.c, .slice v239.a v239.n v239.c, .slice v261.a v261.n v261.c] T.sl_uint8 (fun v262 h =>
  commit_Coin.tail m0 v259 v5 v3 R v262 h))) h) ∧
  (newSlK h 1 #[(.int .u8 (IntKind.u8.wrap side3))] T.uint8 (fun v265 h =>
  opK Try.prog .slice (convert T.sl_uint8 T.sl_uint8 (.slice v258.a v258.n v258.c)) (fun (v266 : Sl) h =>
  newSlK h 4 #[.slice v266.a v266.n v266.c, .slice v4.a v4.n v4.c, .slice v239.a v239.n v239.c, .slice v265.a v265.n v265.c] T.sl_uint8 (fun v267 h =>
  commit_Coin.tail m0 v259 v5 v3 R v267 h)) h)))) h) ∧
  (((opK Try.prog .slice (convert T.sl_uint8 T.sl_uint8 (.slice v258.a v258.n v258.c)) (fun (v270 : Sl) h =>
  ((callK Try.prog .bool F.commit_bit #[.int .i64 side3] (fun (v271 : Bool) h =>
  stillAggK (sizeOfT Try.prog T.api_Tag) h nonce_2 v5 ∧
  newSlK h 1 #[(.int .u8 (IntKind.u8.wrap side3))] T.uint8 (fun v272 h =>
  newSlK h 4 #[.slice v270.a v270.n v270.c, .slice v4.a v4.n v4.c, .slice v239.a v239.n v239.c, .slice v272.a v272.n v272.c] T.sl_uint8 (fun v273 h =>
  commit_Coin.tail m0 v271 v5 v3 R v273 h))) h) ∧
  (newSlK h 1 #[(.int .u8 (IntKind.u8.wrap side3))] T.uint8 (fun v276 h =>
  ((callK Try.prog .bool F.commit_bit #[.int .i64 side3] (fun (v277 : Bool) h =>
  stillAggK (sizeOfT Try.prog T.api_Tag) h nonce_2 v5 ∧
  newSlK h 4 #[.slice v270.a v270.n v270.c, .slice v4.a v4.n v4.c, .slice v239.a v239.n v239.c, .slice v276.a v276.n v276.c] T.sl_uint8 (fun v278 h =>
  commit_Coin.tail m0 v277 v5 v3 R v278 h)) h) ∧
  (newSlK h 4 #[.slice v270.a v270.n v270.c, .slice v4.a v4.n v4.c, .slice v239.a v239.n v239.c, .slice v276.a v276.n v276.c] T.sl_uint8 (fun v281 h =>
  callK Try.prog .bool F.commit_bit #[.int .i64 side3] (fun (v282 : Bool) h =>
  stillAggK (sizeOfT Try.prog T.api_Tag) h nonce_2 v5 ∧
  commit_Coin.tail m0 v282 v5 v3 R v281 h) h))))))) h) ∧
  (newSlK h 1 #[(.int .u8 (IntKind.u8.wrap side3))] T.uint8 (fun v285 h =>
  ((callK Try.prog .bool F.commit_bit #[.int .i64 side3] (fun (v286 : Bool) h =>
  stillAggK (sizeOfT Try.prog T.api_Tag) h nonce_2 v5 ∧
  opK Try.prog .slice (convert T.sl_uint8 T.sl_uint8 (.slice v258.a v258.n v258.c)) (fun (v287 : Sl) h =>
  newSlK h 4 #[.slice v287.a v287.n v287.c, .slice v4.a v4.n v4.c, .slice v239.a v239.n v239.c, .slice v285.a v285.n v285.c] T.sl_uint8 (fun v288 h =>
  commit_Coin.tail m0 v286 v5 v3 R v288 h)) h) h) ∧
  (opK Try.prog .slice (convert T.sl_uint8 T.sl_uint8 (.slice v258.a v258.n v258.c)) (fun (v291 : Sl) h =>
  ((callK Try.prog .bool F.commit_bit #[.int .i64 side3] (fun (v292 : Bool) h =>
  stillAggK (sizeOfT Try.prog T.api_Tag) h nonce_2 v5 ∧
  newSlK h 4 #[.slice v291.a v291.n v291.c, .slice v4.a v4.n v4.c, .slice v239.a v239.n v239.c, .slice v285.a v285.n v285.c] T.sl_uint8 (fun v293 h =>
  commit_Coin.tail m0 v292 v5 v3 R v293 h)) h) ∧
  (newSlK h 4 #[.slice v291.a v291.n v291.c, .slice v4.a v4.n v4.c, .slice v239.a v239.n v239.c, .slice v285.a v285.n v285.c] T.sl_uint8 (fun v296 h =>
  callK Try.prog .bool F.commit_bit #[.int .i64 side3] (fun (v297 : Bool) h =>
  stillAggK (sizeOfT Try.prog T.api_Tag) h nonce_2 v5 ∧
  commit_Coin.tail m0 v297 v5 v3 R v296 h) h)))) h))))))))) ∧
  (newSlK h 1 #[(.int .u8 (IntKind.u8.wrap side3))] T.uint8 (fun v300 h =>
  ((callK Try.prog .bool F.commit_bit #[.int .i64 side3] (fun (v301 : Bool) h =>
  stillAggK (sizeOfT Try.prog T.api_Tag) h nonce_2 v5 ∧
  newSlK h 4 #[.int .u8 99, .int .u8 111, .int .u8 105, .int .u8 110] T.uint8 (fun v302 h =>
  opK Try.prog .slice (convert T.sl_uint8 T.sl_uint8 (.slice v302.a v302.n v302.c)) (fun (v303 : Sl) h =>
  newSlK h 4 #[.slice v303.a v303.n v303.c, .slice v4.a v4.n v4.c, .slice v239.a v239.n v239.c, .slice v300.a v300.n v300.c] T.sl_uint8 (fun v304 h =>
  commit_Coin.tail m0 v301 v5 v3 R v304 h)) h)) h) ∧
  (newSlK h 4 #[.int .u8 99, .int .u8 111, .int .u8 105, .int .u8 110] T.uint8 (fun v307 h =>
  ((callK Try.prog .bool F.commit_bit #[.int .i64 side3] (fun (v308 : Bool) h =>
  stillAggK (sizeOfT Try.prog T.api_Tag) h nonce_2 v5 ∧
  opK Try.prog .slice (convert T.sl_uint8 T.sl_uint8 (.slice v307.a v307.n v307.c)) (fun (v309 : Sl) h =>
  newSlK h 4 #[.slice v309.a v309.n v309.c, .slice v4.a v4.n v4.c, .slice v239.a v239.n v239.c, .slice v300.a v300.n v300.c] T.sl_uint8 (fun v310 h =>
  commit_Coin.tail m0 v308 v5 v3 R v310 h)) h) h) ∧
  (opK Try.prog .slice (convert T.sl_uint8 T.sl_uint8 (.slice v307.a v307.n v307.c)) (fun (v313 : Sl) h =>
  ((callK Try.prog .bool F.commit_bit #[.int .i64 side3] (fun (v314 : Bool) h =>
  stillAggK (sizeOfT Try.prog T.api_Tag) h nonce_2 v5 ∧
  newSlK h 4 #[.slice v313.a v313.n v313.c, .slice v4.a v4.n v4.c, .slice v239.a v239.n v239.c, .slice v300.a v300.n v300.c] T.sl_uint8 (fun v315 h =>
  commit_Coin.tail m0 v314 v5 v3 R v315 h)) h) ∧
  (newSlK h 4 #[.slice v313.a v313.n v313.c, .slice v4.a v4.n v4.c, .slice v239.a v239.n v239.c, .slice v300.a v300.n v300.c] T.sl_uint8 (fun v318 h =>
  callK Try.prog .bool F.commit_bit #[.int .i64 side3] (fun (v319 : Bool) h =>
  stillAggK (sizeOfT Try.prog T.api_Tag) h nonce_2 v5 ∧
  commit_Coin.tail m0 v319 v5 v3 R v318 h) h)))) h)))))))))))) ∧
  (newSlK h 1 #[(.int .u8 (IntKind.u8.wrap side3))] T.uint8 (fun v322 h =>
  ((callK Try.prog .bool F.commit_bit #[.int .i64 side3] (fun (v323 : Bool) h =>
  stillAggK (sizeOfT Try.prog T.api_Tag) h nonce_2 v5 ∧
  ((newSlK h 4 #[.int .u8 99, .int .u8 111, .int .u8 105, .int .u8 110] T.uint8 (fun v324 h =>
  ((opK Try.prog .slice (convert T.sl_uint8 T.sl_uint8 (.slice v324.a v324.n v324.c)) (fun (v325 : Sl) h =>
  newSlK h 1 #[(.int .u8 (IntKind.u8.wrap player2))] T.uint8 (fun v326 h =>
  newSlK h 4 #[.slice v325.a v325.n v325.c, .slice v4.a v4.n v4.c, .slice v326.a v326.n v326.c, .slice v322.a v322.n v322.c] T.sl_uint8 (fun v327 h =>
  commit_Coin.tail m0 v323 v5 v3 R v327 h))) h) ∧
  (newSlK h 1 #[(.int .u8 (IntKind.u8.wrap player2))] T.uint8 (fun v330 h =>
  opK Try.prog .slice (convert T.sl_uint8 T.sl_uint8 (.slice v324.a v324.n v324.c)) (fun (v331 : Sl) h =>
  newSlK h 4 #[.slice v331.a v331.n v331.c, .slice v4.a v4.n v4.c, .slice v330.a v330.n v330.c, .slice v322.a v322.n v322.c] T.sl_uint8 (fun v332 h =>
  commit_Coin.tail m0 v323 v5 v3 R v332 h)) h))))) ∧
  (newSlK h 1 #[(.int .u8 (IntKind.u8.wrap player2))] T.uint8 (fun v335 h =>
  newSlK h 4 #[.int .u8 99, .int .u8 111, .int .u8 105, .int .u8 110] T.uint8 (fun v336 h =>
  opK Try.prog .slice (convert T.sl_uint8 T.sl_uint8 (.slice v336.a v336.n v336.c)) (fun (v337 : Sl) h =>
  newSlK h 4 #[.slice v337.a v337.n v337.c, .slice v4.a v4.n v4.c, .slice v335.a v335.n v335.c, .slice v322.a v322.n v322.c] T.sl_uint8 (fun v338 h =>
  commit_Coin.tail m0 v323 v5 v3 R v338 h)) h))))) h) ∧
  (((newSlK h 4 #[.int .u8 99, .int .u8 111, .int .u8 105, .int .u8 110] T.uint8 (fun v341 h =>
  ((callK Try.prog .bool F.commit_bit #[.int .i64 side3] (fun (v342 : Bool) h =>
  stillAggK (sizeOfT Try.prog T.api_Tag) h nonce_2 v5 ∧
  ((opK Try.prog .slice (convert T.sl_uint8 T.sl_uint8 (.slice v341.a v341.n v341.c)) (fun (v343 : Sl) h =>
  newSlK h 1 #[(.int .u8 (IntKind.u8.wrap player2))] T.uint8 (fun v344 h =>
  newSlK h 4 #[.slice v343.a v343.n v343.c, .slice v4.a v4.n v4.c, .slice v344.a v344.n v344.c, .slice v322.a v322.n v322.c] T.sl_uint8 (fun v345 h =>
  commit_Coin.tail m0 v342 v5 v3 R v345 h))) h) ∧
  (newSlK h 1 #[(.int .u8 (IntKind.u8.wrap player2))] T.uint8 (fun v348 h =>
  opK Try.prog .slice (convert T.sl_uint8 T.sl_uint8 (.slice v341.a v341.n v341.c)) (fun (v349 : Sl) h =>
  newSlK h 4 #[.slice v349.a v349.n v349.c, .slice v4.a v4.n v4.c, .slice v348.a v348.n v348.c, .slice v322.a v322.n v322.c] T.sl_uint8 (fun v350 h =>
  commit_Coin.tail m0 v342 v5 v3 R v350 h)) h)))) h) ∧
  (((opK Try.prog .slice (convert T.sl_uint8 T.sl_uint8 (.slice v341.a v341.n v341.c)) (fun (v353 : Sl) h =>
  ((callK Try.prog .bool F.commit_bit #[.int .i64 side3] (fun (v354 : Bool) h =>
  stillAggK (sizeOfT Try.prog T.api_Tag) h nonce_2 v5 ∧
  newSlK h 1 #[(.int .u8 (IntKind.u8.wrap player2))] T.uint8 (fun v355 h =>
  newSlK h 4 #[.slice v353.a v353.n v353.c, .slice v4.a v4.n v4.c, .slice v355.a v355.n v355.c, .slice v322.a v322.n v322.c] T.sl_uint8 (fun v356 h =>
  commit_Coin.tail m0 v354 v5 v3 R v356 h))) h) ∧
  (newSlK h 1 #[(.int .u8 (IntKind.u8.wrap player2))] T.uint8 (fun v359 h =>
  ((callK Try.prog .bool F.commit_bit #[.int .i64 side3] (fun (v360 : Bool) h =>
  stillAggK (sizeOfT Try.prog T.api_Tag) h nonce_2 v5 ∧
  newSlK h 4 #[.slice v353.a v353.n v353.c, .slice v4.a v4.n v4.c, .slice v359.a v359.n v359.c, .slice v322.a v322.n v322.c] T.sl_uint8 (fun v361 h =>
  commit_Coin.tail m0 v360 v5 v3 R v361 h)) h) ∧
  (newSlK h 4 #[.slice v353.a v353.n v353.c, .slice v4.a v4.n v4.c, .slice v359.a v359.n v359.c, .slice v322.a v322.n v322.c] T.sl_uint8 (fun v364 h =>
  callK Try.prog .bool F.commit_bit #[.int .i64 side3] (fun (v365 : Bool) h =>
  stillAggK (sizeOfT Try.prog T.api_Tag) h nonce_2 v5 ∧
  commit_Coin.tail m0 v365 v5 v3 R v364 h) h))))))) h) ∧
  (newSlK h 1 #[(.int .u8 (IntKind.u8.wrap player2))] T.uint8 (fun v368 h =>
  ((callK Try.prog .bool F.commit_bit #[.int .i64 side3] (fun (v369 : Bool) h =>
  stillAggK (sizeOfT Try.prog T.api_Tag) h nonce_2 v5 ∧
  opK Try.prog .slice (convert T.sl_uint8 T.sl_uint8 (.slice v341.a v341.n v341.c)) (fun (v370 : Sl) h =>
  newSlK h 4 #[.slice v370.a v370.n v370.c, .slice v4.a v4.n v4.c, .slice v368.a v368.n v368.c, .slice v322.a v322.n v322.c] T.sl_uint8 (fun v371 h =>
  commit_Coin.tail m0 v369 v5 v3 R v371 h)) h) h) ∧
  (opK Try.prog .slice (convert T.sl_uint8 T.sl_uint8 (.slice v341.a v341.n v341.c)) (fun (v374 : Sl) h =>
  ((callK Try.prog .bool F.commit_bit #[.int .i64 side3] (fun (v375 : Bool) h =>
  stillAggK (sizeOfT Try.prog T.api_Tag) h nonce_2 v5 ∧
  newSlK h 4 #[.slice v374.a v374.n v374.c, .slice v4.a v4.n v4.c, .slice v368.a v368.n v368.c, .slice v322.a v322.n v322.c] T.sl_uint8 (fun v376 h =>
  commit_Coin.tail m0 v375 v5 v3 R v376 h)) h) ∧
  (newSlK h 4 #[.slice v374.a v374.n v374.c, .slice v4.a v4.n v4.c, .slice v368.a v368.n v368.c, .slice v322.a v322.n v322.c] T.sl_uint8 (fun v379 h =>
  callK Try.prog .bool F.commit_bit #[.int .i64 side3] (fun (v380 : Bool) h =>
  stillAggK (sizeOfT Try.prog T.api_Tag) h nonce_2 v5 ∧
  commit_Coin.tail m0 v380 v5 v3 R v379 h) h)))) h))))))))) ∧
  (newSlK h 1 #[(.int .u8 (IntKind.u8.wrap player2))] T.uint8 (fun v383 h =>
  ((callK Try.prog .bool F.commit_bit #[.int .i64 side3] (fun (v384 : Bool) h =>
  stillAggK (sizeOfT Try.prog T.api_Tag) h nonce_2 v5 ∧
  newSlK h 4 #[.int .u8 99, .int .u8 111, .int .u8 105, .int .u8 110] T.uint8 (fun v385 h =>
  opK Try.prog .slice (convert T.sl_uint8 T.sl_uint8 (.slice v385.a v385.n v385.c)) (fun (v386 : Sl) h =>
  newSlK h 4 #[.slice v386.a v386.n v386.c, .slice v4.a v4.n v4.c, .slice v383.a v383.n v383.c, .slice v322.a v322.n v322.c] T.sl_uint8 (fun v387 h =>
  commit_Coin.tail m0 v384 v5 v3 R v387 h)) h)) h) ∧
  (newSlK h 4 #[.int .u8 99, .int .u8 111, .int .u8 105, .int .u8 110] T.uint8 (fun v390 h =>
  ((callK Try.prog .bool F.commit_bit #[.int .i64 side3] (fun (v391 : Bool) h =>
  stillAggK (sizeOfT Try.prog T.api_Tag) h nonce_2 v5 ∧
  opK Try.prog .slice (convert T.sl_uint8 T.sl_uint8 (.slice v390.a v390.n v390.c)) (fun (v392 : Sl) h =>
  newSlK h 4 #[.slice v392.a v392.n v392.c, .slice v4.a v4.n v4.c, .slice v383.a v383.n v383.c, .slice v322.a v322.n v322.c] T.sl_uint8 (fun v393 h =>
  commit_Coin.tail m0 v391 v5 v3 R v393 h)) h) h) ∧
  (opK Try.prog .slice (convert T.sl_uint8 T.sl_uint8 (.slice v390.a v390.n v390.c)) (fun (v396 : Sl) h =>
  ((callK Try.prog .bool F.commit_bit #[.int .i64 side3] (fun (v397 : Bool) h =>
  stillAggK (sizeOfT Try.prog T.api_Tag) h nonce_2 v5 ∧
  newSlK h 4 #[.slice v396.a v396.n v396.c, .slice v4.a v4.n v4.c, .slice v383.a v383.n v383.c, .slice v322.a v322.n v322.c] T.sl_uint8 (fun v398 h =>
  commit_Coin.tail m0 v397 v5 v3 R v398 h)) h) ∧
  (newSlK h 4 #[.slice v396.a v396.n v396.c, .slice v4.a v4.n v4.c, .slice v383.a v383.n v383.c, .slice v322.a v322.n v322.c] T.sl_uint8 (fun v401 h =>
  callK Try.prog .bool F.commit_bit #[.int .i64 side3] (fun (v402 : Bool) h =>
  stillAggK (sizeOfT Try.prog T.api_Tag) h nonce_2 v5 ∧
  commit_Coin.tail m0 v402 v5 v3 R v401 h) h)))) h)))))))))))))))))
  else
  ((newSlK h 4 #[.int .u8 99, .int .u8 111, .int .u8 105, .int .u8 110] T.uint8 (fun v405 h =>
  ((opK Try.prog .slice (convert T.sl_uint8 T.sl_uint8 (.slice v405.a v405.n v405.c)) (fun (v406 : Sl) h =>
  ((newSlK h 1 #[(.int .u8 (IntKind.u8.wrap player2))] T.uint8 (fun v407 h =>
  newSlK h 1 #[(.int .u8 (IntKind.u8.wrap side3))] T.uint8 (fun v408 h =>
  newSlK h 4 #[.slice v406.a v406.n v406.c, .slice v4.a v4.n v4.c, .slice v407.a v407.n v407.c, .slice v408.a v408.n v408.c] T.sl_uint8 (fun v409 h =>
  commit_Coin.tail m0 false v5 v3 R v409 h)))) ∧
  (newSlK h 1 #[(.int .u8 (IntKind.u8.wrap side3))] T.uint8 (fun v412 h =>
  newSlK h 1 #[(.int .u8 (IntKind.u8.wrap player2))] T.uint8 (fun v413 h =>
  newSlK h 4 #[.slice v406.a v406.n v406.c, .slice v4.a v4.n v4.c, .slice v413.a v413.n v413.c, .slice v412.a v412.n v412.c] T.sl_uint8 (fun v414 h =>
  commit_Coin.tail m0 false v5 v3 R v414 h)))))) h) ∧
  (((newSlK h 1 #[(.int .u8 (IntKind.u8.wrap player2))] T.uint8 (fun v417 h =>
  ((opK Try.prog .slice (convert T.sl_uint8 T.sl_uint8 (.slice v405.a v405.n v405.c)) (fun (v418 : Sl) h =>
  newSlK h 1 #[(.int .u8 (IntKind.u8.wrap side3))] T.uint8 (fun v419 h =>
  newSlK h 4 #[.slice v418.a v418.n v418.c, .slice v4.a v4.n v4.c, .slice v417.a v417.n v417.c, .slice v419.a v419.n v419.c] T.sl_uint8 (fun v420 h =>
  commit_Coin.tail m0 false v5 v3 R v420 h))) h) ∧
  (newSlK h 1 #[(.int .u8 (IntKind.u8.wrap side3))] T.uint8 (fun v423 h =>
  opK Try.prog .slice (convert T.sl_uint8 T.sl_uint8 (.slice v405.a v405.n v405.c)) (fun (v424 : Sl) h =>
  newSlK h 4 #[.slice v424.a v424.n v424.c, .slice v4.a v4.n v4.c, .slice v417.a v417.n v417.c, .slice v423.a v423.n v423.c] T.sl_uint8 (fun v425 h =>
  commit_Coin.tail m0 false v5 v3 R v425 h)) h))))) ∧
  (newSlK h 1 #[(.int .u8 (IntKind.u8.wrap side3))] T.uint8 (fun v428 h =>
  ((opK Try.prog .slice (convert T.sl_uint8 T.sl_uint8 (.slice v405.a v405.n v405.c)) (fun (v429 : Sl) h =>
  newSlK h 1 #[(.int .u8 (IntKind.u8.wrap player2))] T.uint8 (fun v430 h =>
  newSlK h 4 #[.slice v429.a v429.n v429.c, .slice v4.a v4.n v4.c, .slice v430.a v430.n v430.c, .slice v428.a v428.n v428.c] T.sl_uint8 (fun v431 h =>
  commit_Coin.tail m0 false v5 v3 R v431 h))) h) ∧
  (newSlK h 1 #[(.int .u8 (IntKind.u8.wrap player2))] T.uint8 (fun v434 h =>
  opK Try.prog .slice (convert T.sl_uint8 T.sl_uint8 (.slice v405.a v405.n v405.c)) (fun (v435 : Sl) h =>
  newSlK h 4 #[.slice v435.a v435.n v435.c, .slice v4.a v4.n v4.c, .slice v434.a v434.n v434.c, .slice v428.a v428.n v428.c] T.sl_uint8 (fun v436 h =>
  commit_Coin.tail m0 false v5 v3 R v436 h)) h)))))))))) ∧
  (((newSlK h 1 #[(.int .u8 (IntKind.u8.wrap player2))] T.uint8 (fun v439 h =>
  ((newSlK h 4 #[.int .u8 99, .int .u8 111, .int .u8 105, .int .u8 110] T.uint8 (fun v440 h =>
  ((opK Try.prog .slice (convert T.sl_uint8 T.sl_uint8 (.slice v440.a v440.n v440.c)) (fun (v441 : Sl) h =>
  newSlK h 1 #[(.int .u8 (IntKind.u8.wrap side3))] T.uint8 (fun v442 h =>
  newSlK h 4 #[.slice v441.a v441.n v441.c, .slice v4.a v4.n v4.c, .slice v439.a v439.n v439.c, .slice v442.a v442.n v442.c] T.sl_uint8 (fun v443 h =>
  commit_Coin.tail m0 false v5 v3 R v443 h))) h) ∧
  (newSlK h 1 #[(.int .u8 (IntKind.u8.wrap side3))] T.uint8 (fun v446 h =>
  opK Try.prog .slice (convert T.sl_uint8 T.sl_uint8 (.slice v440.a v440.n v440.c)) (fun (v447 : Sl) h =>
  newSlK h 4 #[.slice v447.a v447.n v447.c, .slice v4.a v4.n v4.c, .slice v439.a v439.n v439.c, .slice v446.a v446.n v446.c] T.sl_uint8 (fun v448 h =>
  commit_Coin.tail m0 false v5 v3 R v448 h)) h))))) ∧
  (newSlK h 1 #[(.int .u8 (IntKind.u8.wrap side3))] T.uint8 (fun v451 h =>
  newSlK h 4 #[.int .u8 99, .int .u8 111, .int .u8 105, .int .u8 110] T.uint8 (fun v452 h =>
  opK Try.prog .slice (convert T.sl_uint8 T.sl_uint8 (.slice v452.a v452.n v452.c)) (fun (v453 : Sl) h =>
  newSlK h 4 #[.slice v453.a v453.n v453.c, .slice v4.a v4.n v4.c, .slice v439.a v439.n v439.c, .slice v451.a v451.n v451.c] T.sl_uint8 (fun v454 h =>
  commit_Coin.tail m0 false v5 v3 R v454 h)) h)))))) ∧
  (newSlK h 1 #[(.int .u8 (IntKind.u8.wrap side3))] T.uint8 (fun v457 h =>
  ((newSlK h 4 #[.int .u8 99, .int .u8 111, .int .u8 105, .int .u8 110] T.uint8 (fun v458 h =>
  ((opK Try.prog .slice (convert T.sl_uint8 T.sl_uint8 (.slice v458.a v458.n v458.c)) (fun (v459 : Sl) h =>
  newSlK h 1 #[(.int .u8 (IntKind.u8.wrap player2))] T.uint8 (fun v460 h =>
  newSlK h 4 #[.slice v459.a v459.n v459.c, .slice v4.a v4.n v4.c, .slice v460.a v460.n v460.c, .slice v457.a v457.n v457.c] T.sl_uint8 (fun v461 h =>
  commit_Coin.tail m0 false v5 v3 R v461 h))) h) ∧
  (newSlK h 1 #[(.int .u8 (IntKind.u8.wrap player2))] T.uint8 (fun v464 h =>
  opK Try.prog .slice (convert T.sl_uint8 T.sl_uint8 (.slice v458.a v458.n v458.c)) (fun (v465 : Sl) h =>
  newSlK h 4 #[.slice v465.a v465.n v465.c, .slice v4.a v4.n v4.c, .slice v464.a v464.n v464.c, .slice v457.a v457.n v457.c] T.sl_uint8 (fun v466 h =>
  commit_Coin.tail m0 false v5 v3 R v466 h)) h))))) ∧
  (newSlK h 1 #[(.int .u8 (IntKind.u8.wrap player2))] T.uint8 (fun v469 h =>
  newSlK h 4 #[.int .u8 99, .int .u8 111, .int .u8 105, .int .u8 110] T.uint8 (fun v470 h =>
  opK Try.prog .slice (convert T.sl_uint8 T.sl_uint8 (.slice v470.a v470.n v470.c)) (fun (v471 : Sl) h =>
  newSlK h 4 #[.slice v471.a v471.n v471.c, .slice v4.a v4.n v4.c, .slice v469.a v469.n v469.c, .slice v457.a v457.n v457.c] T.sl_uint8 (fun v472 h =>
  commit_Coin.tail m0 false v5 v3 R v472 h)) h)))))))))) h) ∧
  (((newSlK h 4 #[.int .u8 99, .int .u8 111, .int .u8 105, .int .u8 110] T.uint8 (fun v475 h =>
  ((callK Try.prog .bool F.commit_bit #[.int .i64 player2] (fun (v476 : Bool) h =>
  stillAggK (sizeOfT Try.prog T.api_Tag) h nonce_2 v5 ∧
  if v476 = true then
  ((callK Try.prog .bool F.commit_bit #[.int .i64 side3] (fun (v477 : Bool) h =>
  stillAggK (sizeOfT Try.prog T.api_Tag) h nonce_2 v5 ∧
  ((opK Try.prog .slice (convert T.sl_uint8 T.sl_uint8 (.slice v475.a v475.n v475.c)) (fun (v478 : Sl) h =>
  ((newSlK h 1 #[(.int .u8 (IntKind.u8.wrap player2))] T.uint8 (fun v479 h =>
  newSlK h 1 #[(.int .u8 (IntKind.u8.wrap side3))] T.uint8 (fun v480 h =>
  newSlK h 4 #[.slice v478.a v478.n v478.c, .slice v4.a v4.n v4.c, .slice v479.a v479.n v479.c, .slice v480.a v480.n v480.c] T.sl_uint8 (fun v481 h =>
  commit_Coin.tail m0 v477 v5 v3 R v481 h)))) ∧
  (newSlK h 1 #[(.int .u8 (IntKind.u8.wrap side3))] T.uint8 (fun v484 h =>
  newSlK h 1 #[(.int .u8 (IntKind.u8.wrap player2))] T.uint8 (fun v485 h =>
  newSlK h 4 #[.slice v478.a v478.n v478.c, .slice v4.a v4.n v4.c, .slice v485.a v485.n v485.c, .slice v484.a v484.n v484.c] T.sl_uint8 (fun v486 h =>
  commit_Coin.tail m0 v477 v5 v3 R v486 h)))))) h) ∧
  (((newSlK h 1 #[(.int .u8 (IntKind.u8.wrap player2))] T.uint8 (fun v489 h =>
  ((opK Try.prog .slice (convert T.sl_uint8 T.sl_uint8 (.slice v475.a v475.n v475.c)) (fun (v490 : Sl) h =>
  newSlK h 1 #[(.int .u8 (IntKind.u8.wrap side3))] T.uint8 (fun v491 h =>
  newSlK h 4 #[.slice v490.a v490.n v490.c, .slice v4.a v4.n v4.c, .slice v489.a v489.n v489.c, .slice v491.a v491.n v491.c] T.sl_uint8 (fun v492 h =>
  commit_Coin.tail m0 v477 v5 v3 R v492 h))) h) ∧
  (newSlK h 1 #[(.int .u8 (IntKind.u8.wrap side3))] T.uint8 (fun v495 h =>
  opK Try.prog .slice (convert T.sl_uint8 T.sl_uint8 (.slice v475.a v475.n v475.c)) (fun (v496 : Sl) h =>
  newSlK h 4 #[.slice v496.a v496.n v496.c, .slice v4.a v4.n v4.c, .slice v489.a v489.n v489.c, .slice v495.a v495.n v495.c] T.sl_uint8 (fun v497 h =>
  commit_Coin.tail m0 v477 v5 v3 R v497 h)) h))))) ∧
  (newSlK h 1 #[(.int .u8 (IntKind.u8.wrap side3))] T.uint8 (fun v500 h =>
  ((opK Try.prog .slice (convert T.sl_uint8 T.sl_uint8 (.slice v475.a v475.n v475.c)) (fun (v501 : Sl) h =>
  newSlK h 1 #[(.int .u8 (IntKind.u8.wrap player2))] T.uint8 (fun v502 h =>
  newSlK h 4 #[.slice v501.a v501.n v501.c, .slice v4.a v4.n v4.c, .slice v502.a v502.n v502.c, .slice v500.a v500.n v500.c] T.sl_uint8 (fun v503 h =>
  commit_Coin.tail m0 v477 v5 v3 R v503 h))) h) ∧
  (newSlK h 1 #[(.int .u8 (IntKind.u8.wrap player2))] T.uint8 (fun v506 h =>
  opK Try.prog .slice (convert T.sl_uint8 T.sl_uint8 (.slice v475.a v475.n v475.c)) (fun (v507 : Sl) h =>
  newSlK h 4 #[.slice v507.a v507.n v507.c, .slice v4.a v4.n v4.c, .slice v506.a v506.n v506.c, .slice v500.a v500.n v500.c] T.sl_uint8 (fun v508 h =>
  commit_Coin.tail m0 v477 v5 v3 R v508 h)) h))))))))) h) ∧
  (((opK Try.prog .slice (convert T.sl_uint8 T.sl_uint8 (.slice v475.a v475.n v475.c)) (fun (v511 : Sl) h =>
  ((callK Try.prog .bool F.commit_bit #[.int .i64 side3] (fun (v512 : Bool) h =>
  stillAggK (sizeOfT Try.prog T.api_Tag) h nonce_2 v5 ∧
  ((newSlK h 1 #[(.int .u8 (IntKind.u8.wrap player2))] T.uint8 (fun v513 h =>
  newSlK h 1 #[(.int .u8 (IntKind.u8.wrap side3))] T.uint8 (fun v514 h =>
  newSlK h 4 #[.slice v511.a v511.n v511.c, .slice v4.a v4.n v4.c, .slice v513.a v513.n v513.c, .slice v514.a v514.n v514.c] T.sl_uint8 (fun v515 h =>
  commit_Coin.tail m0 v512 v5 v3 R v515 h)))) ∧
  (newSlK h 1 #[(.int .u8 (IntKind.u8.wrap side3))] T.uint8 (fun v518 h =>
  newSlK h 1 #[(.int .u8 (IntKind.u8.wrap player2))] T.uint8 (fun v519 h =>
  newSlK h 4 #[.slice v511.a v511.n v511.c, .slice v4.a v4.n v4.c, .slice v519.a v519.n v519.c, .slice v518.a v518.n v518.c] T.sl_uint8 (fun v520 h =>
  commit_Coin.tail m0 v512 v5 v3 R v520 h)))))) h) ∧
  (((newSlK h 1 #[(.int .u8 (IntKind.u8.wrap player2))] T.uint8 (fun v523 h =>
  ((callK Try.prog .bool F.commit_bit #[.int .i64 side3] (fun (v524 : Bool) h =>
  stillAggK (sizeOfT Try.prog T.api_Tag) h nonce_2 v5 ∧
  newSlK h 1 #[(.int .u8 (IntKind.u8.wrap side3))] T.uint8 (fun v525 h =>
  newSlK h 4 #[.slice v511.a v511.n v511.c, .slice v4.a v4.n v4.c, .slice v523.a v523.n v523.c, .slice v525.a v525.n v525.c] T.sl_uint8 (fun v526 h =>
  commit_Coin.tail m0 v524 v5 v3 R v526 h))) h) ∧
  (newSlK h 1 #[(.int .u8 (IntKind.u8.wrap side3))] T.uint8 (fun v529 h =>
  ((callK Try.prog .bool F.commit_bit #[.int .i64 side3] (fun (v530 : Bool) h =>
  stillAggK (sizeOfT Try.prog T.api_Tag) h nonce_2 v5 ∧
  newSlK h 4 #[.slice v511.a v511.n v511.c, .slice v4.a v4.n v4.c, .slice v523.a v523.n v523.c, .slice v529.a v529.n v529.c] T.sl_uint8 (fun v531 h =>
  commit_Coin.tail m0 v530 v5 v3 R v531 h)) h) ∧
  (newSlK h 4 #[.slice v511.a v511.n v511.c, .slice v4.a v4.n v4.c, .slice v523.a v523.n v523.c, .slice v529.a v529.n v529.c] T.sl_uint8 (fun v534 h =>
  callK Try.prog .bool F.commit_bit #[.int .i64 side3] (fun (v535 : Bool) h =>
  stillAggK (sizeOfT Try.prog T.api_Tag) h nonce_2 v5 ∧
  commit_Coin.tail m0 v535 v5 v3 R v534 h) h)))))))) ∧
  (newSlK h 1 #[(.int .u8 (IntKind.u8.wrap side3))] T.uint8 (fun v538 h =>
  ((callK Try.prog .bool F.commit_bit #[.int .i64 side3] (fun (v539 : Bool) h =>
  stillAggK (sizeOfT Try.prog T.api_Tag) h nonce_2 v5 ∧
  newSlK h 1 #[(.int .u8 (IntKind.u8.wrap player2))] T.uint8 (fun v540 h =>
  newSlK h 4 #[.slice v511.a v511.n v511.c, .slice v4.a v4.n v4.c, .slice v540.a v540.n v540.c, .slice v538.a v538.n v538.c] T.sl_uint8 (fun v541 h =>
  commit_Coin.tail m0 v539 v5 v3 R v541 h))) h) ∧
  (newSlK h 1 #[(.int .u8 (IntKind.u8.wrap player2))] T.uint8 (fun v544 h =>
  ((callK Try.prog .bool F.commit_bit #[.int .i64 side3] (fun (v545 : Bool) h =>
  stillAggK (sizeOfT Try.prog T.api_Tag) h nonce_2 v5 ∧
  newSlK h 4 #[.slice v511.a v511.n v511.c, .slice v4.a v4.n v4.c, .slice v544.a v544.n v544.c, .slice v538.a v538.n v538.c] T.sl_uint8 (fun v546 h =>
  commit_Coin.tail m0 v545 v5 v3 R v546 h)) h) ∧
  (newSlK h 4 #[.slice v511.a v511.n v511.c, .slice v4.a v4.n v4.c, .slice v544.a v544.n v544.c, .slice v538.a v538.n v538.c] T.sl_uint8 (fun v549 h =>
  callK Try.prog .bool F.commit_bit #[.int .i64 side3] (fun (v550 : Bool) h =>
  stillAggK (sizeOfT Try.prog T.api_Tag) h nonce_2 v5 ∧
  commit_Coin.tail m0 v550 v5 v3 R v549 h) h)))))))))))) h) ∧
  (((newSlK h 1 #[(.int .u8 (IntKind.u8.wrap player2))] T.uint8 (fun v553 h =>
  ((callK Try.prog .bool F.commit_bit #[.int .i64 side3] (fun (v554 : Bool) h =>
  stillAggK (sizeOfT Try.prog T.api_Tag) h nonce_2 v5 ∧
  ((opK Try.prog .slice (convert T.sl_uint8 T.sl_uint8 (.slice v475.a v475.n v475.c)) (fun (v555 : Sl) h =>
  newSlK h 1 #[(.int .u8 (IntKind.u8.wrap side3))] T.uint8 (fun v556 h =>
  newSlK h 4 #[.slice v555.a v555.n v555.c, .slice v4.a v4.n v4.c, .slice v553.a v553.n v553.c, .slice v556.a v556.n v556.c] T.sl_uint8 (fun v557 h =>
  commit_Coin.tail m0 v554 v5 v3 R v557 h))) h) ∧
  (newSlK h 1 #[(.int .u8 (IntKind.u8.wrap side3))] T.uint8 (fun v560 h =>
  opK Try.prog .slice (convert T.sl_uint8 T.sl_uint8 (.slice v475.a v475.n v475.c)) (fun (v561 : Sl) h =>
  newSlK h 4 #[.slice v561.a v561.n v561.c, .slice v4.a v4.n v4.c, .slice v553.a v553.n v553.c, .slice v560.a v560.n v560.c] T.sl_uint8 (fun v562 h =>
  commit_Coin.tail m0 v554 v5 v3 R v562 h)) h)))) h) ∧
  (((opK Try.prog .slice (convert T.sl_uint8 T.sl_uint8 (.slice v475.a v475.n v475.c)) (fun (v565 : Sl) h =>
  ((callK Try.prog .bool F.commit_bit #[.int .i64 side3] (fun (v566 : Bool) h =>
  stillAggK (sizeOfT Try.prog T.api_Tag) h nonce_2 v5 ∧
  newSlK h 1 #[(.int .u8 (IntKind.u8.wrap side3))] T.uint8 (fun v567 h =>
  newSlK h 4 #[.slice v565.a v565.n v565.c, .slice v4.a v4.n v4.c, .slice v553.a v553.n v553.c, .slice v567.a v567.n v567.c] T.sl_uint8 (fun v568 h =>
  commit_Coin.tail m0 v566 v5 v3 R v568 h))) h) ∧
  (newSlK h 1 #[(.int .u8 (IntKind.u8.wrap side3))] T.uint8 (fun v571 h =>
  ((callK Try.prog .bool F.commit_bit #[.int .i64 side3] (fun (v572 : Bool) h =>
  stillAggK (sizeOfT Try.prog T.api_Tag) h nonce_2 v5 ∧
  newSlK h 4 #[.slice v565.a v565.n v565.c, .slice v4.a v4.n v4.c, .slice v553.a v553.n v553.c, .slice v571.a v571.n v571.c] T.sl_uint8 (fun v573 h =>
  commit_Coin.tail m0 v572 v5 v3 R v573 h)) h) ∧
  (newSlK h 4 #[.slice v565.a v565.n v565.c, .slice v4.a v4.n v4.c, .slice v553.a v553.n v553.c, .slice v571.a v571.n v571.c] T.sl_uint8 (fun v576 h =>
  callK Try.prog .bool F.commit_bit #[.int .i64 side3] (fun (v577 : Bool) h =>
  stillAggK (sizeOfT Try.prog T.api_Tag) h nonce_2 v5 ∧
  commit_Coin.tail m0 v577 v5 v3 R v576 h) h))))))) h) ∧
  (newSlK h 1 #[(.int .u8 (IntKind.u8.wrap side3))] T.uint8 (fun v580 h =>
  ((callK Try.prog .bool F.commit_bit #[.int .i64 side3] (fun (v581 : Bool) h =>
  stillAggK (sizeOfT Try.prog T.api_Tag) h nonce_2 v5 ∧
  opK Try.prog .slice (convert T.sl_uint8 T.sl_uint8 (.slice v475.a v475.n v475.c)) (fun (v582 : Sl) h =>
  newSlK h 4 #[.slice v582.a v582.n v582.c, .slice v4.a v4.n v4.c, .slice v553.a v553.n v553.c, .slice v580.a v580.n v580.c] T.sl_uint8 (fun v583 h =>
  commit_Coin.tail m0 v581 v5 v3 R v583 h)) h) h) ∧
  (opK Try.prog .slice (convert T.sl_uint8 T.sl_uint8 (.slice v475.a v475.n v475.c)) (fun (v586 : Sl) h =>
  ((callK Try.prog .bool F.commit_bit #[.int .i64 side3] (fun (v587 : Bool) h =>
  stillAggK (sizeOfT Try.prog T.api_Tag) h nonce_2 v5 ∧
  newSlK h 4 #[.slice v586.a v586.n v586.c, .slice v4.a v4.n v4.c, .slice v553.a v553.n v553.c, .slice v580.a v580.n v580.c] T.sl_uint8 (fun v588 h =>
  commit_Coin.tail m0 v587 v5 v3 R v588 h)) h) ∧
  (newSlK h 4 #[.slice v586.a v586.n v586.c, .slice v4.a v4.n v4.c, .slice v553.a v553.n v553.c, .slice v580.a v580.n v580.c] T.sl_uint8 (fun v591 h =>
  callK Try.prog .bool F.commit_bit #[.int .i64 side3] (fun (v592 : Bool) h =>
  stillAggK (sizeOfT Try.prog T.api_Tag) h nonce_2 v5 ∧
  commit_Coin.tail m0 v592 v5 v3 R v591 h) h)))) h))))))))) ∧
  (newSlK h 1 #[(.int .u8 (IntKind.u8.wrap side3))] T.uint8 (fun v595 h =>
  ((callK Try.prog .bool F.commit_bit #[.int .i64 side3] (fun (v596 : Bool) h =>
  stillAggK (sizeOfT Try.prog T.api_Tag) h nonce_2 v5 ∧
  ((opK Try.prog .slice (convert T.sl_uint8 T.sl_uint8 (.slice v475.a v475.n v475.c)) (fun (v597 : Sl) h =>
  newSlK h 1 #[(.int .u8 (IntKind.u8.wrap player2))] T.uint8 (fun v598 h =>
  newSlK h 4 #[.slice v597.a v597.n v597.c, .slice v4.a v4.n v4.c, .slice v598.a v598.n v598.c, .slice v595.a v595.n v595.c] T.sl_uint8 (fun v599 h =>
  commit_Coin.tail m0 v596 v5 v3 R v599 h))) h) ∧
  (newSlK h 1 #[(.int .u8 (IntKind.u8.wrap player2))] T.uint8 (fun v602 h =>
  opK Try.prog .slice (convert T.sl_uint8 T.sl_uint8 (.slice v475.a v475.n v475.c)) (fun (v603 : Sl) h =>
  newSlK h 4 #[.slice v603.a v603.n v603.c, .slice v4.a v4.n v4.c, .slice v602.a v602.n v602.c, .slice v595.a v595.n v595.c] T.sl_uint8 (fun v604 h =>
  commit_Coin.tail m0 v596 v5 v3 R v604 h)) h)))) h) ∧
  (((opK Try.prog .slice (convert T.sl_uint8 T.sl_uint8 (.slice v475.a v475.n v475.c)) (fun (v607 : Sl) h =>
  ((callK Try.prog .bool F.commit_bit #[.int .i64 side3] (fun (v608 : Bool) h =>
  stillAggK (sizeOfT Try.prog T.api_Tag) h nonce_2 v5 ∧
  newSlK h 1 #[(.int .u8 (IntKind.u8.wrap player2))] T.uint8 (fun v609 h =>
  newSlK h 4 #[.slice v607.a v607.n v607.c, .slice v4.a v4.n v4.c, .slice v609.a v609.n v609.c, .slice v595.a v595.n v595.c] T.sl_uint8 (fun v610 h =>
  commit_Coin.tail m0 v608 v5 v3 R v610 h))) h) ∧
  (newSlK h 1 #[(.int .u8 (IntKind.u8.wrap player2))] T.uint8 (fun v613 h =>
  ((callK Try.prog .bool F.commit_bit #[.int .i64 side3] (fun (v614 : Bool) h =>
  stillAggK (sizeOfT Try.prog T.api_Tag) h nonce_2 v5 ∧
  newSlK h 4 #[.slice v607.a v607.n v607.c, .slice v4.a v4.n v4.c, .slice v613.a v613.n v613.c, .slice v595.a v595.n v595.c] T.sl_uint8 (fun v615 h =>
  commit_Coin.tail m0 v614 v5 v3 R v615 h)) h) ∧
  (newSlK h 4 #[.slice v607.a v607.n v607.c, .slice v4.a v4.n v4.c, .slice v613.a v613.n v613.c, .slice v595.a v595.n v595.c] T.sl_uint8 (fun v618 h =>
  callK Try.prog .bool F.commit_bit #[.int .i64 side3] (fun (v619 : Bool) h =>
  stillAggK (sizeOfT Try.prog T.api_Tag) h nonce_2 v5 ∧
  commit_Coin.tail m0 v619 v5 v3 R v618 h) h))))))) h) ∧
  (newSlK h 1 #[(.int .u8 (IntKind.u8.wrap player2))] T.uint8 (fun v622 h =>
  ((callK Try.prog .bool F.commit_bit #[.int .i64 side3] (fun (v623 : Bool) h =>
  stillAggK (sizeOfT Try.prog T.api_Tag) h nonce_2 v5 ∧
  opK Try.prog .slice (convert T.sl_uint8 T.sl_uint8 (.slice v475.a v475.n v475.c)) (fun (v624 : Sl) h =>
  newSlK h 4 #[.slice v624.a v624.n v624.c, .slice v4.a v4.n v4.c, .slice v622.a v622.n v622.c, .slice v595.a v595.n v595.c] T.sl_uint8 (fun v625 h =>
  commit_Coin.tail m0 v623 v5 v3 R v625 h)) h) h) ∧
  (opK Try.prog .slice (convert T.sl_uint8 T.sl_uint8 (.slice v475.a v475.n v475.c)) (fun (v628 : Sl) h =>
  ((callK Try.prog .bool F.commit_bit #[.int .i64 side3] (fun (v629 : Bool) h =>
  stillAggK (sizeOfT Try.prog T.api_Tag) h nonce_2 v5 ∧
  newSlK h 4 #[.slice v628.a v628.n v628.c, .slice v4.a v4.n v4.c, .slice v622.a v622.n v622.c, .slice v595.a v595.n v595.c] T.sl_uint8 (fun v630 h =>
  commit_Coin.tail m0 v629 v5 v3 R v630 h)) h) ∧
  (newSlK h 4 #[.slice v628.a v628.n v628.c, .slice v4.a v4.n v4.c, .slice v622.a v622.n v622.c, .slice v595.a v595.n v595.c] T.sl_uint8 (fun v633 h =>
  callK Try.prog .bool F.commit_bit #[.int .i64 side3] (fun (v634 : Bool) h =>
  stillAggK (sizeOfT Try.prog T.api_Tag) h nonce_2 v5 ∧
  commit_Coin.tail m0 v634 v5 v3 R v633 h) h)))) h))))))))))))))
  else
  ((opK Try.prog .slice (convert T.sl_uint8 T.sl_uint8 (.slice v475.a v475.n v475.c)) (fun (v637 : Sl) h =>
  ((newSlK h 1 #[(.int .u8 (IntKind.u8.wrap player2))] T.uint8 (fun v638 h =>
  newSlK h 1 #[(.int .u8 (IntKind.u8.wrap side3))] T.uint8 (fun v639 h =>
  newSlK h 4 #[.slice v637.a v637.n v637.c, .slice v4.a v4.n v4.c, .slice v638.a v638.n v638.c, .slice v639.a v639.n v639.c] T.sl_uint8 (fun v640 h =>
  commit_Coin.tail m0 false v5 v3 R v640 h)))) ∧
  (newSlK h 1 #[(.int .u8 (IntKind.u8.wrap side3))] T.uint8 (fun v643 h =>
  newSlK h 1 #[(.int .u8 (IntKind.u8.wrap player2))] T.uint8 (fun v644 h =>
  newSlK h 4 #[.slice v637.a v637.n v637.c, .slice v4.a v4.n v4.c, .slice v644.a v644.n v644.c, .slice v643.a v643.n v643.c] T.sl_uint8 (fun v645 h =>
  commit_Coin.tail m0 false v5 v3 R v645 h)))))) h) ∧
  (((newSlK h 1 #[(.int .u8 (IntKind.u8.wrap player2))] T.uint8 (fun v648 h =>
  ((opK Try.prog .slice (convert T.sl_uint8 T.sl_uint8 (.slice v475.a v475.n v475.c)) (fun (v649 : Sl) h =>
  newSlK h 1 #[(.int .u8 (IntKind.u8.wrap side3))] T.uint8 (fun v650 h =>
  newSlK h 4 #[.slice v649.a v649.n v649.c, .slice v4.a v4.n v4.c, .slice v648.a v648.n v648.c, .slice v650.a v650.n v650.c] T.sl_uint8 (fun v651 h =>
  commit_Coin.tail m0 false v5 v3 R v651 h))) h) ∧
  (newSlK h 1 #[(.int .u8 (IntKind.u8.wrap side3))] T.uint8 (fun v654 h =>
  opK Try.prog .slice (convert T.sl_uint8 T.sl_uint8 (.slice v475.a v475.n v475.c)) (fun (v655 : Sl) h =>
  newSlK h 4 #[.slice v655.a v655.n v655.c, .slice v4.a v4.n v4.c, .slice v648.a v648.n v648.c, .slice v654.a v654.n v654.c] T.sl_uint8 (fun v656 h =>
  commit_Coin.tail m0 false v5 v3 R v656 h)) h))))) ∧
  (newSlK h 1 #[(.int .u8 (IntKind.u8.wrap side3))] T.uint8 (fun v659 h =>
  ((opK Try.prog .slice (convert T.sl_uint8 T.sl_uint8 (.slice v475.a v475.n v475.c)) (fun (v660 : Sl) h =>
  newSlK h 1 #[(.int .u8 (IntKind.u8.wrap player2))] T.uint8 (fun v661 h =>
  newSlK h 4 #[.slice v660.a v660.n v660.c, .slice v4.a v4.n v4.c, .slice v661.a v661.n v661.c, .slice v659.a v659.n v659.c] T.sl_uint8 (fun v662 h =>
  commit_Coin.tail m0 false v5 v3 R v662 h))) h) ∧
  (newSlK h 1 #[(.int .u8 (IntKind.u8.wrap player2))] T.uint8 (fun v665 h =>
  opK Try.prog .slice (convert T.sl_uint8 T.sl_uint8 (.slice v475.a v475.n v475.c)) (fun (v666 : Sl) h =>
  newSlK h 4 #[.slice v666.a v666.n v666.c, .slice v4.a v4.n v4.c, .slice v665.a v665.n v665.c, .slice v659.a v659.n v659.c] T.sl_uint8 (fun v667 h =>
  commit_Coin.tail m0 false v5 v3 R v667 h)) h))))))))) h) ∧
  (((opK Try.prog .slice (convert T.sl_uint8 T.sl_uint8 (.slice v475.a v475.n v475.c)) (fun (v670 : Sl) h =>
  ((callK Try.prog .bool F.commit_bit #[.int .i64 player2] (fun (v671 : Bool) h =>
  stillAggK (sizeOfT Try.prog T.api_Tag) h nonce_2 v5 ∧
  if v671 = true then
  ((callK Try.prog .bool F.commit_bit #[.int .i64 side3] (fun (v672 : Bool) h =>
  stillAggK (sizeOfT Try.prog T.api_Tag) h nonce_2 v5 ∧
  ((newSlK h 1 #[(.int .u8 (IntKind.u8.wrap player2))] T.uint8 (fun v673 h =>
  newSlK h 1 #[(.int .u8 (IntKind.u8.wrap side3))] T.uint8 (fun v674 h =>
  newSlK h 4 #[.slice v670.a v670.n v670.c, .slice v4.a v4.n v4.c, .slice v673.a v673.n v673.c, .slice v674.a v674.n v674.c] T.sl_uint8 (fun v675 h =>
  commit_Coin.tail m0 v672 v5 v3 R v675 h)))) ∧
  (newSlK h 1 #[(.int .u8 (IntKind.u8.wrap side3))] T.uint8 (fun v678 h =>
  newSlK h 1 #[(.int .u8 (IntKind.u8.wrap player2))] T.uint8 (fun v679 h =>
  newSlK h 4 #[.slice v670.a v670.n v670.c, .slice v4.a v4.n v4.c, .slice v679.a v679.n v679.c, .slice v678.a v678.n v678.c] T.sl_uint8 (fun v680 h =>
  commit_Coin.tail m0 v672 v5 v3 R v680 h)))))) h) ∧
  (((newSlK h 1 #[(.int .u8 (IntKind.u8.wrap player2))] T.uint8 (fun v683 h =>
  ((callK Try.prog .bool F.commit_bit #[.int .i64 side3] (fun (v684 : Bool) h =>
  stillAggK (sizeOfT Try.prog T.api_Tag) h nonce_2 v5 ∧
  newSlK h 1 #[(.int .u8 (IntKind.u8.wrap side3))] T.uint8 (fun v685 h =>
  newSlK h 4 #[.slice v670.a v670.n v670.c, .slice v4.a v4.n v4.c, .slice v683.a v683.n v683.c, .slice v685.a v685.n v685.c] T.sl_uint8 (fun v686 h =>
  commit_Coin.tail m0 v684 v5 v3 R v686 h))) h) ∧
  (newSlK h 1 #[(.int .u8 (IntKind.u8.wrap side3))] T.uint8 (fun v689 h =>
  ((callK Try.prog .bool F.commit_bit #[.int .i64 side3] (fun (v690 : Bool) h =>
  stillAggK (sizeOfT Try.prog T.api_Tag) h nonce_2 v5 ∧
  newSlK h 4 #[.slice v670.a v670.n v670.c, .slice v4.a v4.n v4.c, .slice v683.a v683.n v683.c, .slice v689.a v689.n v689.c] T.sl_uint8 (fun v691 h =>
  commit_Coin.tail m0 v690 v5 v3 R v691 h)) h) ∧
  (newSlK h 4 #[.slice v670.a v670.n v670.c, .slice v4.a v4.n v4.c, .slice v683.a v683.n v683.c, .slice v689.a v689.n v689.c] T.sl_uint8 (fun v694 h =>
  callK Try.prog .bool F.commit_bit #[.int .i64 side3] (fun (v695 : Bool) h =>
  stillAggK (sizeOfT Try.prog T.api_Tag) h nonce_2 v5 ∧
  commit_Coin.tail m0 v695 v5 v3 R v694 h) h)))))))) ∧
  (newSlK h 1 #[(.int .u8 (IntKind.u8.wrap side3))] T.uint8 (fun v698 h =>
  ((callK Try.prog .bool F.commit_bit #[.int .i64 side3] (fun (v699 : Bool) h =>
  stillAggK (sizeOfT Try.prog T.api_Tag) h nonce_2 v5 ∧
  newSlK h 1 #[(.int .u8 (IntKind.u8.wrap player2))] T.uint8 (fun v700 h =>
  newSlK h 4 #[.slice v670.a v670.n v670.c, .slice v4.a v4.n v4.c, .slice v700.a v700.n v700.c, .slice v698.a v698.n v698.c] T.sl_uint8 (fun v701 h =>
  commit_Coin.tail m0 v699 v5 v3 R v701 h))) h) ∧
  (newSlK h 1 #[(.int .u8 (IntKind.u8.wrap player2))] T.uint8 (fun v704 h =>
  ((callK Try.prog .bool F.commit_bit #[.int .i64 side3] (fun (v705 : Bool) h =>
  stillAggK (sizeOfT Try.prog T.api_Tag) h nonce_2 v5 ∧
  newSlK h 4 #[.slice v670.a v670.n v670.c, .slice v4.a v4.n v4.c, .slice v704.a v704.n v704.c, .slice v698.a v698.n v698.c] T.sl_uint8 (fun v706 h =>
  commit_Coin.tail m0 v705 v5 v3 R v706 h)) h) ∧
  (newSlK h 4 #[.slice v670.a v670.n v670.c, .slice v4.a v4.n v4.c, .slice v704.a v704.n v704.c, .slice v698.a v698.n v698.c] T.sl_uint8 (fun v709 h =>
  callK Try.prog .bool F.commit_bit #[.int .i64 side3] (fun (v710 : Bool) h =>
  stillAggK (sizeOfT Try.prog T.api_Tag) h nonce_2 v5 ∧
  commit_Coin.tail m0 v710 v5 v3 R v709 h) h)))))))))))
  else
  ((newSlK h 1 #[(.int .u8 (IntKind.u8.wrap player2))] T.uint8 (fun v713 h =>
  newSlK h 1 #[(.int .u8 (IntKind.u8.wrap side3))] T.uint8 (fun v714 h =>
  newSlK h 4 #[.slice v670.a v670.n v670.c, .slice v4.a v4.n v4.c, .slice v713.a v713.n v713.c, .slice v714.a v714.n v714.c] T.sl_uint8 (fun v715 h =>
  commit_Coin.tail m0 false v5 v3 R v715 h)))) ∧
  (newSlK h 1 #[(.int .u8 (IntKind.u8.wrap side3))] T.uint8 (fun v718 h =>
  newSlK h 1 #[(.int .u8 (IntKind.u8.wrap player2))] T.uint8 (fun v719 h =>
  newSlK h 4 #[.slice v670.a v670.n v670.c, .slice v4.a v4.n v4.c, .slice v719.a v719.n v719.c, .slice v718.a v718.n v718.c] T.sl_uint8 (fun v720 h =>
  commit_Coin.tail m0 false v5 v3 R v720 h)))))) h) ∧
  (((newSlK h 1 #[(.int .u8 (IntKind.u8.wrap player2))] T.uint8 (fun v723 h =>
  ((callK Try.prog .bool F.commit_bit #[.int .i64 player2] (fun (v724 : Bool) h =>
  stillAggK (sizeOfT Try.prog T.api_Tag) h nonce_2 v5 ∧
  if v724 = true then
  ((callK Try.prog .bool F.commit_bit #[.int .i64 side3] (fun (v725 : Bool) h =>
  stillAggK (sizeOfT Try.prog T.api_Tag) h nonce_2 v5 ∧
  newSlK h 1 #[(.int .u8 (IntKind.u8.wrap side3))] T.uint8 (fun v726 h =>
  newSlK h 4 #[.slice v670.a v670.n v670.c, .slice v4.a v4.n v4.c, .slice v723.a v723.n v723.c, .slice v726.a v726.n v726.c] T.sl_uint8 (fun v727 h =>
  commit_Coin.tail m0 v725 v5 v3 R v727 h))) h) ∧
  (newSlK h 1 #[(.int .u8 (IntKind.u8.wrap side3))] T.uint8 (fun v730 h =>
  ((callK Try.prog .bool F.commit_bit #[.int .i64 side3] (fun (v731 : Bool) h =>
  stillAggK (sizeOfT Try.prog T.api_Tag) h nonce_2 v5 ∧
  newSlK h 4 #[.slice v670.a v670.n v670.c, .slice v4.a v4.n v4.c, .slice v723.a v723.n v723.c, .slice v730.a v730.n v730.c] T.sl_uint8 (fun v732 h =>
  commit_Coin.tail m0 v731 v5 v3 R v732 h)) h) ∧
  (newSlK h 4 #[.slice v670.a v670.n v670.c, .slice v4.a v4.n v4.c, .slice v723.a v723.n v723.c, .slice v730.a v730.n v730.c] T.sl_uint8 (fun v735 h =>
  callK Try.prog .bool F.commit_bit #[.int .i64 side3] (fun (v736 : Bool) h =>
  stillAggK (sizeOfT Try.prog T.api_Tag) h nonce_2 v5 ∧
  commit_Coin.tail m0 v736 v5 v3 R v735 h) h))))))
  else
  newSlK h 1 #[(.int .u8 (IntKind.u8.wrap side3))] T.uint8 (fun v739 h =>
  newSlK h 4 #[.slice v670.a v670.n v670.c, .slice v4.a v4.n v4.c, .slice v723.a v723.n v723.c, .slice v739.a v739.n v739.c] T.sl_uint8 (fun v740 h =>
  commit_Coin.tail m0 false v5 v3 R v740 h))) h) ∧
  (newSlK h 1 #[(.int .u8 (IntKind.u8.wrap side3))] T.uint8 (fun v743 h =>
  ((callK Try.prog .bool F.commit_bit #[.int .i64 player2] (fun (v744 : Bool) h =>
  stillAggK (sizeOfT Try.prog T.api_Tag) h nonce_2 v5 ∧
  if v744 = true then
  ((callK Try.prog .bool F.commit_bit #[.int .i64 side3] (fun (v745 : Bool) h =>
  stillAggK (sizeOfT Try.prog T.api_Tag) h nonce_2 v5 ∧
  newSlK h 4 #[.slice v670.a v670.n v670.c, .slice v4.a v4.n v4.c, .slice v723.a v723.n v723.c, .slice v743.a v743.n v743.c] T.sl_uint8 (fun v746 h =>
  commit_Coin.tail m0 v745 v5 v3 R v746 h)) h) ∧
  (newSlK h 4 #[.slice v670.a v670.n v670.c, .slice v4.a v4.n v4.c, .slice v723.a v723.n v723.c, .slice v743.a v743.n v743.c] T.sl_uint8 (fun v749 h =>
  callK Try.prog .bool F.commit_bit #[.int .i64 side3] (fun (v750 : Bool) h =>
  stillAggK (sizeOfT Try.prog T.api_Tag) h nonce_2 v5 ∧
  commit_Coin.tail m0 v750 v5 v3 R v749 h) h)))
  else
  newSlK h 4 #[.slice v670.a v670.n v670.c, .slice v4.a v4.n v4.c, .slice v723.a v723.n v723.c, .slice v743.a v743.n v743.c] T.sl_uint8 (fun v753 h =>
  commit_Coin.tail m0 false v5 v3 R v753 h)) h) ∧
  (newSlK h 4 #[.slice v670.a v670.n v670.c, .slice v4.a v4.n v4.c, .slice v723.a v723.n v723.c, .slice v743.a v743.n v743.c] T.sl_uint8 (fun v756 h =>
  callK Try.prog .bool F.commit_bit #[.int .i64 player2] (fun (v757 : Bool) h =>
  stillAggK (sizeOfT Try.prog T.api_Tag) h nonce_2 v5 ∧
  if v757 = true then
  callK Try.prog .bool F.commit_bit #[.int .i64 side3] (fun (v758 : Bool) h =>
  stillAggK (sizeOfT Try.prog T.api_Tag) h nonce_2 v5 ∧
  commit_Coin.tail m0 v758 v5 v3 R v756 h) h
  else
  commit_Coin.tail m0 false v5 v3 R v756 h) h)))))))) ∧
  (newSlK h 1 #[(.int .u8 (IntKind.u8.wrap side3))] T.uint8 (fun v763 h =>
  ((callK Try.prog .bool F.commit_bit #[.int .i64 player2] (fun (v764 : Bool) h =>
  stillAggK (sizeOfT Try.prog T.api_Tag) h nonce_2 v5 ∧
  if v764 = true then
  ((callK Try.prog .bool F.commit_bit #[.int .i64 side3] (fun (v765 : Bool) h =>
  stillAggK (sizeOfT Try.prog T.api_Tag) h nonce_2 v5 ∧
  newSlK h 1 #[(.int .u8 (IntKind.u8.wrap player2))] T.uint8 (fun v766 h =>
  newSlK h 4 #[.slice v670.a v670.n v670.c, .slice v4.a v4.n v4.c, .slice v766.a v766.n v766.c, .slice v763.a v763.n v763.c] T.sl_uint8 (fun v767 h =>
  commit_Coin.tail m0 v765 v5 v3 R v767 h))) h) ∧
  (newSlK h 1 #[(.int .u8 (IntKind.u8.wrap player2))] T.uint8 (fun v770 h =>
  ((callK Try.prog .bool F.commit_bit #[.int .i64 side3] (fun (v771 : Bool) h =>
  stillAggK (sizeOfT Try.prog T.api_Tag) h nonce_2 v5 ∧
  newSlK h 4 #[.slice v670.a v670.n v670.c, .slice v4.a v4.n v4.c, .slice v770.a v770.n v770.c, .slice v763.a v763.n v763.c] T.sl_uint8 (fun v772 h =>
  commit_Coin.tail m0 v771 v5 v3 R v772 h)) h) ∧
  (newSlK h 4 #[.slice v670.a v670.n v670.c, .slice v4.a v4.n v4.c, .slice v770.a v770.n v770.c, .slice v763.a v763.n v763.c] T.sl_uint8 (fun v775 h =>
  callK Try.prog .bool F.commit_bit #[.int .i64 side3] (fun (v776 : Bool) h =>
  stillAggK (sizeOfT Try.prog T.api_Tag) h nonce_2 v5 ∧
  commit_Coin.tail m0 v776 v5 v3 R v775 h) h))))))
  else
  newSlK h 1 #[(.int .u8 (IntKind.u8.wrap player2))] T.uint8 (fun v779 h =>
  newSlK h 4 #[.slice v670.a v670.n v670.c, .slice v4.a v4.n v4.c, .slice v779.a v779.n v779.c, .slice v763.a v763.n v763.c] T.sl_uint8 (fun v780 h =>
  commit_Coin.tail m0 false v5 v3 R v780 h))) h) ∧
  (newSlK h 1 #[(.int .u8 (IntKind.u8.wrap player2))] T.uint8 (fun v783 h =>
  ((callK Try.prog .bool F.commit_bit #[.int .i64 player2] (fun (v784 : Bool) h =>
  stillAggK (sizeOfT Try.prog T.api_Tag) h nonce_2 v5 ∧
  if v784 = true then
  ((callK Try.prog .bool F.commit_bit #[.int .i64 side3] (fun (v785 : Bool) h =>
  stillAggK (sizeOfT Try.prog T.api_Tag) h nonce_2 v5 ∧
  newSlK h 4 #[.slice v670.a v670.n v670.c, .slice v4.a v4.n v4.c, .slice v783.a v783.n v783.c, .slice v763.a v763.n v763.c] T.sl_uint8 (fun v786 h =>
  commit_Coin.tail m0 v785 v5 v3 R v786 h)) h) ∧
  (newSlK h 4 #[.slice v670.a v670.n v670.c, .slice v4.a v4.n v4.c, .slice v783.a v783.n v783.c, .slice v763.a v763.n v763.c] T.sl_uint8 (fun v789 h =>
  callK Try.prog .bool F.commit_bit #[.int .i64 side3] (fun (v790 : Bool) h =>
  stillAggK (sizeOfT Try.prog T.api_Tag) h nonce_2 v5 ∧
  commit_Coin.tail m0 v790 v5 v3 R v789 h) h)))
  else
  newSlK h 4 #[.slice v670.a v670.n v670.c, .slice v4.a v4.n v4.c, .slice v783.a v783.n v783.c, .slice v763.a v763.n v763.c] T.sl_uint8 (fun v793 h =>
  commit_Coin.tail m0 false v5 v3 R v793 h)) h) ∧
  (newSlK h 4 #[.slice v670.a v670.n v670.c, .slice v4.a v4.n v4.c, .slice v783.a v783.n v783.c, .slice v763.a v763.n v763.c] T.sl_uint8 (fun v796 h =>
  callK Try.prog .bool F.commit_bit #[.int .i64 player2] (fun (v797 : Bool) h =>
  stillAggK (sizeOfT Try.prog T.api_Tag) h nonce_2 v5 ∧
  if v797 = true then
  callK Try.prog .bool F.commit_bit #[.int .i64 side3] (fun (v798 : Bool) h =>
  stillAggK (sizeOfT Try.prog T.api_Tag) h nonce_2 v5 ∧
  commit_Coin.tail m0 v798 v5 v3 R v796 h) h
  else
  commit_Coin.tail m0 false v5 v3 R v796 h) h)))))))))))) h) ∧
  (((newSlK h 1 #[(.int .u8 (IntKind.u8.wrap player2))] T.uint8 (fun v803 h =>
  ((callK Try.prog .bool F.commit_bit #[.int .i64 player2] (fun (v804 : Bool) h =>
  stillAggK (sizeOfT Try.prog T.api_Tag) h nonce_2 v5 ∧
  if v804 = true then
  ((callK Try.prog .bool F.commit_bit #[.int .i64 side3] (fun (v805 : Bool) h =>
  stillAggK (sizeOfT Try.prog T.api_Tag) h nonce_2 v5 ∧
  ((opK Try.prog .slice (convert T.sl_uint8 T.sl_uint8 (.slice v475.a v475.n v475.c)) (fun (v806 : Sl) h =>
  newSlK h 1 #[(.int .u8 (IntKind.u8.wrap side3))] T.uint8 (fun v807 h =>
  newSlK h 4 #[.slice v806.a v806.n v806.c, .slice v4.a v4.n v4.c, .slice v803.a v803.n v803.c, .slice v807.a v807.n v807.c] T.sl_uint8 (fun v808 h =>
  commit_Coin.tail m0 v805 v5 v3 R v808 h))) h) ∧
  (newSlK h 1 #[(.int .u8 (IntKind.u8.wrap side3))] T.uint8 (fun v811 h =>
  opK Try.prog .slice (convert T.sl_uint8 T.sl_uint8 (.slice v475.a v475.n v475.c)) (fun (v812 : Sl) h =>
  newSlK h 4 #[.slice v812.a v812.n v812.c, .slice v4.a v4.n v4.c, .slice v803.a v803.n v803.c, .slice v811.a v811.n v811.c] T.sl_uint8 (fun v813 h =>
  commit_Coin.tail m0 v805 v5 v3 R v813 h)) h)))) h) ∧
  (((opK Try.prog .slice (convert T.sl_uint8 T.sl_uint8 (.slice v475.a v475.n v475.c)) (fun (v816 : Sl) h =>
  ((callK Try.prog .bool F.commit_bit #[.int .i64 side3] (fun (v817 : Bool) h =>
  stillAggK (sizeOfT Try.prog T.api_Tag) h nonce_2 v5 ∧
  newSlK h 1 #[(.int .u8 (IntKind.u8.wrap side3))] T.uint8 (fun v818 h =>
  newSlK h 4 #[.slice v816.a v816.n v816.c, .slice v4.a v4.n v4.c, .slice v803.a v803.n v803.c, .slice v818.a v818.n v818.c] T.sl_uint8 (fun v819 h =>
  commit_Coin.tail m0 v817 v5 v3 R v819 h))) h) ∧
  (newSlK h 1 #[(.int .u8 (IntKind.u8.wrap side3))] T.uint8 (fun v822 h =>
  ((callK Try.prog .bool F.commit_bit #[.int .i64 side3] (fun (v823 : Bool) h =>
  stillAggK (sizeOfT Try.prog T.api_Tag) h nonce_2 v5 ∧
  newSlK h 4 #[.slice v816.a v816.n v816.c, .slice v4.a v4.n v4.c, .slice v803.a v803.n v803.c, .slice v822.a v822.n v822.c] T.sl_uint8 (fun v824 h =>
  commit_Coin.tail m0 v823 v5 v3 R v824 h)) h) ∧
  (newSlK h 4 #[.slice v816.a v816.n v816.c, .slice v4.a v4.n v4.c, .slice v803.a v803.n v803.c, .slice v822.a v822.n v822.c] T.sl_uint8 (fun v827 h =>
  callK Try.prog .bool F.commit_bit #[.int .i64 side3] (fun (v828 : Bool) h =>
  stillAggK (sizeOfT Try.prog T.api_Tag) h nonce_2 v5 ∧
  commit_Coin.tail m0 v828 v5 v3 R v827 h) h))))))) h) ∧
  (newSlK h 1 #[(.int .u8 (IntKind.u8.wrap side3))] T.uint8 (fun v831 h =>
  ((callK Try.prog .bool F.commit_bit #[.int .i64 side3] (fun (v832 : Bool) h =>
  stillAggK (sizeOfT Try.prog T.api_Tag) h nonce_2 v5 ∧
  opK Try.prog .slice (convert T.sl_uint8 T.sl_uint8 (.slice v475.a v475.n v475.c)) (fun (v833 : Sl) h =>
  newSlK h 4 #[.slice v833.a v833.n v833.c, .slice v4.a v4.n v4.c, .slice v803.a v803.n v803.c, .slice v831.a v831.n v831.c] T.sl_uint8 (fun v834 h =>
  commit_Coin.tail m0 v832 v5 v3 R v834 h)) h) h) ∧
  (opK Try.prog .slice (convert T.sl_uint8 T.sl_uint8 (.slice v475.a v475.n v475.c)) (fun (v837 : Sl) h =>
  ((callK Try.prog .bool F.commit_bit #[.int .i64 side3] (fun (v838 : Bool) h =>
  stillAggK (sizeOfT Try.prog T.api_Tag) h nonce_2 v5 ∧
  newSlK h 4 #[.slice v837.a v837.n v837.c, .slice v4.a v4.n v4.c, .slice v803.a v803.n v803.c, .slice v831.a v831.n v831.c] T.sl_uint8 (fun v839 h =>
  commit_Coin.tail m0 v838 v5 v3 R v839 h)) h) ∧
  (newSlK h 4 #[.slice v837.a v837.n v837.c, .slice v4.a v4.n v4.c, .slice v803.a v803.n v803.c, .slice v831.a v831.n v831.c] T.sl_uint8 (fun v842 h =>
  callK Try.prog .bool F.commit_bit #[.int .i64 side3] (fun (v843 : Bool) h =>
  stillAggK (sizeOfT Try.prog T.api_Tag) h nonce_2 v5 ∧
  commit_Coin.tail m0 v843 v5 v3 R v842 h) h)))) h)))))))
  else
  ((opK Try.prog .slice (convert T.sl_uint8 T.sl_uint8 (.slice v475.a v475.n v475.c)) (fun (v846 : Sl) h =>
  newSlK h 1 #[(.int .u8 (IntKind.u8.wrap side3))] T.uint8 (fun v847 h =>
  newSlK h 4 #[.slice v846.a v846.n v846.c, .slice v4.a v4.n v4.c, .slice v803.a v803.n v803.c, .slice v847.a v847.n v847.c] T.sl_uint8 (fun v848 h =>
  commit_Coin.tail m0 false v5 v3 R v848 h))) h) ∧
  (newSlK h 1 #[(.int .u8 (IntKind.u8.wrap side3))] T.uint8 (fun v851 h =>
  opK Try.prog .slice (convert T.sl_uint8 T.sl_uint8 (.slice v475.a v475.n v475.c)) (fun (v852 : Sl) h =>
  newSlK h 4 #[.slice v852.a v852.n v852.c, .slice v4.a v4.n v4.c, .slice v803.a v803.n v803.c, .slice v851.a v851.n v851.c] T.sl_uint8 (fun v853 h =>
  commit_Coin.tail m0 false v5 v3 R v853 h)) h)))) h) ∧
  (((opK Try.prog .slice (convert T.sl_uint8 T.sl_uint8 (.slice v475.a v475.n v475.c)) (fun (v856 : Sl) h =>
  ((callK Try.prog .bool F.commit_bit #[.int .i64 player2] (fun (v857 : Bool) h =>
  stillAggK (sizeOfT Try.prog T.api_Tag) h nonce_2 v5 ∧
  if v857 = true then
  ((callK Try.prog .bool F.commit_bit #[.int .i64 side3] (fun (v858 : Bool) h =>
  stillAggK (sizeOfT Try.prog T.api_Tag) h nonce_2 v5 ∧
  newSlK h 1 #[(.int .u8 (IntKind.u8.wrap side3))] T.uint8 (fun v859 h =>
  newSlK h 4 #[.slice v856.a v856.n v856.c, .slice v4.a v4.n v4.c, .slice v803.a v803.n v803.c, .slice v859.a v859.n v859.c] T.sl_uint8 (fun v860 h =>
  commit_Coin.tail m0 v858 v5 v3 R v860 h))) h) ∧
  (newSlK h 1 #[(.int .u8 (IntKind.u8.wrap side3))] T.uint8 (fun v863 h =>
  ((callK Try.prog .bool F.commit_bit #[.int .i64 side3] (fun (v864 : Bool) h =>
  stillAggK (sizeOfT Try.prog T.api_Tag) h nonce_2 v5 ∧
  newSlK h 4 #[.slice v856.a v856.n v856.c, .slice v4.a v4.n v4.c, .slice v803.a v803.n v803.c, .slice v863.a v863.n v863.c] T.sl_uint8 (fun v865 h =>
  commit_Coin.tail m0 v864 v5 v3 R v865 h)) h) ∧
  (newSlK h 4 #[.slice v856.a v856.n v856.c, .slice v4.a v4.n v4.c, .slice v803.a v803.n v803.c, .slice v863.a v863.n v863.c] T.sl_uint8 (fun v868 h =>
  callK Try.prog .bool F.commit_bit #[.int .i64 side3] (fun (v869 : Bool) h =>
  stillAggK (sizeOfT Try.prog T.api_Tag) h nonce_2 v5 ∧
  commit_Coin.tail m0 v869 v5 v3 R v868 h) h))))))
  else
  newSlK h 1 #[(.int .u8 (IntKind.u8.wrap side3))] T.uint8 (fun v872 h =>
  newSlK h 4 #[.slice v856.a v856.n v856.c, .slice v4.a v4.n v4.c, .slice v803.a v803.n v803.c, .slice v872.a v872.n v872.c] T.sl_uint8 (fun v873 h =>
  commit_Coin.tail m0 false v5 v3 R v873 h))) h) ∧
  (newSlK h 1 #[(.int .u8 (IntKind.u8.wrap side3))] T.uint8 (fun v876 h =>
  ((callK Try.prog .bool F.commit_bit #[.int .i64 player2] (fun (v877 : Bool) h =>
  stillAggK (sizeOfT Try.prog T.api_Tag) h nonce_2 v5 ∧
  if v877 = true then
  ((callK Try.prog .bool F.commit_bit #[.int .i64 side3] (fun (v878 : Bool) h =>
  stillAggK (sizeOfT Try.prog T.api_Tag) h nonce_2 v5 ∧
  newSlK h 4 #[.slice v856.a v856.n v856.c, .slice v4.a v4.n v4.c, .slice v803.a v803.n v803.c, .slice v876.a v876.n v876.c] T.sl_uint8 (fun v879 h =>
  commit_Coin.tail m0 v878 v5 v3 R v879 h)) h) ∧
  (newSlK h 4 #[.slice v856.a v856.n v856.c, .slice v4.a v4.n v4.c, .slice v803.a v803.n v803.c, .slice v876.a v876.n v876.c] T.sl_uint8 (fun v882 h =>
  callK Try.prog .bool F.commit_bit #[.int .i64 side3] (fun (v883 : Bool) h =>
  stillAggK (sizeOfT Try.prog T.api_Tag) h nonce_2 v5 ∧
  commit_Coin.tail m0 v883 v5 v3 R v882 h) h)))
  else
  newSlK h 4 #[.slice v856.a v856.n v856.c, .slice v4.a v4.n v4.c, .slice v803.a v803.n v803.c, .slice v876.a v876.n v876.c] T.sl_uint8 (fun v886 h =>
  commit_Coin.tail m0 false v5 v3 R v886 h)) h) ∧
  (newSlK h 4 #[.slice v856.a v856.n v856.c, .slice v4.a v4.n v4.c, .slice v803.a v803.n v803.c, .slice v876.a v876.n v876.c] T.sl_uint8 (fun v889 h =>
  callK Try.prog .bool F.commit_bit #[.int .i64 player2] (fun (v890 : Bool) h =>
  stillAggK (sizeOfT Try.prog T.api_Tag) h nonce_2 v5 ∧
  if v890 = true then
  callK Try.prog .bool F.commit_bit #[.int .i64 side3] (fun (v891 : Bool) h =>
  stillAggK (sizeOfT Try.prog T.api_Tag) h nonce_2 v5 ∧
  commit_Coin.tail m0 v891 v5 v3 R v889 h) h
  else
  commit_Coin.tail m0 false v5 v3 R v889 h) h))))))) h) ∧
  (newSlK h 1 #[(.int .u8 (IntKind.u8.wrap side3))] T.uint8 (fun v896 h =>
  ((callK Try.prog .bool F.commit_bit #[.int .i64 player2] (fun (v897 : Bool) h =>
  stillAggK (sizeOfT Try.prog T.api_Tag) h nonce_2 v5 ∧
  if v897 = true then
  ((callK Try.prog .bool F.commit_bit #[.int .i64 side3] (fun (v898 : Bool) h =>
  stillAggK (sizeOfT Try.prog T.api_Tag) h nonce_2 v5 ∧
  opK Try.prog .slice (convert T.sl_uint8 T.sl_uint8 (.slice v475.a v475.n v475.c)) (fun (v899 : Sl) h =>
  newSlK h 4 #[.slice v899.a v899.n v899.c, .slice v4.a v4.n v4.c, .slice v803.a v803.n v803.c, .slice v896.a v896.n v896.c] T.sl_uint8 (fun v900 h =>
  commit_Coin.tail m0 v898 v5 v3 R v900 h)) h) h) ∧
  (opK Try.prog .slice (convert T.sl_uint8 T.sl_uint8 (.slice v475.a v475.n v475.c)) (fun (v903 : Sl) h =>
  ((callK Try.prog .bool F.commit_bit #[.int .i64 side3] (fun (v904 : Bool) h =>
  stillAggK (sizeOfT Try.prog T.api_Tag) h nonce_2 v5 ∧
  newSlK h 4 #[.slice v903.a v903.n v903.c, .slice v4.a v4.n v4.c, .slice v803.a v803.n v803.c, .slice v896.a v896.n v896.c] T.sl_uint8 (fun v905 h =>
  commit_Coin.tail m0 v904 v5 v3 R v905 h)) h) ∧
  (newSlK h 4 #[.slice v903.a v903.n v903.c, .slice v4.a v4.n v4.c, .slice v803.a v803.n v803.c, .slice v896.a v896.n v896.c] T.sl_uint8 (fun v908 h =>
  callK Try.prog .bool F.commit_bit #[.int .i64 side3] (fun (v909 : Bool) h =>
  stillAggK (sizeOfT Try.prog T.api_Tag) h nonce_2 v5 ∧
  commit_Coin.tail m0 v909 v5 v3 R v908 h) h)))) h))
  else
  opK Try.prog .slice (convert T.sl_uint8 T.sl_uint8 (.slice v475.a v475.n v475.c)) (fun (v912 : Sl) h =>
  newSlK h 4 #[.slice v912.a v912.n v912.c, .slice v4.a v4.n v4.c, .slice v803.a v803.n v803.c, .slice v896.a v896.n v896.c] T.sl_uint8 (fun v913 h =>
  commit_Coin.tail m0 false v5 v3 R v913 h)) h) h) ∧
  (opK Try.prog .slice (convert T.sl_uint8 T.sl_uint8 (.slice v475.a v475.n v475.c)) (fun (v916 : Sl) h =>
  ((callK Try.prog .bool F.commit_bit #[.int .i64 player2] (fun (v917 : Bool) h =>
  stillAggK (sizeOfT Try.prog T.api_Tag) h nonce_2 v5 ∧
  if v917 = true then
  ((callK Try.prog .bool F.commit_bit #[.int .i64 side3] (fun (v918 : Bool) h =>
  stillAggK (sizeOfT Try.prog T.api_Tag) h nonce_2 v5 ∧
  newSlK h 4 #[.slice v916.a v916.n v916.c, .slice v4.a v4.n v4.c, .slice v803.a v803.n v803.c, .slice v896.a v896.n v896.c] T.sl_uint8 (fun v919 h =>
  commit_Coin.tail m0 v918 v5 v3 R v919 h)) h) ∧
  (newSlK h 4 #[.slice v916.a v916.n v916.c, .slice v4.a v4.n v4.c, .slice v803.a v803.n v803.c, .slice v896.a v896.n v896.c] T.sl_uint8 (fun v922 h =>
  callK Try.prog .bool F.commit_bit #[.int .i64 side3] (fun (v923 : Bool) h =>
  stillAggK (sizeOfT Try.prog T.api_Tag) h nonce_2 v5 ∧
  commit_Coin.tail m0 v923 v5 v3 R v922 h) h)))
  else
  newSlK h 4 #[.slice v916.a v916.n v916.c, .slice v4.a v4.n v4.c, .slice v803.a v803.n v803.c, .slice v896.a v896.n v896.c] T.sl_uint8 (fun v926 h =>
  commit_Coin.tail m0 false v5 v3 R v926 h)) h) ∧
  (newSlK h 4 #[.slice v916.a v916.n v916.c, .slice v4.a v4.n v4.c, .slice v803.a v803.n v803.c, .slice v896.a v896.n v896.c] T.sl_uint8 (fun v929 h =>
  callK Try.prog .bool F.commit_bit #[.int .i64 player2] (fun (v930 : Bool) h =>
  stillAggK (sizeOfT Try.prog T.api_Tag) h nonce_2 v5 ∧
  if v930 = true then
  callK Try.prog .bool F.commit_bit #[.int .i64 side3] (fun (v931 : Bool) h =>
  stillAggK (sizeOfT Try.prog T.api_Tag) h nonce_2 v5 ∧
  commit_Coin.tail m0 v931 v5 v3 R v929 h) h
  else
  commit_Coin.tail m0 false v5 v3 R v929 h) h)))) h))))))))) ∧
  (newSlK h 1 #[(.int .u8 (IntKind.u8.wrap side3))] T.uint8 (fun v936 h =>
  ((callK Try.prog .bool F.commit_bit #[.int .i64 player2] (fun (v937 : Bool) h =>
  stillAggK (sizeOfT Try.prog T.api_Tag) h nonce_2 v5 ∧
  if v937 = true then
  ((callK Try.prog .bool F.commit_bit #[.int .i64 side3] (fun (v938 : Bool) h =>
  stillAggK (sizeOfT Try.prog T.api_Tag) h nonce_2 v5 ∧
  ((opK Try.prog .slice (convert T.sl_uint8 T.sl_uint8 (.slice v475.a v475.n v475.c)) (fun (v939 : Sl) h =>
  newSlK h 1 #[(.int .u8 (IntKind.u8.wrap player2))] T.uint8 (fun v940 h =>
  newSlK h 4 #[.slice v939.a v939.n v939.c, .slice v4.a v4.n v4.c, .slice v940.a v940.n v940.c, .slice v936.a v936.n v936.c] T.sl_uint8 (fun v941 h =>
  commit_Coin.tail m0 v938 v5 v3 R v941 h))) h) ∧
  (newSlK h 1 #[(.int .u8 (IntKind.u8.wrap player2))] T.uint8 (fun v944 h =>
  opK Try.prog .slice (convert T.sl_uint8 T.sl_uint8 (.slice v475.a v475.n v475.c)) (fun (v945 : Sl) h =>
  newSlK h 4 #[.slice v945.a v945.n v945.c, .slice v4.a v4.n v4.c, .slice v944.a v944.n v944.c, .slice v936.a v936.n v936.c] T.sl_uint8 (fun v946 h =>
  commit_Coin.tail m0 v938 v5 v3 R v946 h)) h)))) h) ∧
  (((opK Try.prog .slice (convert T.sl_uint8 T.sl_uint8 (.slice v475.a v475.n v475.c)) (fun (v949 : Sl) h =>
  ((callK Try.prog .bool F.commit_bit #[.int .i64 side3] (fun (v950 : Bool) h =>
  stillAggK (sizeOfT Try.prog T.api_Tag) h nonce_2 v5 ∧
  newSlK h 1 #[(.int .u8 (IntKind.u8.wrap player2))] T.uint8 (fun v951 h =>
  newSlK h 4 #[.slice v949.a v949.n v949.c, .slice v4.a v4.n v4.c, .slice v951.a v951.n v951.c, .slice v936.a v936.n v936.c] T.sl_uint8 (fun v952 h =>
  commit_Coin.tail m0 v950 v5 v3 R v952 h))) h) ∧
  (newSlK h 1 #[(.int .u8 (IntKind.u8.wrap player2))] T.uint8 (fun v955 h =>
  ((callK Try.prog .bool F.commit_bit #[.int .i64 side3] (fun (v956 : Bool) h =>
  stillAggK (sizeOfT Try.prog T.api_Tag) h nonce_2 v5 ∧
  newSlK h 4 #[.slice v949.a v949.n v949.c, .slice v4.a v4.n v4.c, .slice v955.a v955.n v955.c, .slice v936.a v936.n v936.c] T.sl_uint8 (fun v957 h =>
  commit_Coin.tail m0 v956 v5 v3 R v957 h)) h) ∧
  (newSlK h 4 #[.slice v949.a v949.n v949.c, .slice v4.a v4.n v4.c, .slice v955.a v955.n v955.c, .slice v936.a v936.n v936.c] T.sl_uint8 (fun v960 h =>
  callK Try.prog .bool F.commit_bit #[.int .i64 side3] (fun (v961 : Bool) h =>
  stillAggK (sizeOfT Try.prog T.api_Tag) h nonce_2 v5 ∧
  commit_Coin.tail m0 v961 v5 v3 R v960 h) h))))))) h) ∧
  (newSlK h 1 #[(.int .u8 (IntKind.u8.wrap player2))] T.uint8 (fun v964 h =>
  ((callK Try.prog .bool F.commit_bit #[.int .i64 side3] (fun (v965 : Bool) h =>
  stillAggK (sizeOfT Try.prog T.api_Tag) h nonce_2 v5 ∧
  opK Try.prog .slice (convert T.sl_uint8 T.sl_uint8 (.slice v475.a v475.n v475.c)) (fun (v966 : Sl) h =>
  newSlK h 4 #[.slice v966.a v966.n v966.c, .slice v4.a v4.n v4.c, .slice v964.a v964.n v964.c, .slice v936.a v936.n v936.c] T.sl_uint8 (fun v967 h =>
  commit_Coin.tail m0 v965 v5 v3 R v967 h)) h) h) ∧
  (opK Try.prog .slice (convert T.sl_uint8 T.sl_uint8 (.slice v475.a v475.n v475.c)) (fun (v970 : Sl) h =>
  ((callK Try.prog .bool F.commit_bit #[.int .i64 side3] (fun (v971 : Bool) h =>
  stillAggK (sizeOfT Try.prog T.api_Tag) h nonce_2 v5 ∧
  newSlK h 4 #[.slice v970.a v970.n v970.c, .slice v4.a v4.n v4.c, .slice v964.a v964.n v964.c, .slice v936.a v936.n v936.c] T.sl_uint8 (fun v972 h =>
  commit_Coin.tail m0 v971 v5 v3 R v972 h)) h) ∧
  (newSlK h 4 #[.slice v970.a v970.n v970.c, .slice v4.a v4.n v4.c, .slice v964.a v964.n v964.c, .slice v936.a v936.n v936.c] T.sl_uint8 (fun v975 h =>
  callK Try.prog .bool F.commit_bit #[.int .i64 side3] (fun (v976 : Bool) h =>
  stillAggK (sizeOfT Try.prog T.api_Tag) h nonce_2 v5 ∧
  commit_Coin.tail m0 v976 v5 v3 R v975 h) h)))) h)))))))
  else
  ((opK Try.prog .slice (convert T.sl_uint8 T.sl_uint8 (.slice v475.a v475.n v475.c)) (fun (v979 : Sl) h =>
  newSlK h 1 #[(.int .u8 (IntKind.u8.wrap player2))] T.uint8 (fun v980 h =>
  newSlK h 4 #[.slice v979.a v979.n v979.c, .slice v4.a v4.n v4.c, .slice v980.a v980.n v980.c, .slice v936.a v936.n v936.c] T.sl_uint8 (fun v981 h =>
  commit_Coin.tail m0 false v5 v3 R v981 h))) h) ∧
  (newSlK h 1 #[(.int .u8 (IntKind.u8.wrap player2))] T.uint8 (fun v984 h =>
  opK Try.prog .slice (convert T.sl_uint8 T.sl_uint8 (.slice v475.a v475.n v475.c)) (fun (v985 : Sl) h =>
  newSlK h 4 #[.slice v985.a v985.n v985.c, .slice v4.a v4.n v4.c, .slice v984.a v984.n v984.c, .slice v936.a v936.n v936.c] T.sl_uint8 (fun v986 h =>
  commit_Coin.tail m0 false v5 v3 R v986 h)) h)))) h) ∧
  (((opK Try.prog .slice (convert T.sl_uint8 T.sl_uint8 (.slice v475.a v475.n v475.c)) (fun (v989 : Sl) h =>
  ((callK Try.prog .bool F.commit_bit #[.int .i64 player2] (fun (v990 : Bool) h =>
  stillAggK (sizeOfT Try.prog T.api_Tag) h nonce_2 v5 ∧
  if v990 = true then
  ((callK Try.prog .bool F.commit_bit #[.int .i64 side3] (fun (v991 : Bool) h =>
  stillAggK (sizeOfT Try.prog T.api_Tag) h nonce_2 v5 ∧
  newSlK h 1 #[(.int .u8 (IntKind.u8.wrap player2))] T.uint8 (fun v992 h =>
  newSlK h 4 #[.slice v989.a v989.n v989.c, .slice v4.a v4.n v4.c, .slice v992.a v992.n v992.c, .slice v936.a v936.n v936.c] T.sl_uint8 (fun v993 h =>
  commit_Coin.tail m0 v991 v5 v3 R v993 h))) h) ∧
  (newSlK h 1 #[(.int .u8 (IntKind.u8.wrap player2))] T.uint8 (fun v996 h =>
  ((callK Try.prog .bool F.commit_bit #[.int .i64 side3] (fun (v997 : Bool) h =>
  stillAggK (sizeOfT Try.prog T.api_Tag) h nonce_2 v5 ∧
  newSlK h 4 #[.slice v989.a v989.n v989.c, .slice v4.a v4.n v4.c, .slice v996.a v996.n v996.c, .slice v936.a v936.n v936.c] T.sl_uint8 (fun v998 h =>
  commit_Coin.tail m0 v997 v5 v3 R v998 h)) h) ∧
  (newSlK h 4 #[.slice v989.a v989.n v989.c, .slice v4.a v4.n v4.c, .slice v996.a v996.n v996.c, .slice v936.a v936.n v936.c] T.sl_uint8 (fun v1001 h =>
  callK Try.prog .bool F.commit_bit #[.int .i64 side3] (fun (v1002 : Bool) h =>
  stillAggK (sizeOfT Try.prog T.api_Tag) h nonce_2 v5 ∧
  commit_Coin.tail m0 v1002 v5 v3 R v1001 h) h))))))
  else
  newSlK h 1 #[(.int .u8 (IntKind.u8.wrap player2))] T.uint8 (fun v1005 h =>
  newSlK h 4 #[.slice v989.a v989.n v989.c, .slice v4.a v4.n v4.c, .slice v1005.a v1005.n v1005.c, .slice v936.a v936.n v936.c] T.sl_uint8 (fun v1006 h =>
  commit_Coin.tail m0 false v5 v3 R v1006 h))) h) ∧
  (newSlK h 1 #[(.int .u8 (IntKind.u8.wrap player2))] T.uint8 (fun v1009 h =>
  ((callK Try.prog .bool F.commit_bit #[.int .i64 player2] (fun (v1010 : Bool) h =>
  stillAggK (sizeOfT Try.prog T.api_Tag) h nonce_2 v5 ∧
  if v1010 = true then
  ((callK Try.prog .bool F.commit_bit #[.int .i64 side3] (fun (v1011 : Bool) h =>
  stillAggK (sizeOfT Try.prog T.api_Tag) h nonce_2 v5 ∧
  newSlK h 4 #[.slice v989.a v989.n v989.c, .slice v4.a v4.n v4.c, .slice v1009.a v1009.n v1009.c, .slice v936.a v936.n v936.c] T.sl_uint8 (fun v1012 h =>
  commit_Coin.tail m0 v1011 v5 v3 R v1012 h)) h) ∧
  (newSlK h 4 #[.slice v989.a v989.n v989.c, .slice v4.a v4.n v4.c, .slice v1009.a v1009.n v1009.c, .slice v936.a v936.n v936.c] T.sl_uint8 (fun v1015 h =>
  callK Try.prog .bool F.commit_bit #[.int .i64 side3] (fun (v1016 : Bool) h =>
  stillAggK (sizeOfT Try.prog T.api_Tag) h nonce_2 v5 ∧
  commit_Coin.tail m0 v1016 v5 v3 R v1015 h) h)))
  else
  newSlK h 4 #[.slice v989.a v989.n v989.c, .slice v4.a v4.n v4.c, .slice v1009.a v1009.n v1009.c, .slice v936.a v936.n v936.c] T.sl_uint8 (fun v1019 h =>
  commit_Coin.tail m0 false v5 v3 R v1019 h)) h) ∧
  (newSlK h 4 #[.slice v989.a v989.n v989.c, .slice v4.a v4.n v4.c, .slice v1009.a v1009.n v1009.c, .slice v936.a v936.n v936.c] T.sl_uint8 (fun v1022 h =>
  callK Try.prog .bool F.commit_bit #[.int .i64 player2] (fun (v1023 : Bool) h =>
  stillAggK (sizeOfT Try.prog T.api_Tag) h nonce_2 v5 ∧
  if v1023 = true then
  callK Try.prog .bool F.commit_bit #[.int .i64 side3] (fun (v1024 : Bool) h =>
  stillAggK (sizeOfT Try.prog T.api_Tag) h nonce_2 v5 ∧
  commit_Coin.tail m0 v1024 v5 v3 R v1022 h) h
  else
  commit_Coin.tail m0 false v5 v3 R v1022 h) h))))))) h) ∧
  (newSlK h 1 #[(.int .u8 (IntKind.u8.wrap player2))] T.uint8 (fun v1029 h =>
  ((callK Try.prog .bool F.commit_bit #[.int .i64 player2] (fun (v1030 : Bool) h =>
  stillAggK (sizeOfT Try.prog T.api_Tag) h nonce_2 v5 ∧
  if v1030 = true then
  ((callK Try.prog .bool F.commit_bit #[.int .i64 side3] (fun (v1031 : Bool) h =>
  stillAggK (sizeOfT Try.prog T.api_Tag) h nonce_2 v5 ∧
  opK Try.prog .slice (convert T.sl_uint8 T.sl_uint8 (.slice v475.a v475.n v475.c)) (fun (v1032 : Sl) h =>
  newSlK h 4 #[.slice v1032.a v1032.n v1032.c, .slice v4.a v4.n v4.c, .slice v1029.a v1029.n v1029.c, .slice v936.a v936.n v936.c] T.sl_uint8 (fun v1033 h =>
  commit_Coin.tail m0 v1031 v5 v3 R v1033 h)) h) h) ∧
  (opK Try.prog .slice (convert T.sl_uint8 T.sl_uint8 (.slice v475.a v475.n v475.c)) (fun (v1036 : Sl) h =>
  ((callK Try.prog .bool F.commit_bit #[.int .i64 side3] (fun (v1037 : Bool) h =>
  stillAggK (sizeOfT Try.prog T.api_Tag) h nonce_2 v5 ∧
  newSlK h 4 #[.slice v1036.a v1036.n v1036.c, .slice v4.a v4.n v4.c, .slice v1029.a v1029.n v1029.c, .slice v936.a v936.n v936.c] T.sl_uint8 (fun v1038 h =>
  commit_Coin.tail m0 v1037 v5 v3 R v1038 h)) h) ∧
  (newSlK h 4 #[.slice v1036.a v1036.n v1036.c, .slice v4.a v4.n v4.c, .slice v1029.a v1029.n v1029.c, .slice v936.a v936.n v936.c] T.sl_uint8 (fun v1041 h =>
  callK Try.prog .bool F.commit_bit #[.int .i64 side3] (fun (v1042 : Bool) h =>
  stillAggK (sizeOfT Try.prog T.api_Tag) h nonce_2 v5 ∧
  commit_Coin.tail m0 v1042 v5 v3 R v1041 h) h)))) h))
  else
  opK Try.prog .slice (convert T.sl_uint8 T.sl_uint8 (.slice v475.a v475.n v475.c)) (fun (v1045 : Sl) h =>
  newSlK h 4 #[.slice v1045.a v1045.n v1045.c, .slice v4.a v4.n v4.c, .slice v1029.a v1029.n v1029.c, .slice v936.a v936.n v936.c] T.sl_uint8 (fun v1046 h =>
  commit_Coin.tail m0 false v5 v3 R v1046 h)) h) h) ∧
  (opK Try.prog .slice (convert T.sl_uint8 T.sl_uint8 (.slice v475.a v475.n v475.c)) (fun (v1049 : Sl) h =>
  ((callK Try.prog .bool F.commit_bit #[.int .i64 player2] (fun (v1050 : Bool) h =>
  stillAggK (sizeOfT Try.prog T.api_Tag) h nonce_2 v5 ∧
  if v1050 = true then
  ((callK Try.prog .bool F.commit_bit #[.int .i64 side3] (fun (v1051 : Bool) h =>
  stillAggK (sizeOfT Try.prog T.api_Tag) h nonce_2 v5 ∧
  newSlK h 4 #[.slice v1049.a v1049.n v1049.c, .slice v4.a v4.n v4.c, .slice v1029.a v1029.n v1029.c, .slice v936.a v936.n v936.c] T.sl_uint8 (fun v1052 h =>
  commit_Coin.tail m0 v1051 v5 v3 R v1052 h)) h) ∧
  (newSlK h 4 #[.slice v1049.a v1049.n v1049.c, .slice v4.a v4.n v4.c, .slice v1029.a v1029.n v1029.c, .slice v936.a v936.n v936.c] T.sl_uint8 (fun v1055 h =>
  callK Try.prog .bool F.commit_bit #[.int .i64 side3] (fun (v1056 : Bool) h =>
  stillAggK (sizeOfT Try.prog T.api_Tag) h nonce_2 v5 ∧
  commit_Coin.tail m0 v1056 v5 v3 R v1055 h) h)))
  else
  newSlK h 4 #[.slice v1049.a v1049.n v1049.c, .slice v4.a v4.n v4.c, .slice v1029.a v1029.n v1029.c, .slice v936.a v936.n v936.c] T.sl_uint8 (fun v1059 h =>
  commit_Coin.tail m0 false v5 v3 R v1059 h)) h) ∧
  (newSlK h 4 #[.slice v1049.a v1049.n v1049.c, .slice v4.a v4.n v4.c, .slice v1029.a v1029.n v1029.c, .slice v936.a v936.n v936.c] T.sl_uint8 (fun v1062 h =>
  callK Try.prog .bool F.commit_bit #[.int .i64 player2] (fun (v1063 : Bool) h =>
  stillAggK (sizeOfT Try.prog T.api_Tag) h nonce_2 v5 ∧
  if v1063 = true then
  callK Try.prog .bool F.commit_bit #[.int .i64 side3] (fun (v1064 : Bool) h =>
  stillAggK (sizeOfT Try.prog T.api_Tag) h nonce_2 v5 ∧
  commit_Coin.tail m0 v1064 v5 v3 R v1062 h) h
  else
  commit_Coin.tail m0 false v5 v3 R v1062 h) h)))) h)))))))))))))))) ∧
  (((newSlK h 1 #[(.int .u8 (IntKind.u8.wrap player2))] T.uint8 (fun v1069 h =>
  ((callK Try.prog .bool F.commit_bit #[.int .i64 player2] (fun (v1070 : Bool) h =>
  stillAggK (sizeOfT Try.prog T.api_Tag) h nonce_2 v5 ∧
  if v1070 = true then
  ((callK Try.prog .bool F.commit_bit #[.int .i64 side3] (fun (v1071 : Bool) h =>
  stillAggK (sizeOfT Try.prog T.api_Tag) h nonce_2 v5 ∧
  ((newSlK h 4 #[.int .u8 99, .int .u8 111, .int .u8 105, .int .u8 110] T.uint8 (fun v1072 h =>
  ((opK Try.prog .slice (convert T.sl_uint8 T.sl_uint8 (.slice v1072.a v1072.n v1072.c)) (fun (v1073 : Sl) h =>
  newSlK h 1 #[(.int .u8 (IntKind.u8.wrap side3))] T.uint8 (fun v1074 h =>
  newSlK h 4 #[.slice v1073.a v1073.n v1073.c, .slice v4.a v4.n v4.c, .slice v1069.a v1069.n v1069.c, .slice v1074.a v1074.n v1074.c] T.sl_uint8 (fun v1075 h =>
  commit_Coin.tail m0 v1071 v5 v3 R v1075 h))) h) ∧
  (newSlK h 1 #[(.int .u8 (IntKind.u8.wrap side3))] T.uint8 (fun v1078 h =>
  opK Try.prog .slice (convert T.sl_uint8 T.sl_uint8 (.slice v1072.a v1072.n v1072.c)) (fun (v1079 : Sl) h =>
  newSlK h 4 #[.slice v1079.a v1079.n v1079.c, .slice v4.a v4.n v4.c, .slice v1069.a v1069.n v1069.c, .slice v1078.a v1078.n v1078.c] T.sl_uint8 (fun v1080 h =>
  commit_Coin.tail m0 v1071 v5 v3 R v1080 h)) h))))) ∧
  (newSlK h 1 #[(.int .u8 (IntKind.u8.wrap side3))] T.uint8 (fun v1083 h =>
  newSlK h 4 #[.int .u8 99, .int .u8 111, .int .u8 105, .int .u8 110] T.uint8 (fun v1084 h =>
  opK Try.prog .slice (convert T.sl_uint8 T.sl_uint8 (.slice v1084.a v1084.n v1084.c)) (fun (v1085 : Sl) h =>
  newSlK h 4 #[.slice v1085.a v1085.n v1085.c, .slice v4.a v4.n v4.c, .slice v1069.a v1069.n v1069.c, .slice v1083.a v1083.n v1083.c] T.sl_uint8 (fun v1086 h =>
  commit_Coin.tail m0 v1071 v5 v3 R v1086 h)) h))))) h) ∧
  (((newSlK h 4 #[.int .u8 99, .int .u8 111, .int .u8 105, .int .u8 110] T.uint8 (fun v1089 h =>
  ((callK Try.prog .bool F.commit_bit #[.int .i64 side3] (fun (v1090 : Bool) h =>
  stillAggK (sizeOfT Try.prog T.api_Tag) h nonce_2 v5 ∧
  ((opK Try.prog .slice (convert T.sl_uint8 T.sl_uint8 (.slice v1089.a v1089.n v1089.c)) (fun (v1091 : Sl) h =>
  newSlK h 1 #[(.int .u8 (IntKind.u8.wrap side3))] T.uint8 (fun v1092 h =>
  newSlK h 4 #[.slice v1091.a v1091.n v1091.c, .slice v4.a v4.n v4.c, .slice v1069.a v1069.n v1069.c, .slice v1092.a v1092.n v1092.c] T.sl_uint8 (fun v1093 h =>
  commit_Coin.tail m0 v1090 v5 v3 R v1093 h))) h) ∧
  (newSlK h 1 #[(.int .u8 (IntKind.u8.wrap side3))] T.uint8 (fun v1096 h =>
  opK Try.prog .slice (convert T.sl_uint8 T.sl_uint8 (.slice v1089.a v1089.n v1089.c)) (fun (v1097 : Sl) h =>
  newSlK h 4 #[.slice v1097.a v1097.n v1097.c, .slice v4.a v4.n v4.c, .slice v1069.a v1069.n v1069.c, .slice v1096.a v1096.n v1096.c] T.sl_uint8 (fun v1098 h =>
  commit_Coin.tail m0 v1090 v5 v3 R v1098 h)) h)))) h) ∧
  (((opK Try.prog .slice (convert T.sl_uint8 T.sl_uint8 (.slice v1089.a v1089.n v1089.c)) (fun (v1101 : Sl) h =>
  ((callK Try.prog .bool F.commit_bit #[.int .i64 side3] (fun (v1102 : Bool) h =>
  stillAggK (sizeOfT Try.prog T.api_Tag) h nonce_2 v5 ∧
  newSlK h 1 #[(.int .u8 (IntKind.u8.wrap side3))] T.uint8 (fun v1103 h =>
  newSlK h 4 #[.slice v1101.a v1101.n v1101.c, .slice v4.a v4.n v4.c, .slice v1069.a v1069.n v1069.c, .slice v1103.a v1103.n v1103.c] T.sl_uint8 (fun v1104 h =>
  commit_Coin.tail m0 v1102 v5 v3 R v1104 h))) h) ∧
  (newSlK h 1 #[(.int .u8 (IntKind.u8.wrap side3))] T.uint8 (fun v1107 h =>
  ((callK Try.prog .bool F.commit_bit #[.int .i64 side3] (fun (v1108 : Bool) h =>
  stillAggK (sizeOfT Try.prog T.api_Tag) h nonce_2 v5 ∧
  newSlK h 4 #[.slice v1101.a v1101.n v1101.c, .slice v4.a v4.n v4.c, .slice v1069.a v1069.n v1069.c, .slice v1107.a v1107.n v1107.c] T.sl_uint8 (fun v1109 h =>
  commit_Coin.tail m0 v1108 v5 v3 R v1109 h)) h) ∧
  (newSlK h 4 #[.slice v1101.a v1101.n v1101.c, .slice v4.a v4.n v4.c, .slice v1069.a v1069.n v1069.c, .slice v1107.a v1107.n v1107.c] T.sl_uint8 (fun v1112 h =>
  callK Try.prog .bool F.commit_bit #[.int .i64 side3] (fun (v1113 : Bool) h =>
  stillAggK (sizeOfT Try.prog T.api_Tag) h nonce_2 v5 ∧
  commit_Coin.tail m0 v1113 v5 v3 R v1112 h) h))))))) h) ∧
  (newSlK h 1 #[(.int .u8 (IntKind.u8.wrap side3))] T.uint8 (fun v1116 h =>
  ((callK Try.prog .bool F.commit_bit #[.int .i64 side3] (fun (v1117 : Bool) h =>
  stillAggK (sizeOfT Try.prog T.api_Tag) h nonce_2 v5 ∧
  opK Try.prog .slice (convert T.sl_uint8 T.sl_uint8 (.slice v1089.a v1089.n v1089.c)) (fun (v1118 : Sl) h =>
  newSlK h 4 #[.slice v1118.a v1118.n v1118.c, .slice v4.a v4.n v4.c, .slice v1069.a v1069.n v1069.c, .slice v1116.a v1116.n v1116.c] T.sl_uint8 (fun v1119 h =>
  commit_Coin.tail m0 v1117 v5 v3 R v1119 h)) h) h) ∧
  (opK Try.prog .slice (convert T.sl_uint8 T.sl_uint8 (.slice v1089.a v1089.n v1089.c)) (fun (v1122 : Sl) h =>
  ((callK Try.prog .bool F.commit_bit #[.int .i64 side3] (fun (v1123 : Bool) h =>
  stillAggK (sizeOfT Try.prog T.api_Tag) h nonce_2 v5 ∧
  newSlK h 4 #[.slice v1122.a v1122.n v1122.c, .slice v4.a v4.n v4.c, .slice v1069.a v1069.n v1069.c, .slice v1116.a v1116.n v1116.c] T.sl_uint8 (fun v1124 h =>
  commit_Coin.tail m0 v1123 v5 v3 R v1124 h)) h) ∧
  (newSlK h 4 #[.slice v1122.a v1122.n v1122.c, .slice v4.a v4.n v4.c, .slice v1069.a v1069.n v1069.c, .slice v1116.a v1116.n v1116.c] T.sl_uint8 (fun v1127 h =>
  callK Try.prog .bool F.commit_bit #[.int .i64 side3] (fun (v1128 : Bool) h =>
  stillAggK (sizeOfT Try.prog T.api_Tag) h nonce_2 v5 ∧
  commit_Coin.tail m0 v1128 v5 v3 R v1127 h) h)))) h))))))))) ∧
  (newSlK h 1 #[(.int .u8 (IntKind.u8.wrap side3))] T.uint8 (fun v1131 h =>
  ((callK Try.prog .bool F.commit_bit #[.int .i64 side3] (fun (v1132 : Bool) h =>
  stillAggK (sizeOfT Try.prog T.api_Tag) h nonce_2 v5 ∧
  newSlK h 4 #[.int .u8 99, .int .u8 111, .int .u8 105, .int .u8 110] T.uint8 (fun v1133 h =>
  opK Try.prog .slice (convert T.sl_uint8 T.sl_uint8 (.slice v1133.a v1133.n v1133.c)) (fun (v1134 : Sl) h =>
  newSlK h 4 #[.slice v1134.a v1134.n v1134.c, .slice v4.a v4.n v4.c, .slice v1069.a v1069.n v1069.c, .slice v1131.a v1131.n v1131.c] T.sl_uint8 (fun v1135 h =>
  commit_Coin.tail m0 v1132 v5 v3 R v1135 h)) h)) h) ∧
  (newSlK h 4 #[.int .u8 99, .int .u8 111, .int .u8 105, .int .u8 110] T.uint8 (fun v1138 h =>
  ((callK Try.prog .bool F.commit_bit #[.int .i64 side3] (fun (v1139 : Bool) h =>
  stillAggK (sizeOfT Try.prog T.api_Tag) h nonce_2 v5 ∧
  opK Try.prog .slice (convert T.sl_uint8 T.sl_uint8 (.slice v1138.a v1138.n v1138.c)) (fun (v1140 : Sl) h =>
  newSlK h 4 #[.slice v1140.a v1140.n v1140.c, .slice v4.a v4.n v4.c, .slice v1069.a v1069.n v1069.c, .slice v1131.a v1131.n v1131.c] T.sl_uint8 (fun v1141 h =>
  commit_Coin.tail m0 v1139 v5 v3 R v1141 h)) h) h) ∧
  (opK Try.prog .slice (convert T.sl_uint8 T.sl_uint8 (.slice v1138.a v1138.n v1138.c)) (fun (v1144 : Sl) h =>
  ((callK Try.prog .bool F.commit_bit #[.int .i64 side3] (fun (v1145 : Bool) h =>
  stillAggK (sizeOfT Try.prog T.api_Tag) h nonce_2 v5 ∧
  newSlK h 4 #[.slice v1144.a v1144.n v1144.c, .slice v4.a v4.n v4.c, .slice v1069.a v1069.n v1069.c, .slice v1131.a v1131.n v1131.c] T.sl_uint8 (fun v1146 h =>
  commit_Coin.tail m0 v1145 v5 v3 R v1146 h)) h) ∧
  (newSlK h 4 #[.slice v1144.a v1144.n v1144.c, .slice v4.a v4.n v4.c, .slice v1069.a v1069.n v1069.c, .slice v1131.a v1131.n v1131.c] T.sl_uint8 (fun v1149 h =>
  callK Try.prog .bool F.commit_bit #[.int .i64 side3] (fun (v1150 : Bool) h =>
  stillAggK (sizeOfT Try.prog T.api_Tag) h nonce_2 v5 ∧
  commit_Coin.tail m0 v1150 v5 v3 R v1149 h) h)))) h))))))))))
  else
  ((newSlK h 4 #[.int .u8 99, .int .u8 111, .int .u8 105, .int .u8 110] T.uint8 (fun v1153 h =>
  ((opK Try.prog .slice (convert T.sl_uint8 T.sl_uint8 (.slice v1153.a v1153.n v1153.c)) (fun (v1154 : Sl) h =>
  newSlK h 1 #[(.int .u8 (IntKind.u8.wrap side3))] T.uint8 (fun v1155 h =>
  newSlK h 4 #[.slice v1154.a v1154.n v1154.c, .slice v4.a v4.n v4.c, .slice v1069.a v1069.n v1069.c, .slice v1155.a v1155.n v1155.c] T.sl_uint8 (fun v1156 h =>
  commit_Coin.tail m0 false v5 v3 R v1156 h))) h) ∧
  (newSlK h 1 #[(.int .u8 (IntKind.u8.wrap side3))] T.uint8 (fun v1159 h =>
  opK Try.prog .slice (convert T.sl_uint8 T.sl_uint8 (.slice v1153.a v1153.n v1153.c)) (fun (v1160 : Sl) h =>
  newSlK h 4 #[.slice v1160.a v1160.n v1160.c, .slice v4.a v4.n v4.c, .slice v1069.a v1069.n v1069.c, .slice v1159.a v1159.n v1159.c] T.sl_uint8 (fun v1161 h =>
  commit_Coin.tail m0 false v5 v3 R v1161 h)) h))))) ∧
  (newSlK h 1 #[(.int .u8 (IntKind.u8.wrap side3))] T.uint8 (fun v1164 h =>
  newSlK h 4 #[.int .u8 99, .int .u8 111, .int .u8 105, .int .u8 110] T.uint8 (fun v1165 h =>
  opK Try.prog .slice (convert T.sl_uint8 T.sl_uint8 (.slice v1165.a v1165.n v1165.c)) (fun (v1166 : Sl) h =>
  newSlK h 4 #[.slice v1166.a v1166.n v1166.c, .slice v4.a v4.n v4.c, .slice v1069.a v1069.n v1069.c, .slice v1164.a v1164.n v1164.c] T.sl_uint8 (fun v1167 h =>
  commit_Coin.tail m0 false v5 v3 R v1167 h)) h))))) h) ∧
  (((newSlK h 4 #[.int .u8 99, .int .u8 111, .int .u8 105, .int .u8 110] T.uint8 (fun v1170 h =>
  ((callK Try.prog .bool F.commit_bit #[.int .i64 player2] (fun (v1171 : Bool) h =>
  stillAggK (sizeOfT Try.prog T.api_Tag) h nonce_2 v5 ∧
  if v1171 = true then
  ((callK Try.prog .bool F.commit_bit #[.int .i64 side3] (fun (v1172 : Bool) h =>
  stillAggK (sizeOfT Try.prog T.api_Tag) h nonce_2 v5 ∧
  ((opK Try.prog .slice (convert T.sl_uint8 T.sl_uint8 (.slice v1170.a v1170.n v1170.c)) (fun (v1173 : Sl) h =>
  newSlK h 1 #[(.int .u8 (IntKind.u8.wrap side3))] T.uint8 (fun v1174 h =>
  newSlK h 4 #[.slice v1173.a v1173.n v1173.c, .slice v4.a v4.n v4.c, .slice v1069.a v1069.n v1069.c, .slice v1174.a v1174.n v1174.c] T.sl_uint8 (fun v1175 h =>
  commit_Coin.tail m0 v1172 v5 v3 R v1175 h))) h) ∧
  (newSlK h 1 #[(.int .u8 (IntKind.u8.wrap side3))] T.uint8 (fun v1178 h =>
  opK Try.prog .slice (convert T.sl_uint8 T.sl_uint8 (.slice v1170.a v1170.n v1170.c)) (fun (v1179 : Sl) h =>
  newSlK h 4 #[.slice v1179.a v1179.n v1179.c, .slice v4.a v4.n v4.c, .slice v1069.a v1069.n v1069.c, .slice v1178.a v1178.n v1178.c] T.sl_uint8 (fun v1180 h =>
  commit_Coin.tail m0 v1172 v5 v3 R v1180 h)) h)))) h) ∧
  (((opK Try.prog .slice (convert T.sl_uint8 T.sl_uint8 (.slice v1170.a v1170.n v1170.c)) (fun (v1183 : Sl) h =>
  ((callK Try.prog .bool F.commit_bit #[.int .i64 side3] (fun (v1184 : Bool) h =>
  stillAggK (sizeOfT Try.prog T.api_Tag) h nonce_2 v5 ∧
  newSlK h 1 #[(.int .u8 (IntKind.u8.wrap side3))] T.uint8 (fun v1185 h =>
  newSlK h 4 #[.slice v1183.a v1183.n v1183.c, .slice v4.a v4.n v4.c, .slice v1069.a v1069.n v1069.c, .slice v1185.a v1185.n v1185.c] T.sl_uint8 (fun v1186 h =>
  commit_Coin.tail m0 v1184 v5 v3 R v1186 h))) h) ∧
  (newSlK h 1 #[(.int .u8 (IntKind.u8.wrap side3))] T.uint8 (fun v1189 h =>
  ((callK Try.prog .bool F.commit_bit #[.int .i64 side3] (fun (v1190 : Bool) h =>
  stillAggK (sizeOfT Try.prog T.api_Tag) h nonce_2 v5 ∧
  newSlK h 4 #[.slice v1183.a v1183.n v1183.c, .slice v4.a v4.n v4.c, .slice v1069.a v1069.n v1069.c, .slice v1189.a v1189.n v1189.c] T.sl_uint8 (fun v1191 h =>
  commit_Coin.tail m0 v1190 v5 v3 R v1191 h)) h) ∧
  (newSlK h 4 #[.slice v1183.a v1183.n v1183.c, .slice v4.a v4.n v4.c, .slice v1069.a v1069.n v1069.c, .slice v1189.a v1189.n v1189.c] T.sl_uint8 (fun v1194 h =>
  callK Try.prog .bool F.commit_bit #[.int .i64 side3] (fun (v1195 : Bool) h =>
  stillAggK (sizeOfT Try.prog T.api_Tag) h nonce_2 v5 ∧
  commit_Coin.tail m0 v1195 v5 v3 R v1194 h) h))))))) h) ∧
  (newSlK h 1 #[(.int .u8 (IntKind.u8.wrap side3))] T.uint8 (fun v1198 h =>
  ((callK Try.prog .bool F.commit_bit #[.int .i64 side3] (fun (v1199 : Bool) h =>
  stillAggK (sizeOfT Try.prog T.api_Tag) h nonce_2 v5 ∧
  opK Try.prog .slice (convert T.sl_uint8 T.sl_uint8 (.slice v1170.a v1170.n v1170.c)) (fun (v1200 : Sl) h =>
  newSlK h 4 #[.slice v1200.a v1200.n v1200.c, .slice v4.a v4.n v4.c, .slice v1069.a v1069.n v1069.c, .slice v1198.a v1198.n v1198.c] T.sl_uint8 (fun v1201 h =>
  commit_Coin.tail m0 v1199 v5 v3 R v1201 h)) h) h) ∧
  (opK Try.prog .slice (convert T.sl_uint8 T.sl_uint8 (.slice v1170.a v1170.n v1170.c)) (fun (v1204 : Sl) h =>
  ((callK Try.prog .bool F.commit_bit #[.int .i64 side3] (fun (v1205 : Bool) h =>
  stillAggK (sizeOfT Try.prog T.api_Tag) h nonce_2 v5 ∧
  newSlK h 4 #[.slice v1204.a v1204.n v1204.c, .slice v4.a v4.n v4.c, .slice v1069.a v1069.n v1069.c, .slice v1198.a v1198.n v1198.c] T.sl_uint8 (fun v1206 h =>
  commit_Coin.tail m0 v1205 v5 v3 R v1206 h)) h) ∧
  (newSlK h 4 #[.slice v1204.a v1204.n v1204.c, .slice v4.a v4.n v4.c, .slice v1069.a v1069.n v1069.c, .slice v1198.a v1198.n v1198.c] T.sl_uint8 (fun v1209 h =>
  callK Try.prog .bool F.commit_bit #[.int .i64 side3] (fun (v1210 : Bool) h =>
  stillAggK (sizeOfT Try.prog T.api_Tag) h nonce_2 v5 ∧
  commit_Coin.tail m0 v1210 v5 v3 R v1209 h) h)))) h)))))))
  else
  ((opK Try.prog .slice (convert T.sl_uint8 T.sl_uint8 (.slice v1170.a v1170.n v1170.c)) (fun (v1213 : Sl) h =>
  newSlK h 1 #[(.int .u8 (IntKind.u8.wrap side3))] T.uint8 (fun v1214 h =>
  newSlK h 4 #[.slice v1213.a v1213.n v1213.c, .slice v4.a v4.n v4.c, .slice v1069.a v1069.n v1069.c, .slice v1214.a v1214.n v1214.c] T.sl_uint8 (fun v1215 h =>
  commit_Coin.tail m0 false v5 v3 R v1215 h))) h) ∧
  (newSlK h 1 #[(.int .u8 (IntKind.u8.wrap side3))] T.uint8 (fun v1218 h =>
  opK Try.prog .slice (convert T.sl_uint8 T.sl_uint8 (.slice v1170.a v1170.n v1170.c)) (fun (v1219 : Sl) h =>
  newSlK h 4 #[.slice v1219.a v1219.n v1219.c, .slice v4.a v4.n v4.c, .slice v1069.a v1069.n v1069.c, .slice v1218.a v1218.n v1218.c] T.sl_uint8 (fun v1220 h =>
  commit_Coin.tail m0 false v5 v3 R v1220 h)) h)))) h) ∧
  (((opK Try.prog .slice (convert T.sl_uint8 T.sl_uint8 (.slice v1170.a v1170.n v1170.c)) (fun (v1223 : Sl) h =>
  ((callK Try.prog .bool F.commit_bit #[.int .i64 player2] (fun (v1224 : Bool) h =>
  stillAggK (sizeOfT Try.prog T.api_Tag) h nonce_2 v5 ∧
  if v1224 = true then
  ((callK Try.prog .bool F.commit_bit #[.int .i64 side3] (fun (v1225 : Bool) h =>
  stillAggK (sizeOfT Try.prog T.api_Tag) h nonce_2 v5 ∧
  newSlK h 1 #[(.int .u8 (IntKind.u8.wrap side3))] T.uint8 (fun v1226 h =>
  newSlK h 4 #[.slice v1223.a v1223.n v1223.c, .slice v4.a v4.n v4.c, .slice v1069.a v1069.n v1069.c, .slice v1226.a v1226.n v1226.c] T.sl_uint8 (fun v1227 h =>
  commit_Coin.tail m0 v1225 v5 v3 R v1227 h))) h) ∧
  (newSlK h 1 #[(.int .u8 (IntKind.u8.wrap side3))] T.uint8 (fun v1230 h =>
  ((callK Try.prog .bool F.commit_bit #[.int .i64 side3] (fun (v1231 : Bool) h =>
  stillAggK (sizeOfT Try.prog T.api_Tag) h nonce_2 v5 ∧
  newSlK h 4 #[.slice v1223.a v1223.n v1223.c, .slice v4.a v4.n v4.c, .slice v1069.a v1069.n v1069.c, .slice v1230.a v1230.n v1230.c] T.sl_uint8 (fun v1232 h =>
  commit_Coin.tail m0 v1231 v5 v3 R v1232 h)) h) ∧
  (newSlK h 4 #[.slice v1223.a v1223.n v1223.c, .slice v4.a v4.n v4.c, .slice v1069.a v1069.n v1069.c, .slice v1230.a v1230.n v1230.c] T.sl_uint8 (fun v1235 h =>
  callK Try.prog .bool F.commit_bit #[.int .i64 side3] (fun (v1236 : Bool) h =>
  stillAggK (sizeOfT Try.prog T.api_Tag) h nonce_2 v5 ∧
  commit_Coin.tail m0 v1236 v5 v3 R v1235 h) h))))))
  else
  newSlK h 1 #[(.int .u8 (IntKind.u8.wrap side3))] T.uint8 (fun v1239 h =>
  newSlK h 4 #[.slice v1223.a v1223.n v1223.c, .slice v4.a v4.n v4.c, .slice v1069.a v1069.n v1069.c, .slice v1239.a v1239.n v1239.c] T.sl_uint8 (fun v1240 h =>
  commit_Coin.tail m0 false v5 v3 R v1240 h))) h) ∧
  (newSlK h 1 #[(.int .u8 (IntKind.u8.wrap side3))] T.uint8 (fun v1243 h =>
  ((callK Try.prog .bool F.commit_bit #[.int .i64 player2] (fun (v1244 : Bool) h =>
  stillAggK (sizeOfT Try.prog T.api_Tag) h nonce_2 v5 ∧
  if v1244 = true then
  ((callK Try.prog .bool F.commit_bit #[.int .i64 side3] (fun (v1245 : Bool) h =>
  stillAggK (sizeOfT Try.prog T.api_Tag) h nonce_2 v5 ∧
  newSlK h 4 #[.slice v1223.a v1223.n v1223.c, .slice v4.a v4.n v4.c, .slice v1069.a v1069.n v1069.c, .slice v1243.a v1243.n v1243.c] T.sl_uint8 (fun v1246 h =>
  commit_Coin.tail m0 v1245 v5 v3 R v1246 h)) h) ∧
  (newSlK h 4 #[.slice v1223.a v1223.n v1223.c, .slice v4.a v4.n v4.c, .slice v1069.a v1069.n v1069.c, .slice v1243.a v1243.n v1243.c] T.sl_uint8 (fun v1249 h =>
  callK Try.prog .bool F.commit_bit #[.int .i64 side3] (fun (v1250 : Bool) h =>
  stillAggK (sizeOfT Try.prog T.api_Tag) h nonce_2 v5 ∧
  commit_Coin.tail m0 v1250 v5 v3 R v1249 h) h)))
  else
  newSlK h 4 #[.slice v1223.a v1223.n v1223.c, .slice v4.a v4.n v4.c, .slice v1069.a v1069.n v1069.c, .slice v1243.a v1243.n v1243.c] T.sl_uint8 (fun v1253 h =>
  commit_Coin.tail m0 false v5 v3 R v1253 h)) h) ∧
  (newSlK h 4 #[.slice v1223.a v1223.n v1223.c, .slice v4.a v4.n v4.c, .slice v1069.a v1069.n v1069.c, .slice v1243.a v1243.n v1243.c] T.sl_uint8 (fun v1256 h =>
  callK Try.prog .bool F.commit_bit #[.int .i64 player2] (fun (v1257 : Bool) h =>
  stillAggK (sizeOfT Try.prog T.api_Tag) h nonce_2 v5 ∧
  if v1257 = true then
  callK Try.prog .bool F.commit_bit #[.int .i64 side3] (fun (v1258 : Bool) h =>
  stillAggK (sizeOfT Try.prog T.api_Tag) h nonce_2 v5 ∧
  commit_Coin.tail m0 v1258 v5 v3 R v1256 h) h
  else
  commit_Coin.tail m0 false v5 v3 R v1256 h) h))))))) h) ∧
  (newSlK h 1 #[(.int .u8 (IntKind.u8.wrap side3))] T.uint8 (fun v1263 h =>
  ((callK Try.prog .bool F.commit_bit #[.int .i64 player2] (fun (v1264 : Bool) h =>
  stillAggK (sizeOfT Try.prog T.api_Tag) h nonce_2 v5 ∧
  if v1264 = true then
  ((callK Try.prog .bool F.commit_bit #[.int .i64 side3] (fun (v1265 : Bool) h =>
  stillAggK (sizeOfT Try.prog T.api_Tag) h nonce_2 v5 ∧
  opK Try.prog .slice (convert T.sl_uint8 T.sl_uint8 (.slice v1170.a v1170.n v1170.c)) (fun (v1266 : Sl) h =>
  newSlK h 4 #[.slice v1266.a v1266.n v1266.c, .slice v4.a v4.n v4.c, .slice v1069.a v1069.n v1069.c, .slice v1263.a v1263.n v1263.c] T.sl_uint8 (fun v1267 h =>
  commit_Coin.tail m0 v1265 v5 v3 R v1267 h)) h) h) ∧
  (opK Try.prog .slice (convert T.sl_uint8 T.sl_uint8 (.slice v1170.a v1170.n v1170.c)) (fun (v1270 : Sl) h =>
  ((callK Try.prog .bool F.commit_bit #[.int .i64 side3] (fun (v1271 : Bool) h =>
  stillAggK (sizeOfT Try.prog T.api_Tag) h nonce_2 v5 ∧
  newSlK h 4 #[.slice v1270.a v1270.n v1270.c, .slice v4.a v4.n v4.c, .slice v1069.a v1069.n v1069.c, .slice v1263.a v1263.n v1263.c] T.sl_uint8 (fun v1272 h =>
  commit_Coin.tail m0 v1271 v5 v3 R v1272 h)) h) ∧
  (newSlK h 4 #[.slice v1270.a v1270.n v1270.c, .slice v4.a v4.n v4.c, .slice v1069.a v1069.n v1069.c, .slice v1263.a v1263.n v1263.c] T.sl_uint8 (fun v1275 h =>
  callK Try.prog .bool F.commit_bit #[.int .i64 side3] (fun (v1276 : Bool) h =>
  stillAggK (sizeOfT Try.prog T.api_Tag) h nonce_2 v5 ∧
  commit_Coin.tail m0 v1276 v5 v3 R v1275 h) h)))) h))
  else
  opK Try.prog .slice (convert T.sl_uint8 T.sl_uint8 (.slice v1170.a v1170.n v1170.c)) (fun (v1279 : Sl) h =>
  newSlK h 4 #[.slice v1279.a v1279.n v1279.c, .slice v4.a v4.n v4.c, .slice v1069.a v1069.n v1069.c, .slice v1263.a v1263.n v1263.c] T.sl_uint8 (fun v1280 h =>
  commit_Coin.tail m0 false v5 v3 R v1280 h)) h) h) ∧
  (opK Try.prog .slice (convert T.sl_uint8 T.sl_uint8 (.slice v1170.a v1170.n v1170.c)) (fun (v1283 : Sl) h =>
  ((callK Try.prog .bool F.commit_bit #[.int .i64 player2] (fun (v1284 : Bool) h =>
  stillAggK (sizeOfT Try.prog T.api_Tag) h nonce_2 v5 ∧
  if v1284 = true then
  ((callK Try.prog .bool F.commit_bit #[.int .i64 side3] (fun (v1285 : Bool) h =>
  stillAggK (sizeOfT Try.prog T.api_Tag) h nonce_2 v5 ∧
  newSlK h 4 #[.slice v1283.a v1283.n v1283.c, .slice v4.a v4.n v4.c, .slice v1069.a v1069.n v1069.c, .slice v1263.a v1263.n v1263.c] T.sl_uint8 (fun v1286 h =>
  commit_Coin.tail m0 v1285 v5 v3 R v1286 h)) h) ∧
  (newSlK h 4 #[.slice v1283.a v1283.n v1283.c, .slice v4.a v4.n v4.c, .slice v1069.a v1069.n v1069.c, .slice v1263.a v1263.n v1263.c] T.sl_uint8 (fun v1289 h =>
  callK Try.prog .bool F.commit_bit #[.int .i64 side3] (fun (v1290 : Bool) h =>
  stillAggK (sizeOfT Try.prog T.api_Tag) h nonce_2 v5 ∧
  commit_Coin.tail m0 v1290 v5 v3 R v1289 h) h)))
  else
  newSlK h 4 #[.slice v1283.a v1283.n v1283.c, .slice v4.a v4.n v4.c, .slice v1069.a v1069.n v1069.c, .slice v1263.a v1263.n v1263.c] T.sl_uint8 (fun v1293 h =>
  commit_Coin.tail m0 false v5 v3 R v1293 h)) h) ∧
  (newSlK h 4 #[.slice v1283.a v1283.n v1283.c, .slice v4.a v4.n v4.c, .slice v1069.a v1069.n v1069.c, .slice v1263.a v1263.n v1263.c] T.sl_uint8 (fun v1296 h =>
  callK Try.prog .bool F.commit_bit #[.int .i64 player2] (fun (v1297 : Bool) h =>
  stillAggK (sizeOfT Try.prog T.api_Tag) h nonce_2 v5 ∧
  if v1297 = true then
  callK Try.prog .bool F.commit_bit #[.int .i64 side3] (fun (v1298 : Bool) h =>
  stillAggK (sizeOfT Try.prog T.api_Tag) h nonce_2 v5 ∧
  commit_Coin.tail m0 v1298 v5 v3 R v1296 h) h
  else
  commit_Coin.tail m0 false v5 v3 R v1296 h) h)))) h))))))))) ∧
  (newSlK h 1 #[(.int .u8 (IntKind.u8.wrap side3))] T.uint8 (fun v1303 h =>
  ((callK Try.prog .bool F.commit_bit #[.int .i64 player2] (fun (v1304 : Bool) h =>
  stillAggK (sizeOfT Try.prog T.api_Tag) h nonce_2 v5 ∧
  if v1304 = true then
  ((callK Try.prog .bool F.commit_bit #[.int .i64 side3] (fun (v1305 : Bool) h =>
  stillAggK (sizeOfT Try.prog T.api_Tag) h nonce_2 v5 ∧
  newSlK h 4 #[.int .u8 99, .int .u8 111, .int .u8 105, .int .u8 110] T.uint8 (fun v1306 h =>
  opK Try.prog .slice (convert T.sl_uint8 T.sl_uint8 (.slice v1306.a v1306.n v1306.c)) (fun (v1307 : Sl) h =>
  newSlK h 4 #[.slice v1307.a v1307.n v1307.c, .slice v4.a v4.n v4.c, .slice v1069.a v1069.n v1069.c, .slice v1303.a v1303.n v1303.c] T.sl_uint8 (fun v1308 h =>
  commit_Coin.tail m0 v1305 v5 v3 R v1308 h)) h)) h) ∧
  (newSlK h 4 #[.int .u8 99, .int .u8 111, .int .u8 105, .int .u8 110] T.uint8 (fun v1311 h =>
  ((callK Try.prog .bool F.commit_bit #[.int .i64 side3] (fun (v1312 : Bool) h =>
  stillAggK (sizeOfT Try.prog T.api_Tag) h nonce_2 v5 ∧
  opK Try.prog .slice (convert T.sl_uint8 T.sl_uint8 (.slice v1311.a v1311.n v1311.c)) (fun (v1313 : Sl) h =>
  newSlK h 4 #[.slice v1313.a v1313.n v1313.c, .slice v4.a v4.n v4.c, .slice v1069.a v1069.n v1069.c, .slice v1303.a v1303.n v1303.c] T.sl_uint8 (fun v1314 h =>
  commit_Coin.tail m0 v1312 v5 v3 R v1314 h)) h) h) ∧
  (opK Try.prog .slice (convert T.sl_uint8 T.sl_uint8 (.slice v1311.a v1311.n v1311.c)) (fun (v1317 : Sl) h =>
  ((callK Try.prog .bool F.commit_bit #[.int .i64 side3] (fun (v1318 : Bool) h =>
  stillAggK (sizeOfT Try.prog T.api_Tag) h nonce_2 v5 ∧
  newSlK h 4 #[.slice v1317.a v1317.n v1317.c, .slice v4.a v4.n v4.c, .slice v1069.a v1069.n v1069.c, .slice v1303.a v1303.n v1303.c] T.sl_uint8 (fun v1319 h =>
  commit_Coin.tail m0 v1318 v5 v3 R v1319 h)) h) ∧
  (newSlK h 4 #[.slice v1317.a v1317.n v1317.c, .slice v4.a v4.n v4.c, .slice v1069.a v1069.n v1069.c, .slice v1303.a v1303.n v1303.c] T.sl_uint8 (fun v1322 h =>
  callK Try.prog .bool F.commit_bit #[.int .i64 side3] (fun (v1323 : Bool) h =>
  stillAggK (sizeOfT Try.prog T.api_Tag) h nonce_2 v5 ∧
  commit_Coin.tail m0 v1323 v5 v3 R v1322 h) h)))) h)))))
  else
  newSlK h 4 #[.int .u8 99, .int .u8 111, .int .u8 105, .int .u8 110] T.uint8 (fun v1326 h =>
  opK Try.prog .slice (convert T.sl_uint8 T.sl_uint8 (.slice v1326.a v1326.n v1326.c)) (fun (v1327 : Sl) h =>
  newSlK h 4 #[.slice v1327.a v1327.n v1327.c, .slice v4.a v4.n v4.c, .slice v1069.a v1069.n v1069.c, .slice v1303.a v1303.n v1303.c] T.sl_uint8 (fun v1328 h =>
  commit_Coin.tail m0 false v5 v3 R v1328 h)) h)) h) ∧
  (newSlK h 4 #[.int .u8 99, .int .u8 111, .int .u8 105, .int .u8 110] T.uint8 (fun v1331 h =>
  ((callK Try.prog .bool F.commit_bit #[.int .i64 player2] (fun (v1332 : Bool) h =>
  stillAggK (sizeOfT Try.prog T.api_Tag) h nonce_2 v5 ∧
  if v1332 = true then
  ((callK Try.prog .bool F.commit_bit #[.int .i64 side3] (fun (v1333 : Bool) h =>
  stillAggK (sizeOfT Try.prog T.api_Tag) h nonce_2 v5 ∧
  opK Try.prog .slice (convert T.sl_uint8 T.sl_uint8 (.slice v1331.a v1331.n v1331.c)) (fun (v1334 : Sl) h =>
  newSlK h 4 #[.slice v1334.a v1334.n v1334.c, .slice v4.a v4.n v4.c, .slice v1069.a v1069.n v1069.c, .slice v1303.a v1303.n v1303.c] T.sl_uint8 (fun v1335 h =>
  commit_Coin.tail m0 v1333 v5 v3 R v1335 h)) h) h) ∧
  (opK Try.prog .slice (convert T.sl_uint8 T.sl_uint8 (.slice v1331.a v1331.n v1331.c)) (fun (v1338 : Sl) h =>
  ((callK Try.prog .bool F.commit_bit #[.int .i64 side3] (fun (v1339 : Bool) h =>
  stillAggK (sizeOfT Try.prog T.api_Tag) h nonce_2 v5 ∧
  newSlK h 4 #[.slice v1338.a v1338.n v1338.c, .slice v4.a v4.n v4.c, .slice v1069.a v1069.n v1069.c, .slice v1303.a v1303.n v1303.c] T.sl_uint8 (fun v1340 h =>
  commit_Coin.tail m0 v1339 v5 v3 R v1340 h)) h) ∧
  (newSlK h 4 #[.slice v1338.a v1338.n v1338.c, .slice v4.a v4.n v4.c, .slice v1069.a v1069.n v1069.c, .slice v1303.a v1303.n v1303.c] T.sl_uint8 (fun v1343 h =>
  callK Try.prog .bool F.commit_bit #[.int .i64 side3] (fun (v1344 : Bool) h =>
  stillAggK (sizeOfT Try.prog T.api_Tag) h nonce_2 v5 ∧
  commit_Coin.tail m0 v1344 v5 v3 R v1343 h) h)))) h))
  else
  opK Try.prog .slice (convert T.sl_uint8 T.sl_uint8 (.slice v1331.a v1331.n v1331.c)) (fun (v1347 : Sl) h =>
  newSlK h 4 #[.slice v1347.a v1347.n v1347.c, .slice v4.a v4.n v4.c, .slice v1069.a v1069.n v1069.c, .slice v1303.a v1303.n v1303.c] T.sl_uint8 (fun v1348 h =>
  commit_Coin.tail m0 false v5 v3 R v1348 h)) h) h) ∧
  (opK Try.prog .slice (convert T.sl_uint8 T.sl_uint8 (.slice v1331.a v1331.n v1331.c)) (fun (v1351 : Sl) h =>
  ((callK Try.prog .bool F.commit_bit #[.int .i64 player2] (fun (v1352 : Bool) h =>
  stillAggK (sizeOfT Try.prog T.api_Tag) h nonce_2 v5 ∧
  if v1352 = true then
  ((callK Try.prog .bool F.commit_bit #[.int .i64 side3] (fun (v1353 : Bool) h =>
  stillAggK (sizeOfT Try.prog T.api_Tag) h nonce_2 v5 ∧
  newSlK h 4 #[.slice v1351.a v1351.n v1351.c, .slice v4.a v4.n v4.c, .slice v1069.a v1069.n v1069.c, .slice v1303.a v1303.n v1303.c] T.sl_uint8 (fun v1354 h =>
  commit_Coin.tail m0 v1353 v5 v3 R v1354 h)) h) ∧
  (newSlK h 4 #[.slice v1351.a v1351.n v1351.c, .slice v4.a v4.n v4.c, .slice v1069.a v1069.n v1069.c, .slice v1303.a v1303.n v1303.c] T.sl_uint8 (fun v1357 h =>
  callK Try.prog .bool F.commit_bit #[.int .i64 side3] (fun (v1358 : Bool) h =>
  stillAggK (sizeOfT Try.prog T.api_Tag) h nonce_2 v5 ∧
  commit_Coin.tail m0 v1358 v5 v3 R v1357 h) h)))
  else
  newSlK h 4 #[.slice v1351.a v1351.n v1351.c, .slice v4.a v4.n v4.c, .slice v1069.a v1069.n v1069.c, .slice v1303.a v1303.n v1303.c] T.sl_uint8 (fun v1361 h =>
  commit_Coin.tail m0 false v5 v3 R v1361 h)) h) ∧
  (newSlK h 4 #[.slice v1351.a v1351.n v1351.c, .slice v4.a v4.n v4.c, .slice v1069.a v1069.n v1069.c, .slice v1303.a v1303.n v1303.c] T.sl_uint8 (fun v1364 h =>
  callK Try.prog .bool F.commit_bit #[.int .i64 player2] (fun (v1365 : Bool) h =>
  stillAggK (sizeOfT Try.prog T.api_Tag) h nonce_2 v5 ∧
  if v1365 = true then
  callK Try.prog .bool F.commit_bit #[.int .i64 side3] (fun (v1366 : Bool) h =>
  stillAggK (sizeOfT Try.prog T.api_Tag) h nonce_2 v5 ∧
  commit_Coin.tail m0 v1366 v5 v3 R v1364 h) h
  else
  commit_Coin.tail m0 false v5 v3 R v1364 h) h)))) h)))))))))))) ∧
  (newSlK h 1 #[(.int .u8 (IntKind.u8.wrap side3))] T.uint8 (fun v1371 h =>
  ((callK Try.prog .bool F.commit_bit #[.int .i64 player2] (fun (v1372 : Bool) h =>
  stillAggK (sizeOfT Try.prog T.api_Tag) h nonce_2 v5 ∧
  if v1372 = true then
  ((callK Try.prog .bool F.commit_bit #[.int .i64 side3] (fun (v1373 : Bool) h =>
  stillAggK (sizeOfT Try.prog T.api_Tag) h nonce_2 v5 ∧
  ((newSlK h 4 #[.int .u8 99, .int .u8 111, .int .u8 105, .int .u8 110] T.uint8 (fun v1374 h =>
  ((opK Try.prog .slice (convert T.sl_uint8 T.sl_uint8 (.slice v1374.a v1374.n v1374.c)) (fun (v1375 : Sl) h =>
  newSlK h 1 #[(.int .u8 (IntKind.u8.wrap player2))] T.uint8 (fun v1376 h =>
  newSlK h 4 #[.slice v1375.a v1375.n v1375.c, .slice v4.a v4.n v4.c, .slice v1376.a v1376.n v1376.c, .slice v1371.a v1371.n v1371.c] T.sl_uint8 (fun v1377 h =>
  commit_Coin.tail m0 v1373 v5 v3 R v1377 h))) h) ∧
  (newSlK h 1 #[(.int .u8 (IntKind.u8.wrap player2))] T.uint8 (fun v1380 h =>
  opK Try.prog .slice (convert T.sl_uint8 T.sl_uint8 (.slice v1374.a v1374.n v1374.c)) (fun (v1381 : Sl) h =>
  newSlK h 4 #[.slice v1381.a v1381.n v1381.c, .slice v4.a v4.n v4.c, .slice v1380.a v1380.n v1380.c, .slice v1371.a v1371.n v1371.c] T.sl_uint8 (fun v1382 h =>
  commit_Coin.tail m0 v1373 v5 v3 R v1382 h)) h))))) ∧
  (newSlK h 1 #[(.int .u8 (IntKind.u8.wrap player2))] T.uint8 (fun v1385 h =>
  newSlK h 4 #[.int .u8 99, .int .u8 111, .int .u8 105, .int .u8 110] T.uint8 (fun v1386 h =>
  opK Try.prog .slice (convert T.sl_uint8 T.sl_uint8 (.slice v1386.a v1386.n v1386.c)) (fun (v1387 : Sl) h =>
  newSlK h 4 #[.slice v1387.a v1387.n v1387.c, .slice v4.a v4.n v4.c, .slice v1385.a v1385.n v1385.c, .slice v1371.a v1371.n v1371.c] T.sl_uint8 (fun v1388 h =>
  commit_Coin.tail m0 v1373 v5 v3 R v1388 h)) h))))) h) ∧
  (((newSlK h 4 #[.int .u8 99, .int .u8 111, .int .u8 105, .int .u8 110] T.uint8 (fun v1391 h =>
  ((callK Try.prog .bool F.commit_bit #[.int .i64 side3] (fun (v1392 : Bool) h =>
  stillAggK (sizeOfT Try.prog T.api_Tag) h nonce_2 v5 ∧
  ((opK Try.prog .slice (convert T.sl_uint8 T.sl_uint8 (.slice v1391.a v1391.n v1391.c)) (fun (v1393 : Sl) h =>
  newSlK h 1 #[(.int .u8 (IntKind.u8.wrap player2))] T.uint8 (fun v1394 h =>
  newSlK h 4 #[.slice v1393.a v1393.n v1393.c, .slice v4.a v4.n v4.c, .slice v1394.a v1394.n v1394.c, .slice v1371.a v1371.n v1371.c] T.sl_uint8 (fun v1395 h =>
  commit_Coin.tail m0 v1392 v5 v3 R v1395 h))) h) ∧
  (newSlK h 1 #[(.int .u8 (IntKind.u8.wrap player2))] T.uint8 (fun v1398 h =>
  opK Try.prog .slice (convert T.sl_uint8 T.sl_uint8 (.slice v1391.a v1391.n v1391.c)) (fun (v1399 : Sl) h =>
  newSlK h 4 #[.slice v1399.a v1399.n v1399.c, .slice v4.a v4.n v4.c, .slice v1398.a v1398.n v1398.c, .slice v1371.a v1371.n v1371.c] T.sl_uint8 (fun v1400 h =>
  commit_Coin.tail m0 v1392 v5 v3 R v1400 h)) h)))) h) ∧
  (((opK Try.prog .slice (convert T.sl_uint8 T.sl_uint8 (.slice v1391.a v1391.n v1391.c)) (fun (v1403 : Sl) h =>
  ((callK Try.prog .bool F.commit_bit #[.int .i64 side3] (fun (v1404 : Bool) h =>
  stillAggK (sizeOfT Try.prog T.api_Tag) h nonce_2 v5 ∧
  newSlK h 1 #[(.int .u8 (IntKind.u8.wrap player2))] T.uint8 (fun v1405 h =>
  newSlK h 4 #[.slice v1403.a v1403.n v1403.c, .slice v4.a v4.n v4.c, .slice v1405.a v1405.n v1405.c, .slice v1371.a v1371.n v1371.c] T.sl_uint8 (fun v1406 h =>
  commit_Coin.tail m0 v1404 v5 v3 R v1406 h))) h) ∧
  (newSlK h 1 #[(.int .u8 (IntKind.u8.wrap player2))] T.uint8 (fun v1409 h =>
  ((callK Try.prog .bool F.commit_bit #[.int .i64 side3] (fun (v1410 : Bool) h =>
  stillAggK (sizeOfT Try.prog T.api_Tag) h nonce_2 v5 ∧
  newSlK h 4 #[.slice v1403.a v1403.n v1403.c, .slice v4.a v4.n v4.c, .slice v1409.a v1409.n v1409.c, .slice v1371.a v1371.n v1371.c] T.sl_uint8 (fun v1411 h =>
  commit_Coin.tail m0 v1410 v5 v3 R v1411 h)) h) ∧
  (newSlK h 4 #[.slice v1403.a v1403.n v1403.c, .slice v4.a v4.n v4.c, .slice v1409.a v1409.n v1409.c, .slice v1371.a v1371.n v1371.c] T.sl_uint8 (fun v1414 h =>
  callK Try.prog .bool F.commit_bit #[.int .i64 side3] (fun (v1415 : Bool) h =>
  stillAggK (sizeOfT Try.prog T.api_Tag) h nonce_2 v5 ∧
  commit_Coin.tail m0 v1415 v5 v3 R v1414 h) h))))))) h) ∧
  (newSlK h 1 #[(.int .u8 (IntKind.u8.wrap player2))] T.uint8 (fun v1418 h =>
  ((callK Try.prog .bool F.commit_bit #[.int .i64 side3] (fun (v1419 : Bool) h =>
  stillAggK (sizeOfT Try.prog T.api_Tag) h nonce_2 v5 ∧
  opK Try.prog .slice (convert T.sl_uint8 T.sl_uint8 (.slice v1391.a v1391.n v1391.c)) (fun (v1420 : Sl) h =>
  newSlK h 4 #[.slice v1420.a v1420.n v1420.c, .slice v4.a v4.n v4.c, .slice v1418.a v1418.n v1418.c, .slice v1371.a v1371.n v1371.c] T.sl_uint8 (fun v1421 h =>
  commit_Coin.tail m0 v1419 v5 v3 R v1421 h)) h) h) ∧
  (opK Try.prog .slice (convert T.sl_uint8 T.sl_uint8 (.slice v1391.a v1391.n v1391.c)) (fun (v1424 : Sl) h =>
  ((callK Try.prog .bool F.commit_bit #[.int .i64 side3] (fun (v1425 : Bool) h =>
  stillAggK (sizeOfT Try.prog T.api_Tag) h nonce_2 v5 ∧
  newSlK h 4 #[.slice v1424.a v1424.n v1424.c, .slice v4.a v4.n v4.c, .slice v1418.a v1418.n v1418.c, .slice v1371.a v1371.n v1371.c] T.sl_uint8 (fun v1426 h =>
  commit_Coin.tail m0 v1425 v5 v3 R v1426 h)) h) ∧
  (newSlK h 4 #[.slice v1424.a v1424.n v1424.c, .slice v4.a v4.n v4.c, .slice v1418.a v1418.n v1418.c, .slice v1371.a v1371.n v1371.c] T.sl_uint8 (fun v1429 h =>
  callK Try.prog .bool F.commit_bit #[.int .i64 side3] (fun (v1430 : Bool) h =>
  stillAggK (sizeOfT Try.prog T.api_Tag) h nonce_2 v5 ∧
  commit_Coin.tail m0 v1430 v5 v3 R v1429 h) h)))) h))))))))) ∧
  (newSlK h 1 #[(.int .u8 (IntKind.u8.wrap player2))] T.uint8 (fun v1433 h =>
  ((callK Try.prog .bool F.commit_bit #[.int .i64 side3] (fun (v1434 : Bool) h =>
  stillAggK (sizeOfT Try.prog T.api_Tag) h nonce_2 v5 ∧
  newSlK h 4 #[.int .u8 99, .int .u8 111, .int .u8 105, .int .u8 110] T.uint8 (fun v1435 h =>
  opK Try.prog .slice (convert T.sl_uint8 T.sl_uint8 (.slice v1435.a v1435.n v1435.c)) (fun (v1436 : Sl) h =>
  newSlK h 4 #[.slice v1436.a v1436.n v1436.c, .slice v4.a v4.n v4.c, .slice v1433.a v1433.n v1433.c, .slice v1371.a v1371.n v1371.c] T.sl_uint8 (fun v1437 h =>
  commit_Coin.tail m0 v1434 v5 v3 R v1437 h)) h)) h) ∧
  (newSlK h 4 #[.int .u8 99, .int .u8 111, .int .u8 105, .int .u8 110] T.uint8 (fun v1440 h =>
  ((callK Try.prog .bool F.commit_bit #[.int .i64 side3] (fun (v1441 : Bool) h =>
  stillAggK (sizeOfT Try.prog T.api_Tag) h nonce_2 v5 ∧
  opK Try.prog .slice (convert T.sl_uint8 T.sl_uint8 (.slice v1440.a v1440.n v1440.c)) (fun (v1442 : Sl) h =>
  newSlK h 4 #[.slice v1442.a v1442.n v1442.c, .slice v4.a v4.n v4.c, .slice v1433.a v1433.n v1433.c, .slice v1371.a v1371.n v1371.c] T.sl_uint8 (fun v1443 h =>
  commit_Coin.tail m0 v1441 v5 v3 R v1443 h)) h) h) ∧
  (opK Try.prog .slice (convert T.sl_uint8 T.sl_uint8 (.slice v1440.a v1440.n v1440.c)) (fun (v1446 : Sl) h =>
  ((callK Try.prog .bool F.commit_bit #[.int .i64 side3] (fun (v1447 : Bool) h =>
  stillAggK (sizeOfT Try.prog T.api_Tag) h nonce_2 v5 ∧
  newSlK h 4 #[.slice v1446.a v1446.n v1446.c, .slice v4.a v4.n v4.c, .slice v1433.a v1433.n v1433.c, .slice v1371.a v1371.n v1371.c] T.sl_uint8 (fun v1448 h =>
  commit_Coin.tail m0 v1447 v5 v3 R v1448 h)) h) ∧
  (newSlK h 4 #[.slice v1446.a v1446.n v1446.c, .slice v4.a v4.n v4.c, .slice v1433.a v1433.n v1433.c, .slice v1371.a v1371.n v1371.c] T.sl_uint8 (fun v1451 h =>
  callK Try.prog .bool F.commit_bit #[.int .i64 side3] (fun (v1452 : Bool) h =>
  stillAggK (sizeOfT Try.prog T.api_Tag) h nonce_2 v5 ∧
  commit_Coin.tail m0 v1452 v5 v3 R v1451 h) h)))) h))))))))))
  else
  ((newSlK h 4 #[.int .u8 99, .int .u8 111, .int .u8 105, .int .u8 110] T.uint8 (fun v1455 h =>
  ((opK Try.prog .slice (convert T.sl_uint8 T.sl_uint8 (.slice v1455.a v1455.n v1455.c)) (fun (v1456 : Sl) h =>
  newSlK h 1 #[(.int .u8 (IntKind.u8.wrap player2))] T.uint8 (fun v1457 h =>
  newSlK h 4 #[.slice v1456.a v1456.n v1456.c, .slice v4.a v4.n v4.c, .slice v1457.a v1457.n v1457.c, .slice v1371.a v1371.n v1371.c] T.sl_uint8 (fun v1458 h =>
  commit_Coin.tail m0 false v5 v3 R v1458 h))) h) ∧
  (newSlK h 1 #[(.int .u8 (IntKind.u8.wrap player2))] T.uint8 (fun v1461 h =>
  opK Try.prog .slice (convert T.sl_uint8 T.sl_uint8 (.slice v1455.a v1455.n v1455.c)) (fun (v1462 : Sl) h =>
  newSlK h 4 #[.slice v1462.a v1462.n v1462.c, .slice v4.a v4.n v4.c, .slice v1461.a v1461.n v1461.c, .slice v1371.a v1371.n v1371.c] T.sl_uint8 (fun v1463 h =>
  commit_Coin.tail m0 false v5 v3 R v1463 h)) h))))) ∧
  (newSlK h 1 #[(.int .u8 (IntKind.u8.wrap player2))] T.uint8 (fun v1466 h =>
  newSlK h 4 #[.int .u8 99, .int .u8 111, .int .u8 105, .int .u8 110] T.uint8 (fun v1467 h =>
  opK Try.prog .slice (convert T.sl_uint8 T.sl_uint8 (.slice v1467.a v1467.n v1467.c)) (fun (v1468 : Sl) h =>
  newSlK h 4 #[.slice v1468.a v1468.n v1468.c, .slice v4.a v4.n v4.c, .slice v1466.a v1466.n v1466.c, .slice v1371.a v1371.n v1371.c] T.sl_uint8 (fun v1469 h =>
  commit_Coin.tail m0 false v5 v3 R v1469 h)) h))))) h) ∧
  (((newSlK h 4 #[.int .u8 99, .int .u8 111, .int .u8 105, .int .u8 110] T.uint8 (fun v1472 h =>
  ((callK Try.prog .bool F.commit_bit #[.int .i64 player2] (fun (v1473 : Bool) h =>
  stillAggK (sizeOfT Try.prog T.api_Tag) h nonce_2 v5 ∧
  if v1473 = true then
  ((callK Try.prog .bool F.commit_bit #[.int .i64 side3] (fun (v1474 : Bool) h =>
  stillAggK (sizeOfT Try.prog T.api_Tag) h nonce_2 v5 ∧
  ((opK Try.prog .slice (convert T.sl_uint8 T.sl_uint8 (.slice v1472.a v1472.n v1472.c)) (fun (v1475 : Sl) h =>
  newSlK h 1 #[(.int .u8 (IntKind.u8.wrap player2))] T.uint8 (fun v1476 h =>
  newSlK h 4 #[.slice v1475.a v1475.n v1475.c, .slice v4.a v4.n v4.c, .slice v1476.a v1476.n v1476.c, .slice v1371.a v1371.n v1371.c] T.sl_uint8 (fun v1477 h =>
  commit_Coin.tail m0 v1474 v5 v3 R v1477 h))) h) ∧
  (newSlK h 1 #[(.int .u8 (IntKind.u8.wrap player2))] T.uint8 (fun v1480 h =>
  opK Try.prog .slice (convert T.sl_uint8 T.sl_uint8 (.slice v1472.a v1472.n v1472.c)) (fun (v1481 : Sl) h =>
  newSlK h 4 #[.slice v1481.a v1481.n v1481.c, .slice v4.a v4.n v4.c, .slice v1480.a v1480.n v1480.c, .slice v1371.a v1371.n v1371.c] T.sl_uint8 (fun v1482 h =>
  commit_Coin.tail m0 v1474 v5 v3 R v1482 h)) h)))) h) ∧
  (((opK Try.prog .slice (convert T.sl_uint8 T.sl_uint8 (.slice v1472.a v1472.n v1472.c)) (fun (v1485 : Sl) h =>
  ((callK Try.prog .bool F.commit_bit #[.int .i64 side3] (fun (v1486 : Bool) h =>
  stillAggK (sizeOfT Try.prog T.api_Tag) h nonce_2 v5 ∧
  newSlK h 1 #[(.int .u8 (IntKind.u8.wrap player2))] T.uint8 (fun v1487 h =>
  newSlK h 4 #[.slice v1485.a v1485.n v1485.c, .slice v4.a v4.n v4.c, .slice v1487.a v1487.n v1487.c, .slice v1371.a v1371.n v1371.c] T.sl_uint8 (fun v1488 h =>
  commit_Coin.tail m0 v1486 v5 v3 R v1488 h))) h) ∧
  (newSlK h 1 #[(.int .u8 (IntKind.u8.wrap player2))] T.uint8 (fun v1491 h =>
  ((callK Try.prog .bool F.commit_bit #[.int .i64 side3] (fun (v1492 : Bool) h =>
  stillAggK (sizeOfT Try.prog T.api_Tag) h nonce_2 v5 ∧
  newSlK h 4 #[.slice v1485.a v1485.n v1485.c, .slice v4.a v4.n v4.c, .slice v1491.a v1491.n v1491.c, .slice v1371.a v1371.n v1371.c] T.sl_uint8 (fun v1493 h =>
  commit_Coin.tail m0 v1492 v5 v3 R v1493 h)) h) ∧
  (newSlK h 4 #[.slice v1485.a v1485.n v1485.c, .slice v4.a v4.n v4.c, .slice v1491.a v1491.n v1491.c, .slice v1371.a v1371.n v1371.c] T.sl_uint8 (fun v1496 h =>
  callK Try.prog .bool F.commit_bit #[.int .i64 side3] (fun (v1497 : Bool) h =>
  stillAggK (sizeOfT Try.prog T.api_Tag) h nonce_2 v5 ∧
  commit_Coin.tail m0 v1497 v5 v3 R v1496 h) h))))))) h) ∧
  (newSlK h 1 #[(.int .u8 (IntKind.u8.wrap player2))] T.uint8 (fun v1500 h =>
  ((callK Try.prog .bool F.commit_bit #[.int .i64 side3] (fun (v1501 : Bool) h =>
  stillAggK (sizeOfT Try.prog T.api_Tag) h nonce_2 v5 ∧
  opK Try.prog .slice (convert T.sl_uint8 T.sl_uint8 (.slice v1472.a v1472.n v1472.c)) (fun (v1502 : Sl) h =>
  newSlK h 4 #[.slice v1502.a v1502.n v1502.c, .slice v4.a v4.n v4.c, .slice v1500.a v1500.n v1500.c, .slice v1371.a v1371.n v1371.c] T.sl_uint8 (fun v1503 h =>
  commit_Coin.tail m0 v1501 v5 v3 R v1503 h)) h) h) ∧
  (opK Try.prog .slice (convert T.sl_uint8 T.sl_uint8 (.slice v1472.a v1472.n v1472.c)) (fun (v1506 : Sl) h =>
  ((callK Try.prog .bool F.commit_bit #[.int .i64 side3] (fun (v1507 : Bool) h =>
  stillAggK (sizeOfT Try.prog T.api_Tag) h nonce_2 v5 ∧
  newSlK h 4 #[.slice v1506.a v1506.n v1506.c, .slice v4.a v4.n v4.c, .slice v1500.a v1500.n v1500.c, .slice v1371.a v1371.n v1371.c] T.sl_uint8 (fun v1508 h =>
  commit_Coin.tail m0 v1507 v5 v3 R v1508 h)) h) ∧
  (newSlK h 4 #[.slice v1506.a v1506.n v1506.c, .slice v4.a v4.n v4.c, .slice v1500.a v1500.n v1500.c, .slice v1371.a v1371.n v1371.c] T.sl_uint8 (fun v1511 h =>
  callK Try.prog .bool F.commit_bit #[.int .i64 side3] (fun (v1512 : Bool) h =>
  stillAggK (sizeOfT Try.prog T.api_Tag) h nonce_2 v5 ∧
  commit_Coin.tail m0 v1512 v5 v3 R v1511 h) h)))) h)))))))
  else
  ((opK Try.prog .slice (convert T.sl_uint8 T.sl_uint8 (.slice v1472.a v1472.n v1472.c)) (fun (v1515 : Sl) h =>
  newSlK h 1 #[(.int .u8 (IntKind.u8.wrap player2))] T.uint8 (fun v1516 h =>
  newSlK h 4 #[.slice v1515.a v1515.n v1515.c, .slice v4.a v4.n v4.c, .slice v1516.a v1516.n v1516.c, .slice v1371.a v1371.n v1371.c] T.sl_uint8 (fun v1517 h =>
  commit_Coin.tail m0 false v5 v3 R v1517 h))) h) ∧
  (newSlK h 1 #[(.int .u8 (IntKind.u8.wrap player2))] T.uint8 (fun v1520 h =>
  opK Try.prog .slice (convert T.sl_uint8 T.sl_uint8 (.slice v1472.a v1472.n v1472.c)) (fun (v1521 : Sl) h =>
  newSlK h 4 #[.slice v1521.a v1521.n v1521.c, .slice v4.a v4.n v4.c, .slice v1520.a v1520.n v1520.c, .slice v1371.a v1371.n v1371.c] T.sl_uint8 (fun v1522 h =>
  commit_Coin.tail m0 false v5 v3 R v1522 h)) h)))) h) ∧
  (((opK Try.prog .slice (convert T.sl_uint8 T.sl_uint8 (.slice v1472.a v1472.n v1472.c)) (fun (v1525 : Sl) h =>
  ((callK Try.prog .bool F.commit_bit #[.int .i64 player2] (fun (v1526 : Bool) h =>
  stillAggK (sizeOfT Try.prog T.api_Tag) h nonce_2 v5 ∧
  if v1526 = true then
  ((callK Try.prog .bool F.commit_bit #[.int .i64 side3] (fun (v1527 : Bool) h =>
  stillAggK (sizeOfT Try.prog T.api_Tag) h nonce_2 v5 ∧
  newSlK h 1 #[(.int .u8 (IntKind.u8.wrap player2))] T.uint8 (fun v1528 h =>
  newSlK h 4 #[.slice v1525.a v1525.n v1525.c, .slice v4.a v4.n v4.c, .slice v1528.a v1528.n v1528.c, .slice v1371.a v1371.n v1371.c] T.sl_uint8 (fun v1529 h =>
  commit_Coin.tail m0 v1527 v5 v3 R v1529 h))) h) ∧
  (newSlK h 1 #[(.int .u8 (IntKind.u8.wrap player2))] T.uint8 (fun v1532 h =>
  ((callK Try.prog .bool F.commit_bit #[.int .i64 side3] (fun (v1533 : Bool) h =>
  stillAggK (sizeOfT Try.prog T.api_Tag) h nonce_2 v5 ∧
  newSlK h 4 #[.slice v1525.a v1525.n v1525.c, .slice v4.a v4.n v4.c, .slice v1532.a v1532.n v1532.c, .slice v1371.a v1371.n v1371.c] T.sl_uint8 (fun v1534 h =>
  commit_Coin.tail m0 v1533 v5 v3 R v1534 h)) h) ∧
  (newSlK h 4 #[.slice v1525.a v1525.n v1525.c, .slice v4.a v4.n v4.c, .slice v1532.a v1532.n v1532.c, .slice v1371.a v1371.n v1371.c] T.sl_uint8 (fun v1537 h =>
  callK Try.prog .bool F.commit_bit #[.int .i64 side3] (fun (v1538 : Bool) h =>
  stillAggK (sizeOfT Try.prog T.api_Tag) h nonce_2 v5 ∧
  commit_Coin.tail m0 v1538 v5 v3 R v1537 h) h))))))
  else
  newSlK h 1 #[(.int .u8 (IntKind.u8.wrap player2))] T.uint8 (fun v1541 h =>
  newSlK h 4 #[.slice v1525.a v1525.n v1525.c, .slice v4.a v4.n v4.c, .slice v1541.a v1541.n v1541.c, .slice v1371.a v1371.n v1371.c] T.sl_uint8 (fun v1542 h =>
  commit_Coin.tail m0 false v5 v3 R v1542 h))) h) ∧
  (newSlK h 1 #[(.int .u8 (IntKind.u8.wrap player2))] T.uint8 (fun v1545 h =>
  ((callK Try.prog .bool F.commit_bit #[.int .i64 player2] (fun (v1546 : Bool) h =>
  stillAggK (sizeOfT Try.prog T.api_Tag) h nonce_2 v5 ∧
  if v1546 = true then
  ((callK Try.prog .bool F.commit_bit #[.int .i64 side3] (fun (v1547 : Bool) h =>
  stillAggK (sizeOfT Try.prog T.api_Tag) h nonce_2 v5 ∧
  newSlK h 4 #[.slice v1525.a v1525.n v1525.c, .slice v4.a v4.n v4.c, .slice v1545.a v1545.n v1545.c, .slice v1371.a v1371.n v1371.c] T.sl_uint8 (fun v1548 h =>
  commit_Coin.tail m0 v1547 v5 v3 R v1548 h)) h) ∧
  (newSlK h 4 #[.slice v1525.a v1525.n v1525.c, .slice v4.a v4.n v4.c, .slice v1545.a v1545.n v1545.c, .slice v1371.a v1371.n v1371.c] T.sl_uint8 (fun v1551 h =>
  callK Try.prog .bool F.commit_bit #[.int .i64 side3] (fun (v1552 : Bool) h =>
  stillAggK (sizeOfT Try.prog T.api_Tag) h nonce_2 v5 ∧
  commit_Coin.tail m0 v1552 v5 v3 R v1551 h) h)))
  else
  newSlK h 4 #[.slice v1525.a v1525.n v1525.c, .slice v4.a v4.n v4.c, .slice v1545.a v1545.n v1545.c, .slice v1371.a v1371.n v1371.c] T.sl_uint8 (fun v1555 h =>
  commit_Coin.tail m0 false v5 v3 R v1555 h)) h) ∧
  (newSlK h 4 #[.slice v1525.a v1525.n v1525.c, .slice v4.a v4.n v4.c, .slice v1545.a v1545.n v1545.c, .slice v1371.a v1371.n v1371.c] T.sl_uint8 (fun v1558 h =>
  callK Try.prog .bool F.commit_bit #[.int .i64 player2] (fun (v1559 : Bool) h =>
  stillAggK (sizeOfT Try.prog T.api_Tag) h nonce_2 v5 ∧
  if v1559 = true then
  callK Try.prog .bool F.commit_bit #[.int .i64 side3] (fun (v1560 : Bool) h =>
  stillAggK (sizeOfT Try.prog T.api_Tag) h nonce_2 v5 ∧
  commit_Coin.tail m0 v1560 v5 v3 R v1558 h) h
  else
  commit_Coin.tail m0 false v5 v3 R v1558 h) h))))))) h) ∧
  (newSlK h 1 #[(.int .u8 (IntKind.u8.wrap player2))] T.uint8 (fun v1565 h =>
  ((callK Try.prog .bool F.commit_bit #[.int .i64 player2] (fun (v1566 : Bool) h =>
  stillAggK (sizeOfT Try.prog T.api_Tag) h nonce_2 v5 ∧
  if v1566 = true then
  ((callK Try.prog .bool F.commit_bit #[.int .i64 side3] (fun (v1567 : Bool) h =>
  stillAggK (sizeOfT Try.prog T.api_Tag) h nonce_2 v5 ∧
  opK Try.prog .slice (convert T.sl_uint8 T.sl_uint8 (.slice v1472.a v1472.n v1472.c)) (fun (v1568 : Sl) h =>
  newSlK h 4 #[.slice v1568.a v1568.n v1568.c, .slice v4.a v4.n v4.c, .slice v1565.a v1565.n v1565.c, .slice v1371.a v1371.n v1371.c] T.sl_uint8 (fun v1569 h =>
  commit_Coin.tail m0 v1567 v5 v3 R v1569 h)) h) h) ∧
  (opK Try.prog .slice (convert T.sl_uint8 T.sl_uint8 (.slice v1472.a v1472.n v1472.c)) (fun (v1572 : Sl) h =>
  ((callK Try.prog .bool F.commit_bit #[.int .i64 side3] (fun (v1573 : Bool) h =>
  stillAggK (sizeOfT Try.prog T.api_Tag) h nonce_2 v5 ∧
  newSlK h 4 #[.slice v1572.a v1572.n v1572.c, .slice v4.a v4.n v4.c, .slice v1565.a v1565.n v1565.c, .slice v1371.a v1371.n v1371.c] T.sl_uint8 (fun v1574 h =>
  commit_Coin.tail m0 v1573 v5 v3 R v1574 h)) h) ∧
  (newSlK h 4 #[.slice v1572.a v1572.n v1572.c, .slice v4.a v4.n v4.c, .slice v1565.a v1565.n v1565.c, .slice v1371.a v1371.n v1371.c] T.sl_uint8 (fun v1577 h =>
  callK Try.prog .bool F.commit_bit #[.int .i64 side3] (fun (v1578 : Bool) h =>
  stillAggK (sizeOfT Try.prog T.api_Tag) h nonce_2 v5 ∧
  commit_Coin.tail m0 v1578 v5 v3 R v1577 h) h)))) h))
  else
  opK Try.prog .slice (convert T.sl_uint8 T.sl_uint8 (.slice v1472.a v1472.n v1472.c)) (fun (v1581 : Sl) h =>
  newSlK h 4 #[.slice v1581.a v1581.n v1581.c, .slice v4.a v4.n v4.c, .slice v1565.a v1565.n v1565.c, .slice v1371.a v1371.n v1371.c] T.sl_uint8 (fun v1582 h =>
  commit_Coin.tail m0 false v5 v3 R v1582 h)) h) h) ∧
  (opK Try.prog .slice (convert T.sl_uint8 T.sl_uint8 (.slice v1472.a v1472.n v1472.c)) (fun (v1585 : Sl) h =>
  ((callK Try.prog .bool F.commit_bit #[.int .i64 player2] (fun (v1586 : Bool) h =>
  stillAggK (sizeOfT Try.prog T.api_Tag) h nonce_2 v5 ∧
  if v1586 = true then
  ((callK Try.prog .bool F.commit_bit #[.int .i64 side3] (fun (v1587 : Bool) h =>
  stillAggK (sizeOfT Try.prog T.api_Tag) h nonce_2 v5 ∧
  newSlK h 4 #[.slice v1585.a v1585.n v1585.c, .slice v4.a v4.n v4.c, .slice v1565.a v1565.n v1565.c, .slice v1371.a v1371.n v1371.c] T.sl_uint8 (fun v1588 h =>
  commit_Coin.tail m0 v1587 v5 v3 R v1588 h)) h) ∧
  (newSlK h 4 #[.slice v1585.a v1585.n v1585.c, .slice v4.a v4.n v4.c, .slice v1565.a v1565.n v1565.c, .slice v1371.a v1371.n v1371.c] T.sl_uint8 (fun v1591 h =>
  callK Try.prog .bool F.commit_bit #[.int .i64 side3] (fun (v1592 : Bool) h =>
  stillAggK (sizeOfT Try.prog T.api_Tag) h nonce_2 v5 ∧
  commit_Coin.tail m0 v1592 v5 v3 R v1591 h) h)))
  else
  newSlK h 4 #[.slice v1585.a v1585.n v1585.c, .slice v4.a v4.n v4.c, .slice v1565.a v1565.n v1565.c, .slice v1371.a v1371.n v1371.c] T.sl_uint8 (fun v1595 h =>
  commit_Coin.tail m0 false v5 v3 R v1595 h)) h) ∧
  (newSlK h 4 #[.slice v1585.a v1585.n v1585.c, .slice v4.a v4.n v4.c, .slice v1565.a v1565.n v1565.c, .slice v1371.a v1371.n v1371.c] T.sl_uint8 (fun v1598 h =>
  callK Try.prog .bool F.commit_bit #[.int .i64 player2] (fun (v1599 : Bool) h =>
  stillAggK (sizeOfT Try.prog T.api_Tag) h nonce_2 v5 ∧
  if v1599 = true then
  callK Try.prog .bool F.commit_bit #[.int .i64 side3] (fun (v1600 : Bool) h =>
  stillAggK (sizeOfT Try.prog T.api_Tag) h nonce_2 v5 ∧
  commit_Coin.tail m0 v1600 v5 v3 R v1598 h) h
  else
  commit_Coin.tail m0 false v5 v3 R v1598 h) h)))) h))))))))) ∧
  (newSlK h 1 #[(.int .u8 (IntKind.u8.wrap player2))] T.uint8 (fun v1605 h =>
  ((callK Try.prog .bool F.commit_bit #[.int .i64 player2] (fun (v1606 : Bool) h =>
  stillAggK (sizeOfT Try.prog T.api_Tag) h nonce_2 v5 ∧
  if v1606 = true then
  ((callK Try.prog .bool F.commit_bit #[.int .i64 side3] (fun (v1607 : Bool) h =>
  stillAggK (sizeOfT Try.prog T.api_Tag) h nonce_2 v5 ∧
  newSlK h 4 #[.int .u8 99, .int .u8 111, .int .u8 105, .int .u8 110] T.uint8 (fun v1608 h =>
  opK Try.prog .slice (convert T.sl_uint8 T.sl_uint8 (.slice v1608.a v1608.n v1608.c)) (fun (v1609 : Sl) h =>
  newSlK h 4 #[.slice v1609.a v1609.n v1609.c, .slice v4.a v4.n v4.c, .slice v1605.a v1605.n v1605.c, .slice v1371.a v1371.n v1371.c] T.sl_uint8 (fun v1610 h =>
  commit_Coin.tail m0 v1607 v5 v3 R v1610 h)) h)) h) ∧
  (newSlK h 4 #[.int .u8 99, .int .u8 111, .int .u8 105, .int .u8 110] T.uint8 (fun v1613 h =>
  ((callK Try.prog .bool F.commit_bit #[.int .i64 side3] (fun (v1614 : Bool) h =>
  stillAggK (sizeOfT Try.prog T.api_Tag) h nonce_2 v5 ∧
  opK Try.prog .slice (convert T.sl_uint8 T.sl_uint8 (.slice v1613.a v1613.n v1613.c)) (fun (v1615 : Sl) h =>
  newSlK h 4 #[.slice v1615.a v1615.n v1615.c, .slice v4.a v4.n v4.c, .slice v1605.a v1605.n v1605.c, .slice v1371.a v1371.n v1371.c] T.sl_uint8 (fun v1616 h =>
  commit_Coin.tail m0 v1614 v5 v3 R v1616 h)) h) h) ∧
  (opK Try.prog .slice (convert T.sl_uint8 T.sl_uint8 (.slice v1613.a v1613.n v1613.c)) (fun (v1619 : Sl) h =>
  ((callK Try.prog .bool F.commit_bit #[.int .i64 side3] (fun (v1620 : Bool) h =>
  stillAggK (sizeOfT Try.prog T.api_Tag) h nonce_2 v5 ∧
  newSlK h 4 #[.slice v1619.a v1619.n v1619.c, .slice v4.a v4.n v4.c, .slice v1605.a v1605.n v1605.c, .slice v1371.a v1371.n v1371.c] T.sl_uint8 (fun v1621 h =>
  commit_Coin.tail m0 v1620 v5 v3 R v1621 h)) h) ∧
  (newSlK h 4 #[.slice v1619.a v1619.n v1619.c, .slice v4.a v4.n v4.c, .slice v1605.a v1605.n v1605.c, .slice v1371.a v1371.n v1371.c] T.sl_uint8 (fun v1624 h =>
  callK Try.prog .bool F.commit_bit #[.int .i64 side3] (fun (v1625 : Bool) h =>
  stillAggK (sizeOfT Try.prog T.api_Tag) h nonce_2 v5 ∧
  commit_Coin.tail m0 v1625 v5 v3 R v1624 h) h)))) h)))))
  else
  newSlK h 4 #[.int .u8 99, .int .u8 111, .int .u8 105, .int .u8 110] T.uint8 (fun v1628 h =>
  opK Try.prog .slice (convert T.sl_uint8 T.sl_uint8 (.slice v1628.a v1628.n v1628.c)) (fun (v1629 : Sl) h =>
  newSlK h 4 #[.slice v1629.a v1629.n v1629.c, .slice v4.a v4.n v4.c, .slice v1605.a v1605.n v1605.c, .slice v1371.a v1371.n v1371.c] T.sl_uint8 (fun v1630 h =>
  commit_Coin.tail m0 false v5 v3 R v1630 h)) h)) h) ∧
  (newSlK h 4 #[.int .u8 99, .int .u8 111, .int .u8 105, .int .u8 110] T.uint8 (fun v1633 h =>
  ((callK Try.prog .bool F.commit_bit #[.int .i64 player2] (fun (v1634 : Bool) h =>
  stillAggK (sizeOfT Try.prog T.api_Tag) h nonce_2 v5 ∧
  if v1634 = true then
  ((callK Try.prog .bool F.commit_bit #[.int .i64 side3] (fun (v1635 : Bool) h =>
  stillAggK (sizeOfT Try.prog T.api_Tag) h nonce_2 v5 ∧
  opK Try.prog .slice (convert T.sl_uint8 T.sl_uint8 (.slice v1633.a v1633.n v1633.c)) (fun (v1636 : Sl) h =>
  newSlK h 4 #[.slice v1636.a v1636.n v1636.c, .slice v4.a v4.n v4.c, .slice v1605.a v1605.n v1605.c, .slice v1371.a v1371.n v1371.c] T.sl_uint8 (fun v1637 h =>
  commit_Coin.tail m0 v1635 v5 v3 R v1637 h)) h) h) ∧
  (opK Try.prog .slice (convert T.sl_uint8 T.sl_uint8 (.slice v1633.a v1633.n v1633.c)) (fun (v1640 : Sl) h =>
  ((callK Try.prog .bool F.commit_bit #[.int .i64 side3] (fun (v1641 : Bool) h =>
  stillAggK (sizeOfT Try.prog T.api_Tag) h nonce_2 v5 ∧
  newSlK h 4 #[.slice v1640.a v1640.n v1640.c, .slice v4.a v4.n v4.c, .slice v1605.a v1605.n v1605.c, .slice v1371.a v1371.n v1371.c] T.sl_uint8 (fun v1642 h =>
  commit_Coin.tail m0 v1641 v5 v3 R v1642 h)) h) ∧
  (newSlK h 4 #[.slice v1640.a v1640.n v1640.c, .slice v4.a v4.n v4.c, .slice v1605.a v1605.n v1605.c, .slice v1371.a v1371.n v1371.c] T.sl_uint8 (fun v1645 h =>
  callK Try.prog .bool F.commit_bit #[.int .i64 side3] (fun (v1646 : Bool) h =>
  stillAggK (sizeOfT Try.prog T.api_Tag) h nonce_2 v5 ∧
  commit_Coin.tail m0 v1646 v5 v3 R v1645 h) h)))) h))
  else
  opK Try.prog .slice (convert T.sl_uint8 T.sl_uint8 (.slice v1633.a v1633.n v1633.c)) (fun (v1649 : Sl) h =>
  newSlK h 4 #[.slice v1649.a v1649.n v1649.c, .slice v4.a v4.n v4.c, .slice v1605.a v1605.n v1605.c, .slice v1371.a v1371.n v1371.c] T.sl_uint8 (fun v1650 h =>
  commit_Coin.tail m0 false v5 v3 R v1650 h)) h) h) ∧
  (opK Try.prog .slice (convert T.sl_uint8 T.sl_uint8 (.slice v1633.a v1633.n v1633.c)) (fun (v1653 : Sl) h =>
  ((callK Try.prog .bool F.commit_bit #[.int .i64 player2] (fun (v1654 : Bool) h =>
  stillAggK (sizeOfT Try.prog T.api_Tag) h nonce_2 v5 ∧
  if v1654 = true then
  ((callK Try.prog .bool F.commit_bit #[.int .i64 side3] (fun (v1655 : Bool) h =>
  stillAggK (sizeOfT Try.prog T.api_Tag) h nonce_2 v5 ∧
  newSlK h 4 #[.slice v1653.a v1653.n v1653.c, .slice v4.a v4.n v4.c, .slice v1605.a v1605.n v1605.c, .slice v1371.a v1371.n v1371.c] T.sl_uint8 (fun v1656 h =>
  commit_Coin.tail m0 v1655 v5 v3 R v1656 h)) h) ∧
  (newSlK h 4 #[.slice v1653.a v1653.n v1653.c, .slice v4.a v4.n v4.c, .slice v1605.a v1605.n v1605.c, .slice v1371.a v1371.n v1371.c] T.sl_uint8 (fun v1659 h =>
  callK Try.prog .bool F.commit_bit #[.int .i64 side3] (fun (v1660 : Bool) h =>
  stillAggK (sizeOfT Try.prog T.api_Tag) h nonce_2 v5 ∧
  commit_Coin.tail m0 v1660 v5 v3 R v1659 h) h)))
  else
  newSlK h 4 #[.slice v1653.a v1653.n v1653.c, .slice v4.a v4.n v4.c, .slice v1605.a v1605.n v1605.c, .slice v1371.a v1371.n v1371.c] T.sl_uint8 (fun v1663 h =>
  commit_Coin.tail m0 false v5 v3 R v1663 h)) h) ∧
  (newSlK h 4 #[.slice v1653.a v1653.n v1653.c, .slice v4.a v4.n v4.c, .slice v1605.a v1605.n v1605.c, .slice v1371.a v1371.n v1371.c] T.sl_uint8 (fun v1666 h =>
  callK Try.prog .bool F.commit_bit #[.int .i64 player2] (fun (v1667 : Bool) h =>
  stillAggK (sizeOfT Try.prog T.api_Tag) h nonce_2 v5 ∧
  if v1667 = true then
  callK Try.prog .bool F.commit_bit #[.int .i64 side3] (fun (v1668 : Bool) h =>
  stillAggK (sizeOfT Try.prog T.api_Tag) h nonce_2 v5 ∧
  commit_Coin.tail m0 v1668 v5 v3 R v1666 h) h
  else
  commit_Coin.tail m0 false v5 v3 R v1666 h) h)))) h))))))))))))))))))))))
def commit_Coin.ann : Ann := (.seq .leaf (.seq (.any (.loc 0 (.loc 1 (.loc 10 (.loc 11 (.loc 12 (.loc 14 (.loc 15 (.st 7 8126464 (.alt 2 (.loc 3 (.locA 4 (.alt 5 (.loc 6 (.alt 8 (.alt 9 (.alt 13 (.last 16 (.last 17 (.last 18 (.loc 19 (.loc 20 (.last 21 (.loc 22 .done))))))) (.last 16 (.last 13 (.last 17 (.last 18 (.loc 19 (.loc 20 (.last 21 (.loc 22 .done))))))))) (.alt 13 (.alt 9 (.last 16 (.last 17 (.last 18 (.loc 19 (.loc 20 (.last 21 (.loc 22 .done))))))) (.last 16 (.last 9 (.last 17 (.last 18 (.loc 19 (.loc 20 (.last 21 (.loc 22 .done))))))))) (.last 16 (.alt 9 (.last 13 (.last 17 (.last 18 (.loc 19 (.loc 20 (.last 21 (.loc 22 .done))))))) (.last 13 (.last 9 (.last 17 (.last 18 (.loc 19 (.loc 20 (.last 21 (.loc 22 .done)))))))))))) (.alt 13 (.alt 8 (.alt 9 (.last 16 (.last 17 (.last 18 (.loc 19 (.loc 20 (.last 21 (.loc 22 .done))))))) (.last 16 (.last 9 (.last 17 (.last 18 (.loc 19 (.loc 20 (.last 21 (.loc 22 .done))))))))) (.last 16 (.last 8 (.last 9 (.last 17 (.last 18 (.loc 19 (.loc 20 (.last 21 (.loc 22 .done)))))))))) (.last 16 (.alt 8 (.alt 9 (.last 13 (.last 17 (.last 18 (.loc 19 (.loc 20 (.last 21 (.loc 22 .done))))))) (.last 13 (.last 9 (.last 17 (.last 18 (.loc 19 (.loc 20 (.last 21 (.loc 22 .done))))))))) (.last 13 (.last 8 (.last 9 (.last 17 (.last 18 (.loc 19 (.loc 20 (.last 21 (.loc 22 .done)))))))))))))) (.alt 8 (.alt 5 (.loc 6 (.alt 9 (.alt 13 (.last 16 (.last 17 (.last 18 (.loc 19 (.loc 20 (.last 21 (.loc 22 .done))))))) (.last 16 (.last 13 (.last 17 (.last 18 (.loc 19 (.loc 20 (.last 21 (.loc 22 .done))))))))) (.alt 13 (.alt 9 (.last 16 (.last 17 (.last 18 (.loc 19 (.loc 20 (.last 21 (.loc 22 .done))))))) (.last 16 (.last 9 (.last 17 (.last 18 (.loc 19 (.loc 20 (.last 21 (.loc 22 .done))))))))) (.last 16 (.alt 9 (.last 13 (.last 17 (.last 18 (.loc 19 (.loc 20 (.last 21 (.loc 22 .done))))))) (.last 13 (.last 9 (.last 17 (.last 18 (.loc 19 (.loc 20 (.last 21 (.loc 22 .done))))))))))))) (.alt 9 (.alt 5 (.loc 6 (.alt 13 (.last 16 (.last 17 (.last 18 (.loc 19 (.loc 20 (.last 21 (.loc 22 .done))))))) (.last 16 (.last 13 (.last 17 (.last 18 (.loc 19 (.loc 20 (.last 21 (.loc 22 .done)))))))))) (.alt 13 (.alt 5 (.loc 6 (.last 16 (.last 17 (.last 18 (.loc 19 (.loc 20 (.last 21 (.loc 22 .done)))))))) (.last 16 (.alt 5 (.loc 6 (.last 17 (.last 18 (.loc 19 (.loc 20 (.last 21 (.loc 22 .done))))))) (.last 17 (.last 5 (.loc 6 (.last 18 (.loc 19 (.loc 20 (.last 21 (.loc 22 .done))))))))))) (.last 16 (.alt 5 (.loc 6 (.last 13 (.last 17 (.last 18 (.loc 19 (.loc 20 (.last 21 (.loc 22 .done)))))))) (.last 13 (.alt 5 (.loc 6 (.last 17 (.last 18 (.loc 19 (.loc 20 (.last 21 (.loc 22 .done))))))) (.last 17 (.last 5 (.loc 6 (.last 18 (.loc 19 (.loc 20 (.last 21 (.loc 22 .done)))))))))))))) (.alt 13 (.alt 5 (.loc 6 (.alt 9 (.last 16 (.last 17 (.last 18 (.loc 19 (.loc 20 (.last 21 (.loc 22 .done))))))) (.last 16 (.last 9 (.last 17 (.last 18 (.loc 19 (.loc 20 (.last 21 (.loc 22 .done)))))))))) (.alt 9 (.alt 5 (.loc 6 (.last 16 (.last 17 (.last 18 (.loc 19 (.loc 20 (.last 21 (.loc 22 .done)))))))) (.last 16 (.alt 5 (.loc 6 (.last 17 (.last 18 (.loc 19 (.loc 20 (.last 21 (.loc 22 .done))))))) (.last 17 (.last 5 (.loc 6 (.last 18 (.loc 19 (.loc 20 (.last 21 (.loc 22 .done))))))))))) (.last 16 (.alt 5 (.loc 6 (.last 9 (.last 17 (.last 18 (.loc 19 (.loc 20 (.last 21 (.loc 22 .done)))))))) (.last 9 (.alt 5 (.loc 6 (.last 17 (.last 18 (.loc 19 (.loc 20 (.last 21 (.loc 22 .done))))))) (.last 17 (.last 5 (.loc 6 (.last 18 (.loc 19 (.loc 20 (.last 21 (.loc 22 .done)))))))))))))) (.last 16 (.alt 5 (.loc 6 (.alt 9 (.last 13 (.last 17 (.last 18 (.loc 19 (.loc 20 (.last 21 (.loc 22 .done))))))) (.last 13 (.last 9 (.last 17 (.last 18 (.loc 19 (.loc 20 (.last 21 (.loc 22 .done)))))))))) (.alt 9 (.alt 5 (.loc 6 (.last 13 (.last 17 (.last 18 (.loc 19 (.loc 20 (.last 21 (.loc 22 .done)))))))) (.last 13 (.alt 5 (.loc 6 (.last 17 (.last 18 (.loc 19 (.loc 20 (.last 21 (.loc 22 .done))))))) (.last 17 (.last 5 (.loc 6 (.last 18 (.loc 19 (.loc 20 (.last 21 (.loc 22 .done))))))))))) (.last 13 (.alt 5 (.loc 6 (.last 9 (.last 17 (.last 18 (.loc 19 (.loc 20 (.last 21 (.loc 22 .done)))))))) (.last 9 (.alt 5 (.loc 6 (.last 17 (.last 18 (.loc 19 (.loc 20 (.last 21 (.loc 22 .done))))))) (.last 17 (.last 5 (.loc 6 (.last 18 (.loc 19 (.loc 20 (.last 21 (.loc 22 .done)))))))))))))))))) (.alt 13 (.alt 5 (.loc 6 (.alt 8 (.alt 9 (.last 16 (.last 17 (.last 18 (.loc 19 (.loc 20 (.last 21 (.loc 22 .done))))))) (.last 16 (.last 9 (.last 17 (.last 18 (.loc 19 (.loc 20 (.last 21 (.loc 22 .done))))))))) (.last 16 (.last 8 (.last 9 (.last 17 (.last 18 (.loc 19 (.loc 20 (.last 21 (.loc 22 .done))))))))))) (.alt 8 (.alt 5 (.loc 6 (.alt 9 (.last 16 (.last 17 (.last 18 (.loc 19 (.loc 20 (.last 21 (.loc 22 .done))))))) (.last 16 (.last 9 (.last 17 (.last 18 (.loc 19 (.loc 20 (.last 21 (.loc 22 .done)))))))))) (.alt 9 (.alt 5 (.loc 6 (.last 16 (.last 17 (.last 18 (.loc 19 (.loc 20 (.last 21 (.loc 22 .done)))))))) (.last 16 (.alt 5 (.loc 6 (.last 17 (.last 18 (.loc 19 (.loc 20 (.last 21 (.loc 22 .done))))))) (.last 17 (.last 5 (.loc 6 (.last 18 (.loc 19 (.loc 20 (.last 21 (.loc 22 .done))))))))))) (.last 16 (.alt 5 (.loc 6 (.last 9 (.last 17 (.last 18 (.loc 19 (.loc 20 (.last 21 (.loc 22 .done)))))))) (.last 9 (.alt 5 (.loc 6 (.last 17 (.last 18 (.loc 19 (.loc 20 (.last 21 (.loc 22 .done))))))) (.last 17 (.last 5 (.loc 6 (.last 18 (.loc 19 (.loc 20 (.last 21 (.loc 22 .done)))))))))))))) (.last 16 (.alt 5 (.loc 6 (.last 8 (.last 9 (.last 17 (.last 18 (.loc 19 (.loc 20 (.last 21 (.loc 22 .done))))))))) (.last 8 (.alt 5 (.loc 6 (.last 9 (.last 17 (.last 18 (.loc 19 (.loc 20 (.last 21 (.loc 22 .done)))))))) (.last 9 (.alt 5 (.loc 6 (.last 17 (.last 18 (.loc 19 (.loc 20 (.last 21 (.loc 22 .done))))))) (.last 17 (.last 5 (.loc 6 (.last 18 (.loc 19 (.loc 20 (.last 21 (.loc 22 .done)))))))))))))))) (.last 16 (.alt 5 (.loc 6 (.alt 8 (.alt 9 (.last 13 (.last 17 (.last 18 (.loc 19 (.loc 20 (.last 21 (.loc 22 .done))))))) (.last 13 (.last 9 (.last 17 (.last 18 (.loc 19 (.loc 20 (.last 21 (.loc 22 .done))))))))) (.last 13 (.last 8 (.last 9 (.last 17 (.last 18 (.loc 19 (.loc 20 (.last 21 (.loc 22 .done))))))))))) (.alt 8 (.alt 5 (.loc 6 (.alt 9 (.last 13 (.last 17 (.last 18 (.loc 19 (.loc 20 (.last 21 (.loc 22 .done))))))) (.last 13 (.last 9 (.last 17 (.last 18 (.loc 19 (.loc 20 (.last 21 (.loc 22 .done)))))))))) (.alt 9 (.alt 5 (.loc 6 (.last 13 (.last 17 (.last 18 (.loc 19 (.loc 20 (.last 21 (.loc 22 .done)))))))) (.last 13 (.alt 5 (.loc 6 (.last 17 (.last 18 (.loc 19 (.loc 20 (.last 21 (.loc 22 .done))))))) (.last 17 (.last 5 (.loc 6 (.last 18 (.loc 19 (.loc 20 (.last 21 (.loc 22 .done))))))))))) (.last 13 (.alt 5 (.loc 6 (.last 9 (.last 17 (.last 18 (.loc 19 (.loc 20 (.last 21 (.loc 22 .done)))))))) (.last 9 (.alt 5 (.loc 6 (.last 17 (.last 18 (.loc 19 (.loc 20 (.last 21 (.loc 22 .done))))))) (.last 17 (.last 5 (.loc 6 (.last 18 (.loc 19 (.loc 20 (.last 21 (.loc 22 .done)))))))))))))) (.last 13 (.alt 5 (.loc 6 (.last 8 (.last 9 (.last 17 (.last 18 (.loc 19 (.loc 20 (.last 21 (.loc 22 .done))))))))) (.last 8 (.alt 5 (.loc 6 (.last 9 (.last 17 (.last 18 (.loc 19 (.loc 20 (.last 21 (.loc 22 .done)))))))) (.last 9 (.alt 5 (.loc 6 (.last 17 (.last 18 (.loc 19 (.loc 20 (.last 21 (.loc 22 .done))))))) (.last 17 (.last 5 (.loc 6 (.last 18 (.loc 19 (.loc 20 (.last 21 (.loc 22 .done)))))))))))))))))))) (.loc 5 (.loc 6 (.alt 8 (.alt 9 (.alt 13 (.last 16 (.last 17 (.last 18 (.loc 19 (.loc 20 (.last 21 (.loc 22 .done))))))) (.last 16 (.last 13 (.last 17 (.last 18 (.loc 19 (.loc 20 (.last 21 (.loc 22 .done))))))))) (.alt 13 (.alt 9 (.last 16 (.last 17 (.last 18 (.loc 19 (.loc 20 (.last 21 (.loc 22 .done))))))) (.last 16 (.last 9 (.last 17 (.last 18 (.loc 19 (.loc 20 (.last 21 (.loc 22 .done))))))))) (.last 16 (.alt 9 (.last 13 (.last 17 (.last 18 (.loc 19 (.loc 20 (.last 21 (.loc 22 .done))))))) (.last 13 (.last 9 (.last 17 (.last 18 (.loc 19 (.loc 20 (.last 21 (.loc 22 .done)))))))))))) (.alt 13 (.alt 8 (.alt 9 (.last 16 (.last 17 (.last 18 (.loc 19 (.loc 20 (.last 21 (.loc 22 .done))))))) (.last 16 (.last 9 (.last 17 (.last 18 (.loc 19 (.loc 20 (.last 21 (.loc 22 .done))))))))) (.last 16 (.last 8 (.last 9 (.last 17 (.last 18 (.loc 19 (.loc 20 (.last 21 (.loc 22 .done)))))))))) (.last 16 (.alt 8 (.alt 9 (.last 13 (.last 17 (.last 18 (.loc 19 (.loc 20 (.last 21 (.loc 22 .done))))))) (.last 13 (.last 9 (.last 17 (.last 18 (.loc 19 (.loc 20 (.last 21 (.loc 22 .done))))))))) (.last 13 (.last 8 (.last 9 (.last 17 (.last 18 (.loc 19 (.loc 20 (.last 21 (.loc 22 .done))))))))))))))))) (.alt 8 (.alt 2 (.loc 3 (.locA 4 (.alt 5 (.loc 6 (.alt 9 (.alt 13 (.last 16 (.last 17 (.last 18 (.loc 19 (.loc 20 (.last 21 (.loc 22 .done))))))) (.last 16 (.last 13 (.last 17 (.last 18 (.loc 19 (.loc 20 (.last 21 (.loc 22 .done))))))))) (.alt 13 (.alt 9 (.last 16 (.last 17 (.last 18 (.loc 19 (.loc 20 (.last 21 (.loc 22 .done))))))) (.last 16 (.last 9 (.last 17 (.last 18 (.loc 19 (.loc 20 (.last 21 (.loc 22 .done))))))))) (.last 16 (.alt 9 (.last 13 (.last 17 (.last 18 (.loc 19 (.loc 20 (.last 21 (.loc 22 .done))))))) (.last 13 (.last 9 (.last 17 (.last 18 (.loc 19 (.loc 20 (.last 21 (.loc 22 .done))))))))))))) (.alt 9 (.alt 5 (.loc 6 (.alt 13 (.last 16 (.last 17 (.last 18 (.loc 19 (.loc 20 (.last 21 (.loc 22 .done))))))) (.last 16 (.last 13 (.last 17 (.last 18 (.loc 19 (.loc 20 (.last 21 (.loc 22 .done)))))))))) (.alt 13 (.alt 5 (.loc 6 (.last 16 (.last 17 (.last 18 (.loc 19 (.loc 20 (.last 21 (.loc 22 .done)))))))) (.last 16 (.alt 5 (.loc 6 (.last 17 (.last 18 (.loc 19 (.loc 20 (.last 21 (.loc 22 .done))))))) (.last 17 (.last 5 (.loc 6 (.last 18 (.loc 19 (.loc 20 (.last 21 (.loc 22 .done))))))))))) (.last 16 (.alt 5 (.loc 6 (.last 13 (.last 17 (.last 18 (.loc 19 (.loc 20 (.last 21 (.loc 22 .done)))))))) (.last 13 (.alt 5 (.loc 6 (.last 17 (.last 18 (.loc 19 (.loc 20 (.last 21 (.loc 22 .done))))))) (.last 17 (.last 5 (.loc 6 (.last 18 (.loc 19 (.loc 20 (.last 21 (.loc 22 .done)))))))))))))) (.alt 13 (.alt 5 (.loc 6 (.alt 9 (.last 16 (.last 17 (.last 18 (.loc 19 (.loc 20 (.last 21 (.loc 22 .done))))))) (.last 16 (.last 9 (.last 17 (.last 18 (.loc 19 (.loc 20 (.last 21 (.loc 22 .done)))))))))) (.alt 9 (.alt 5 (.loc 6 (.last 16 (.last 17 (.last 18 (.loc 19 (.loc 20 (.last 21 (.loc 22 .done)))))))) (.last 16 (.alt 5 (.loc 6 (.last 17 (.last 18 (.loc 19 (.loc 20 (.last 21 (.loc 22 .done))))))) (.last 17 (.last 5 (.loc 6 (.last 18 (.loc 19 (.loc 20 (.last 21 (.loc 22 .done))))))))))) (.last 16 (.alt 5 (.loc 6 (.last 9 (.last 17 (.last 18 (.loc 19 (.loc 20 (.last 21 (.loc 22 .done)))))))) (.last 9 (.alt 5 (.loc 6 (.last 17 (.last 18 (.loc 19 (.loc 20 (.last 21 (.loc 22 .done))))))) (.last 17 (.last 5 (.loc 6 (.last 18 (.loc 19 (.loc 20 (.last 21 (.loc 22 .done)))))))))))))) (.last 16 (.alt 5 (.loc 6 (.alt 9 (.last 13 (.last 17 (.last 18 (.loc 19 (.loc 20 (.last 21 (.loc 22 .done))))))) (.last 13 (.last 9 (.last 17 (.last 18 (.loc 19 (.loc 20 (.last 21 (.loc 22 .done)))))))))) (.alt 9 (.alt 5 (.loc 6 (.last 13 (.last 17 (.last 18 (.loc 19 (.loc 20 (.last 21 (.loc 22 .done)))))))) (.last 13 (.alt 5 (.loc 6 (.last 17 (.last 18 (.loc 19 (.loc 20 (.last 21 (.loc 22 .done))))))) (.last 17 (.last 5 (.loc 6 (.last 18 (.loc 19 (.loc 20 (.last 21 (.loc 22 .done))))))))))) (.last 13 (.alt 5 (.loc 6 (.last 9 (.last 17 (.last 18 (.loc 19 (.loc 20 (.last 21 (.loc 22 .done)))))))) (.last 9 (.alt 5 (.loc 6 (.last 17 (.last 18 (.loc 19 (.loc 20 (.last 21 (.loc 22 .done))))))) (.last 17 (.last 5 (.loc 6 (.last 18 (.loc 19 (.loc 20 (.last 21 (.loc 22 .done)))))))))))))))))) (.loc 5 (.loc 6 (.alt 9 (.alt 13 (.last 16 (.last 17 (.last 18 (.loc 19 (.loc 20 (.last 21 (.loc 22 .done))))))) (.last 16 (.last 13 (.last 17 (.last 18 (.loc 19 (.loc 20 (.last 21 (.loc 22 .done))))))))) (.alt 13 (.alt 9 (.last 16 (.last 17 (.last 18 (.loc 19 (.loc 20 (.last 21 (.loc 22 .done))))))) (.last 16 (.last 9 (.last 17 (.last 18 (.loc 19 (.loc 20 (.last 21 (.loc 22 .done))))))))) (.last 16 (.alt 9 (.last 13 (.last 17 (.last 18 (.loc 19 (.loc 20 (.last 21 (.loc 22 .done))))))) (.last 13 (.last 9 (.last 17 (.last 18 (.loc 19 (.loc 20 (.last 21 (.loc 22 .done)))))))))))))))) (.alt 9 (.alt 2 (.loc 3 (.locA 4 (.alt 5 (.loc 6 (.alt 13 (.last 16 (.last 17 (.last 18 (.loc 19 (.loc 20 (.last 21 (.loc 22 .done))))))) (.last 16 (.last 13 (.last 17 (.last 18 (.loc 19 (.loc 20 (.last 21 (.loc 22 .done)))))))))) (.alt 13 (.alt 5 (.loc 6 (.last 16 (.last 17 (.last 18 (.loc 19 (.loc 20 (.last 21 (.loc 22 .done)))))))) (.last 16 (.alt 5 (.loc 6 (.last 17 (.last 18 (.loc 19 (.loc 20 (.last 21 (.loc 22 .done))))))) (.last 17 (.last 5 (.loc 6 (.last 18 (.loc 19 (.loc 20 (.last 21 (.loc 22 .done))))))))))) (.last 16 (.alt 5 (.loc 6 (.last 13 (.last 17 (.last 18 (.loc 19 (.loc 20 (.last 21 (.loc 22 .done)))))))) (.last 13 (.alt 5 (.loc 6 (.last 17 (.last 18 (.loc 19 (.loc 20 (.last 21 (.loc 22 .done))))))) (.last 17 (.last 5 (.loc 6 (.last 18 (.loc 19 (.loc 20 (.last 21 (.loc 22 .done)))))))))))))) (.loc 5 (.loc 6 (.alt 13 (.last 16 (.last 17 (.last 18 (.loc 19 (.loc 20 (.last 21 (.loc 22 .done))))))) (.last 16 (.last 13 (.last 17 (.last 18 (.loc 19 (.loc 20 (.last 21 (.loc 22 .done))))))))))))) (.alt 13 (.alt 2 (.loc 3 (.locA 4 (.alt 5 (.loc 6 (.last 16 (.last 17 (.last 18 (.loc 19 (.loc 20 (.last 21 (.loc 22 .done)))))))) (.last 16 (.alt 5 (.loc 6 (.last 17 (.last 18 (.loc 19 (.loc 20 (.last 21 (.loc 22 .done))))))) (.last 17 (.last 5 (.loc 6 (.last 18 (.loc 19 (.loc 20 (.last 21 (.loc 22 .done))))))))))) (.loc 5 (.loc 6 (.last 16 (.last 17 (.last 18 (.loc 19 (.loc 20 (.last 21 (.loc 22 .done))))))))))) (.last 16 (.alt 2 (.loc 3 (.locA 4 (.alt 5 (.loc 6 (.last 17 (.last 18 (.loc 19 (.loc 20 (.last 21 (.loc 22 .done))))))) (.last 17 (.last 5 (.loc 6 (.last 18 (.loc 19 (.loc 20 (.last 21 (.loc 22 .done))))))))) (.loc 5 (.loc 6 (.last 17 (.last 18 (.loc 19 (.loc 20 (.last 21 (.loc 22 .done)))))))))) (.last 17 (.last 2 (.loc 3 (.locA 4 (.last 5 (.loc 6 (.last 18 (.loc 19 (.loc 20 (.last 21 (.loc 22 .done))))))) (.loc 5 (.loc 6 (.last 18 (.loc 19 (.loc 20 (.last 21 (.loc 22 .done)))))))))))))) (.last 16 (.alt 2 (.loc 3 (.locA 4 (.alt 5 (.loc 6 (.last 13 (.last 17 (.last 18 (.loc 19 (.loc 20 (.last 21 (.loc 22 .done)))))))) (.last 13 (.alt 5 (.loc 6 (.last 17 (.last 18 (.loc 19 (.loc 20 (.last 21 (.loc 22 .done))))))) (.last 17 (.last 5 (.loc 6 (.last 18 (.loc 19 (.loc 20 (.last 21 (.loc 22 .done))))))))))) (.loc 5 (.loc 6 (.last 13 (.last 17 (.last 18 (.loc 19 (.loc 20 (.last 21 (.loc 22 .done))))))))))) (.last 13 (.alt 2 (.loc 3 (.locA 4 (.alt 5 (.loc 6 (.last 17 (.last 18 (.loc 19 (.loc 20 (.last 21 (.loc 22 .done))))))) (.last 17 (.last 5 (.loc 6 (.last 18 (.loc 19 (.loc 20 (.last 21 (.loc 22 .done))))))))) (.loc 5 (.loc 6 (.last 17 (.last 18 (.loc 19 (.loc 20 (.last 21 (.loc 22 .done)))))))))) (.last 17 (.last 2 (.loc 3 (.locA 4 (.last 5 (.loc 6 (.last 18 (.loc 19 (.loc 20 (.last 21 (.loc 22 .done))))))) (.loc 5 (.loc 6 (.last 18 (.loc 19 (.loc 20 (.last 21 (.loc 22 .done))))))))))))))))) (.alt 13 (.alt 2 (.loc 3 (.locA 4 (.alt 5 (.loc 6 (.alt 9 (.last 16 (.last 17 (.last 18 (.loc 19 (.loc 20 (.last 21 (.loc 22 .done))))))) (.last 16 (.last 9 (.last 17 (.last 18 (.loc 19 (.loc 20 (.last 21 (.loc 22 .done)))))))))) (.alt 9 (.alt 5 (.loc 6 (.last 16 (.last 17 (.last 18 (.loc 19 (.loc 20 (.last 21 (.loc 22 .done)))))))) (.last 16 (.alt 5 (.loc 6 (.last 17 (.last 18 (.loc 19 (.loc 20 (.last 21 (.loc 22 .done))))))) (.last 17 (.last 5 (.loc 6 (.last 18 (.loc 19 (.loc 20 (.last 21 (.loc 22 .done))))))))))) (.last 16 (.alt 5 (.loc 6 (.last 9 (.last 17 (.last 18 (.loc 19 (.loc 20 (.last 21 (.loc 22 .done)))))))) (.last 9 (.alt 5 (.loc 6 (.last 17 (.last 18 (.loc 19 (.loc 20 (.last 21 (.loc 22 .done))))))) (.last 17 (.last 5 (.loc 6 (.last 18 (.loc 19 (.loc 20 (.last 21 (.loc 22 .done)))))))))))))) (.loc 5 (.loc 6 (.alt 9 (.last 16 (.last 17 (.last 18 (.loc 19 (.loc 20 (.last 21 (.loc 22 .done))))))) (.last 16 (.last 9 (.last 17 (.last 18 (.loc 19 (.loc 20 (.last 21 (.loc 22 .done))))))))))))) (.alt 9 (.alt 2 (.loc 3 (.locA 4 (.alt 5 (.loc 6 (.last 16 (.last 17 (.last 18 (.loc 19 (.loc 20 (.last 21 (.loc 22 .done)))))))) (.last 16 (.alt 5 (.loc 6 (.last 17 (.last 18 (.loc 19 (.loc 20 (.last 21 (.loc 22 .done))))))) (.last 17 (.last 5 (.loc 6 (.last 18 (.loc 19 (.loc 20 (.last 21 (.loc 22 .done))))))))))) (.loc 5 (.loc 6 (.last 16 (.last 17 (.last 18 (.loc 19 (.loc 20 (.last 21 (.loc 22 .done))))))))))) (.last 16 (.alt 2 (.loc 3 (.locA 4 (.alt 5 (.loc 6 (.last 17 (.last 18 (.loc 19 (.loc 20 (.last 21 (.loc 22 .done))))))) (.last 17 (.last 5 (.loc 6 (.last 18 (.loc 19 (.loc 20 (.last 21 (.loc 22 .done))))))))) (.loc 5 (.loc 6 (.last 17 (.last 18 (.loc 19 (.loc 20 (.last 21 (.loc 22 .done)))))))))) (.last 17 (.last 2 (.loc 3 (.locA 4 (.last 5 (.loc 6 (.last 18 (.loc 19 (.loc 20 (.last 21 (.loc 22 .done))))))) (.loc 5 (.loc 6 (.last 18 (.loc 19 (.loc 20 (.last 21 (.loc 22 .done)))))))))))))) (.last 16 (.alt 2 (.loc 3 (.locA 4 (.alt 5 (.loc 6 (.last 9 (.last 17 (.last 18 (.loc 19 (.loc 20 (.last 21 (.loc 22 .done)))))))) (.last 9 (.alt 5 (.loc 6 (.last 17 (.last 18 (.loc 19 (.loc 20 (.last 21 (.loc 22 .done))))))) (.last 17 (.last 5 (.loc 6 (.last 18 (.loc 19 (.loc 20 (.last 21 (.loc 22 .done))))))))))) (.loc 5 (.loc 6 (.last 9 (.last 17 (.last 18 (.loc 19 (.loc 20 (.last 21 (.loc 22 .done))))))))))) (.last 9 (.alt 2 (.loc 3 (.locA 4 (.alt 5 (.loc 6 (.last 17 (.last 18 (.loc 19 (.loc 20 (.last 21 (.loc 22 .done))))))) (.last 17 (.last 5 (.loc 6 (.last 18 (.loc 19 (.loc 20 (.last 21 (.loc 22 .done))))))))) (.loc 5 (.loc 6 (.last 17 (.last 18 (.loc 19 (.loc 20 (.last 21 (.loc 22 .done)))))))))) (.last 17 (.last 2 (.loc 3 (.locA 4 (.last 5 (.loc 6 (.last 18 (.loc 19 (.loc 20 (.last 21 (.loc 22 .done))))))) (.loc 5 (.loc 6 (.last 18 (.loc 19 (.loc 20 (.last 21 (.loc 22 .done))))))))))))))))) (.last 16 (.alt 2 (.loc 3 (.locA 4 (.alt 5 (.loc 6 (.alt 9 (.last 13 (.last 17 (.last 18 (.loc 19 (.loc 20 (.last 21 (.loc 22 .done))))))) (.last 13 (.last 9 (.last 17 (.last 18 (.loc 19 (.loc 20 (.last 21 (.loc 22 .done)))))))))) (.alt 9 (.alt 5 (.loc 6 (.last 13 (.last 17 (.last 18 (.loc 19 (.loc 20 (.last 21 (.loc 22 .done)))))))) (.last 13 (.alt 5 (.loc 6 (.last 17 (.last 18 (.loc 19 (.loc 20 (.last 21 (.loc 22 .done))))))) (.last 17 (.last 5 (.loc 6 (.last 18 (.loc 19 (.loc 20 (.last 21 (.loc 22 .done))))))))))) (.last 13 (.alt 5 (.loc 6 (.last 9 (.last 17 (.last 18 (.loc 19 (.loc 20 (.last 21 (.loc 22 .done)))))))) (.last 9 (.alt 5 (.loc 6 (.last 17 (.last 18 (.loc 19 (.loc 20 (.last 21 (.loc 22 .done))))))) (.last 17 (.last 5 (.loc 6 (.last 18 (.loc 19 (.loc 20 (.last 21 (.loc 22 .done)))))))))))))) (.loc 5 (.loc 6 (.alt 9 (.last 13 (.last 17 (.last 18 (.loc 19 (.loc 20 (.last 21 (.loc 22 .done))))))) (.last 13 (.last 9 (.last 17 (.last 18 (.loc 19 (.loc 20 (.last 21 (.loc 22 .done))))))))))))) (.alt 9 (.alt 2 (.loc 3 (.locA 4 (.alt 5 (.loc 6 (.last 13 (.last 17 (.last 18 (.loc 19 (.loc 20 (.last 21 (.loc 22 .done)))))))) (.last 13 (.alt 5 (.loc 6 (.last 17 (.last 18 (.loc 19 (.loc 20 (.last 21 (.loc 22 .done))))))) (.last 17 (.last 5 (.loc 6 (.last 18 (.loc 19 (.loc 20 (.last 21 (.loc 22 .done))))))))))) (.loc 5 (.loc 6 (.last 13 (.last 17 (.last 18 (.loc 19 (.loc 20 (.last 21 (.loc 22 .done))))))))))) (.last 13 (.alt 2 (.loc 3 (.locA 4 (.alt 5 (.loc 6 (.last 17 (.last 18 (.loc 19 (.loc 20 (.last 21 (.loc 22 .done))))))) (.last 17 (.last 5 (.loc 6 (.last 18 (.loc 19 (.loc 20 (.last 21 (.loc 22 .done))))))))) (.loc 5 (.loc 6 (.last 17 (.last 18 (.loc 19 (.loc 20 (.last 21 (.loc 22 .done)))))))))) (.last 17 (.last 2 (.loc 3 (.locA 4 (.last 5 (.loc 6 (.last 18 (.loc 19 (.loc 20 (.last 21 (.loc 22 .done))))))) (.loc 5 (.loc 6 (.last 18 (.loc 19 (.loc 20 (.last 21 (.loc 22 .done)))))))))))))) (.last 13 (.alt 2 (.loc 3 (.locA 4 (.alt 5 (.loc 6 (.last 9 (.last 17 (.last 18 (.loc 19 (.loc 20 (.last 21 (.loc 22 .done)))))))) (.last 9 (.alt 5 (.loc 6 (.last 17 (.last 18 (.loc 19 (.loc 20 (.last 21 (.loc 22 .done))))))) (.last 17 (.last 5 (.loc 6 (.last 18 (.loc 19 (.loc 20 (.last 21 (.loc 22 .done))))))))))) (.loc 5 (.loc 6 (.last 9 (.last 17 (.last 18 (.loc 19 (.loc 20 (.last 21 (.loc 22 .done))))))))))) (.last 9 (.alt 2 (.loc 3 (.locA 4 (.alt 5 (.loc 6 (.last 17 (.last 18 (.loc 19 (.loc 20 (.last 21 (.loc 22 .done))))))) (.last 17 (.last 5 (.loc 6 (.last 18 (.loc 19 (.loc 20 (.last 21 (.loc 22 .done))))))))) (.loc 5 (.loc 6 (.last 17 (.last 18 (.loc 19 (.loc 20 (.last 21 (.loc 22 .done)))))))))) (.last 17 (.last 2 (.loc 3 (.locA 4 (.last 5 (.loc 6 (.last 18 (.loc 19 (.loc 20 (.last 21 (.loc 22 .done))))))) (.loc 5 (.loc 6 (.last 18 (.loc 19 (.loc 20 (.last 21 (.loc 22 .done))))))))))))))))))))) (.alt 13 (.alt 2 (.loc 3 (.locA 4 (.alt 5 (.loc 6 (.alt 8 (.alt 9 (.last 16 (.last 17 (.last 18 (.loc 19 (.loc 20 (.last 21 (.loc 22 .done))))))) (.last 16 (.last 9 (.last 17 (.last 18 (.loc 19 (.loc 20 (.last 21 (.loc 22 .done))))))))) (.last 16 (.last 8 (.last 9 (.last 17 (.last 18 (.loc 19 (.loc 20 (.last 21 (.loc 22 .done))))))))))) (.alt 8 (.alt 5 (.loc 6 (.alt 9 (.last 16 (.last 17 (.last 18 (.loc 19 (.loc 20 (.last 21 (.loc 22 .done))))))) (.last 16 (.last 9 (.last 17 (.last 18 (.loc 19 (.loc 20 (.last 21 (.loc 22 .done)))))))))) (.alt 9 (.alt 5 (.loc 6 (.last 16 (.last 17 (.last 18 (.loc 19 (.loc 20 (.last 21 (.loc 22 .done)))))))) (.last 16 (.alt 5 (.loc 6 (.last 17 (.last 18 (.loc 19 (.loc 20 (.last 21 (.loc 22 .done))))))) (.last 17 (.last 5 (.loc 6 (.last 18 (.loc 19 (.loc 20 (.last 21 (.loc 22 .done))))))))))) (.last 16 (.alt 5 (.loc 6 (.last 9 (.last 17 (.last 18 (.loc 19 (.loc 20 (.last 21 (.loc 22 .done)))))))) (.last 9 (.alt 5 (.loc 6 (.last 17 (.last 18 (.loc 19 (.loc 20 (.last 21 (.loc 22 .done))))))) (.last 17 (.last 5 (.loc 6 (.last 18 (.loc 19 (.loc 20 (.last 21 (.loc 22 .done)))))))))))))) (.last 16 (.alt 5 (.loc 6 (.last 8 (.last 9 (.last 17 (.last 18 (.loc 19 (.loc 20 (.last 21 (.loc 22 .done))))))))) (.last 8 (.alt 5 (.loc 6 (.last 9 (.last 17 (.last 18 (.loc 19 (.loc 20 (.last 21 (.loc 22 .done)))))))) (.last 9 (.alt 5 (.loc 6 (.last 17 (.last 18 (.loc 19 (.loc 20 (.last 21 (.loc 22 .done))))))) (.last 17 (.last 5 (.loc 6 (.last 18 (.loc 19 (.loc 20 (.last 21 (.loc 22 .done)))))))))))))))) (.loc 5 (.loc 6 (.alt 8 (.alt 9 (.last 16 (.last 17 (.last 18 (.loc 19 (.loc 20 (.last 21 (.loc 22 .done))))))) (.last 16 (.last 9 (.last 17 (.last 18 (.loc 19 (.loc 20 (.last 21 (.loc 22 .done))))))))) (.last 16 (.last 8 (.last 9 (.last 17 (.last 18 (.loc 19 (.loc 20 (.last 21 (.loc 22 .done)))))))))))))) (.alt 8 (.alt 2 (.loc 3 (.locA 4 (.alt 5 (.loc 6 (.alt 9 (.last 16 (.last 17 (.last 18 (.loc 19 (.loc 20 (.last 21 (.loc 22 .done))))))) (.last 16 (.last 9 (.last 17 (.last 18 (.loc 19 (.loc 20 (.last 21 (.loc 22 .done)))))))))) (.alt 9 (.alt 5 (.loc 6 (.last 16 (.last 17 (.last 18 (.loc 19 (.loc 20 (.last 21 (.loc 22 .done)))))))) (.last 16 (.alt 5 (.loc 6 (.last 17 (.last 18 (.loc 19 (.loc 20 (.last 21 (.loc 22 .done))))))) (.last 17 (.last 5 (.loc 6 (.last 18 (.loc 19 (.loc 20 (.last 21 (.loc 22 .done))))))))))) (.last 16 (.alt 5 (.loc 6 (.last 9 (.last 17 (.last 18 (.loc 19 (.loc 20 (.last 21 (.loc 22 .done)))))))) (.last 9 (.alt 5 (.loc 6 (.last 17 (.last 18 (.loc 19 (.loc 20 (.last 21 (.loc 22 .done))))))) (.last 17 (.last 5 (.loc 6 (.last 18 (.loc 19 (.loc 20 (.last 21 (.loc 22 .done)))))))))))))) (.loc 5 (.loc 6 (.alt 9 (.last 16 (.last 17 (.last 18 (.loc 19 (.loc 20 (.last 21 (.loc 22 .done))))))) (.last 16 (.last 9 (.last 17 (.last 18 (.loc 19 (.loc 20 (.last 21 (.loc 22 .done))))))))))))) (.alt 9 (.alt 2 (.loc 3 (.locA 4 (.alt 5 (.loc 6 (.last 16 (.last 17 (.last 18 (.loc 19 (.loc 20 (.last 21 (.loc 22 .done)))))))) (.last 16 (.alt 5 (.loc 6 (.last 17 (.last 18 (.loc 19 (.loc 20 (.last 21 (.loc 22 .done))))))) (.last 17 (.last 5 (.loc 6 (.last 18 (.loc 19 (.loc 20 (.last 21 (.loc 22 .done))))))))))) (.loc 5 (.loc 6 (.last 16 (.last 17 (.last 18 (.loc 19 (.loc 20 (.last 21 (.loc 22 .done))))))))))) (.last 16 (.alt 2 (.loc 3 (.locA 4 (.alt 5 (.loc 6 (.last 17 (.last 18 (.loc 19 (.loc 20 (.last 21 (.loc 22 .done))))))) (.last 17 (.last 5 (.loc 6 (.last 18 (.loc 19 (.loc 20 (.last 21 (.loc 22 .done))))))))) (.loc 5 (.loc 6 (.last 17 (.last 18 (.loc 19 (.loc 20 (.last 21 (.loc 22 .done)))))))))) (.last 17 (.last 2 (.loc 3 (.locA 4 (.last 5 (.loc 6 (.last 18 (.loc 19 (.loc 20 (.last 21 (.loc 22 .done))))))) (.loc 5 (.loc 6 (.last 18 (.loc 19 (.loc 20 (.last 21 (.loc 22 .done)))))))))))))) (.last 16 (.alt 2 (.loc 3 (.locA 4 (.alt 5 (.loc 6 (.last 9 (.last 17 (.last 18 (.loc 19 (.loc 20 (.last 21 (.loc 22 .done)))))))) (.last 9 (.alt 5 (.loc 6 (.last 17 (.last 18 (.loc 19 (.loc 20 (.last 21 (.loc 22 .done))))))) (.last 17 (.last 5 (.loc 6 (.last 18 (.loc 19 (.loc 20 (.last 21 (.loc 22 .done))))))))))) (.loc 5 (.loc 6 (.last 9 (.last 17 (.last 18 (.loc 19 (.loc 20 (.last 21 (.loc 22 .done))))))))))) (.last 9 (.alt 2 (.loc 3 (.locA 4 (.alt 5 (.loc 6 (.last 17 (.last 18 (.loc 19 (.loc 20 (.last 21 (.loc 22 .done))))))) (.last 17 (.last 5 (.loc 6 (.last 18 (.loc 19 (.loc 20 (.last 21 (.loc 22 .done))))))))) (.loc 5 (.loc 6 (.last 17 (.last 18 (.loc 19 (.loc 20 (.last 21 (.loc 22 .done)))))))))) (.last 17 (.last 2 (.loc 3 (.locA 4 (.last 5 (.loc 6 (.last 18 (.loc 19 (.loc 20 (.last 21 (.loc 22 .done))))))) (.loc 5 (.loc 6 (.last 18 (.loc 19 (.loc 20 (.last 21 (.loc 22 .done))))))))))))))))) (.last 16 (.alt 2 (.loc 3 (.locA 4 (.alt 5 (.loc 6 (.last 8 (.last 9 (.last 17 (.last 18 (.loc 19 (.loc 20 (.last 21 (.loc 22 .done))))))))) (.last 8 (.alt 5 (.loc 6 (.last 9 (.last 17 (.last 18 (.loc 19 (.loc 20 (.last 21 (.loc 22 .done)))))))) (.last 9 (.alt 5 (.loc 6 (.last 17 (.last 18 (.loc 19 (.loc 20 (.last 21 (.loc 22 .done))))))) (.last 17 (.last 5 (.loc 6 (.last 18 (.loc 19 (.loc 20 (.last 21 (.loc 22 .done))))))))))))) (.loc 5 (.loc 6 (.last 8 (.last 9 (.last 17 (.last 18 (.loc 19 (.loc 20 (.last 21 (.loc 22 .done)))))))))))) (.last 8 (.alt 2 (.loc 3 (.locA 4 (.alt 5 (.loc 6 (.last 9 (.last 17 (.last 18 (.loc 19 (.loc 20 (.last 21 (.loc 22 .done)))))))) (.last 9 (.alt 5 (.loc 6 (.last 17 (.last 18 (.loc 19 (.loc 20 (.last 21 (.loc 22 .done))))))) (.last 17 (.last 5 (.loc 6 (.last 18 (.loc 19 (.loc 20 (.last 21 (.loc 22 .done))))))))))) (.loc 5 (.loc 6 (.last 9 (.last 17 (.last 18 (.loc 19 (.loc 20 (.last 21 (.loc 22 .done))))))))))) (.last 9 (.alt 2 (.loc 3 (.locA 4 (.alt 5 (.loc 6 (.last 17 (.last 18 (.loc 19 (.loc 20 (.last 21 (.loc 22 .done))))))) (.last 17 (.last 5 (.loc 6 (.last 18 (.loc 19 (.loc 20 (.last 21 (.loc 22 .done))))))))) (.loc 5 (.loc 6 (.last 17 (.last 18 (.loc 19 (.loc 20 (.last 21 (.loc 22 .done)))))))))) (.last 17 (.last 2 (.loc 3 (.locA 4 (.last 5 (.loc 6 (.last 18 (.loc 19 (.loc 20 (.last 21 (.loc 22 .done))))))) (.loc 5 (.loc 6 (.last 18 (.loc 19 (.loc 20 (.last 21 (.loc 22 .done))))))))))))))))))) (.last 16 (.alt 2 (.loc 3 (.locA 4 (.alt 5 (.loc 6 (.alt 8 (.alt 9 (.last 13 (.last 17 (.last 18 (.loc 19 (.loc 20 (.last 21 (.loc 22 .done))))))) (.last 13 (.last 9 (.last 17 (.last 18 (.loc 19 (.loc 20 (.last 21 (.loc 22 .done))))))))) (.last 13 (.last 8 (.last 9 (.last 17 (.last 18 (.loc 19 (.loc 20 (.last 21 (.loc 22 .done))))))))))) (.alt 8 (.alt 5 (.loc 6 (.alt 9 (.last 13 (.last 17 (.last 18 (.loc 19 (.loc 20 (.last 21 (.loc 22 .done))))))) (.last 13 (.last 9 (.last 17 (.last 18 (.loc 19 (.loc 20 (.last 21 (.loc 22 .done)))))))))) (.alt 9 (.alt 5 (.loc 6 (.last 13 (.last 17 (.last 18 (.loc 19 (.loc 20 (.last 21 (.loc 22 .done)))))))) (.last 13 (.alt 5 (.loc 6 (.last 17 (.last 18 (.loc 19 (.loc 20 (.last 21 (.loc 22 .done))))))) (.last 17 (.last 5 (.loc 6 (.last 18 (.loc 19 (.loc 20 (.last 21 (.loc 22 .done))))))))))) (.last 13 (.alt 5 (.loc 6 (.last 9 (.last 17 (.last 18 (.loc 19 (.loc 20 (.last 21 (.loc 22 .done)))))))) (.last 9 (.alt 5 (.loc 6 (.last 17 (.last 18 (.loc 19 (.loc 20 (.last 21 (.loc 22 .done))))))) (.last 17 (.last 5 (.loc 6 (.last 18 (.loc 19 (.loc 20 (.last 21 (.loc 22 .done)))))))))))))) (.last 13 (.alt 5 (.loc 6 (.last 8 (.last 9 (.last 17 (.last 18 (.loc 19 (.loc 20 (.last 21 (.loc 22 .done))))))))) (.last 8 (.alt 5 (.loc 6 (.last 9 (.last 17 (.last 18 (.loc 19 (.loc 20 (.last 21 (.loc 22 .done)))))))) (.last 9 (.alt 5 (.loc 6 (.last 17 (.last 18 (.loc 19 (.loc 20 (.last 21 (.loc 22 .done))))))) (.last 17 (.last 5 (.loc 6 (.last 18 (.loc 19 (.loc 20 (.last 21 (.loc 22 .done)))))))))))))))) (.loc 5 (.loc 6 (.alt 8 (.alt 9 (.last 13 (.last 17 (.last 18 (.loc 19 (.loc 20 (.last 21 (.loc 22 .done))))))) (.last 13 (.last 9 (.last 17 (.last 18 (.loc 19 (.loc 20 (.last 21 (.loc 22 .done))))))))) (.last 13 (.last 8 (.last 9 (.last 17 (.last 18 (.loc 19 (.loc 20 (.last 21 (.loc 22 .done)))))))))))))) (.alt 8 (.alt 2 (.loc 3 (.locA 4 (.alt 5 (.loc 6 (.alt 9 (.last 13 (.last 17 (.last 18 (.loc 19 (.loc 20 (.last 21 (.loc 22 .done))))))) (.last 13 (.last 9 (.last 17 (.last 18 (.loc 19 (.loc 20 (.last 21 (.loc 22 .done)))))))))) (.alt 9 (.alt 5 (.loc 6 (.last 13 (.last 17 (.last 18 (.loc 19 (.loc 20 (.last 21 (.loc 22 .done)))))))) (.last 13 (.alt 5 (.loc 6 (.last 17 (.last 18 (.loc 19 (.loc 20 (.last 21 (.loc 22 .done))))))) (.last 17 (.last 5 (.loc 6 (.last 18 (.loc 19 (.loc 20 (.last 21 (.loc 22 .done))))))))))) (.last 13 (.alt 5 (.loc 6 (.last 9 (.last 17 (.last 18 (.loc 19 (.loc 20 (.last 21 (.loc 22 .done)))))))) (.last 9 (.alt 5 (.loc 6 (.last 17 (.last 18 (.loc 19 (.loc 20 (.last 21 (.loc 22 .done))))))) (.last 17 (.last 5 (.loc 6 (.last 18 (.loc 19 (.loc 20 (.last 21 (.loc 22 .done)))))))))))))) (.loc 5 (.loc 6 (.alt 9 (.last 13 (.last 17 (.last 18 (.loc 19 (.loc 20 (.last 21 (.loc 22 .done))))))) (.last 13 (.last 9 (.last 17 (.last 18 (.loc 19 (.loc 20 (.last 21 (.loc 22 .done))))))))))))) (.alt 9 (.alt 2 (.loc 3 (.locA 4 (.alt 5 (.loc 6 (.last 13 (.last 17 (.last 18 (.loc 19 (.loc 20 (.last 21 (.loc 22 .done)))))))) (.last 13 (.alt 5 (.loc 6 (.last 17 (.last 18 (.loc 19 (.loc 20 (.last 21 (.loc 22 .done))))))) (.last 17 (.last 5 (.loc 6 (.last 18 (.loc 19 (.loc 20 (.last 21 (.loc 22 .done))))))))))) (.loc 5 (.loc 6 (.last 13 (.last 17 (.last 18 (.loc 19 (.loc 20 (.last 21 (.loc 22 .done))))))))))) (.last 13 (.alt 2 (.loc 3 (.locA 4 (.alt 5 (.loc 6 (.last 17 (.last 18 (.loc 19 (.loc 20 (.last 21 (.loc 22 .done))))))) (.last 17 (.last 5 (.loc 6 (.last 18 (.loc 19 (.loc 20 (.last 21 (.loc 22 .done))))))))) (.loc 5 (.loc 6 (.last 17 (.last 18 (.loc 19 (.loc 20 (.last 21 (.loc 22 .done)))))))))) (.last 17 (.last 2 (.loc 3 (.locA 4 (.last 5 (.loc 6 (.last 18 (.loc 19 (.loc 20 (.last 21 (.loc 22 .done))))))) (.loc 5 (.loc 6 (.last 18 (.loc 19 (.loc 20 (.last 21 (.loc 22 .done)))))))))))))) (.last 13 (.alt 2 (.loc 3 (.locA 4 (.alt 5 (.loc 6 (.last 9 (.last 17 (.last 18 (.loc 19 (.loc 20 (.last 21 (.loc 22 .done)))))))) (.last 9 (.alt 5 (.loc 6 (.last 17 (.last 18 (.loc 19 (.loc 20 (.last 21 (.loc 22 .done))))))) (.last 17 (.last 5 (.loc 6 (.last 18 (.loc 19 (.loc 20 (.last 21 (.loc 22 .done))))))))))) (.loc 5 (.loc 6 (.last 9 (.last 17 (.last 18 (.loc 19 (.loc 20 (.last 21 (.loc 22 .done))))))))))) (.last 9 (.alt 2 (.loc 3 (.locA 4 (.alt 5 (.loc 6 (.last 17 (.last 18 (.loc 19 (.loc 20 (.last 21 (.loc 22 .done))))))) (.last 17 (.last 5 (.loc 6 (.last 18 (.loc 19 (.loc 20 (.last 21 (.loc 22 .done))))))))) (.loc 5 (.loc 6 (.last 17 (.last 18 (.loc 19 (.loc 20 (.last 21 (.loc 22 .done)))))))))) (.last 17 (.last 2 (.loc 3 (.locA 4 (.last 5 (.loc 6 (.last 18 (.loc 19 (.loc 20 (.last 21 (.loc 22 .done))))))) (.loc 5 (.loc 6 (.last 18 (.loc 19 (.loc 20 (.last 21 (.loc 22 .done))))))))))))))))) (.last 13 (.alt 2 (.loc 3 (.locA 4 (.alt 5 (.loc 6 (.last 8 (.last 9 (.last 17 (.last 18 (.loc 19 (.loc 20 (.last 21 (.loc 22 .done))))))))) (.last 8 (.alt 5 (.loc 6 (.last 9 (.last 17 (.last 18 (.loc 19 (.loc 20 (.last 21 (.loc 22 .done)))))))) (.last 9 (.alt 5 (.loc 6 (.last 17 (.last 18 (.loc 19 (.loc 20 (.last 21 (.loc 22 .done))))))) (.last 17 (.last 5 (.loc 6 (.last 18 (.loc 19 (.loc 20 (.last 21 (.loc 22 .done))))))))))))) (.loc 5 (.loc 6 (.last 8 (.last 9 (.last 17 (.last 18 (.loc 19 (.loc 20 (.last 21 (.loc 22 .done)))))))))))) (.last 8 (.alt 2 (.loc 3 (.locA 4 (.alt 5 (.loc 6 (.last 9 (.last 17 (.last 18 (.loc 19 (.loc 20 (.last 21 (.loc 22 .done)))))))) (.last 9 (.alt 5 (.loc 6 (.last 17 (.last 18 (.loc 19 (.loc 20 (.last 21 (.loc 22 .done))))))) (.last 17 (.last 5 (.loc 6 (.last 18 (.loc 19 (.loc 20 (.last 21 (.loc 22 .done))))))))))) (.loc 5 (.loc 6 (.last 9 (.last 17 (.last 18 (.loc 19 (.loc 20 (.last 21 (.loc 22 .done))))))))))) (.last 9 (.alt 2 (.loc 3 (.locA 4 (.alt 5 (.loc 6 (.last 17 (.last 18 (.loc 19 (.loc 20 (.last 21 (.loc 22 .done))))))) (.last 17 (.last 5 (.loc 6 (.last 18 (.loc 19 (.loc 20 (.last 21 (.loc 22 .done))))))))) (.loc 5 (.loc 6 (.last 17 (.last 18 (.loc 19 (.loc 20 (.last 21 (.loc 22 .done)))))))))) (.last 17 (.last 2 (.loc 3 (.locA 4 (.last 5 (.loc 6 (.last 18 (.loc 19 (.loc 20 (.last 21 (.loc 22 .done))))))) (.loc 5 (.loc 6 (.last 18 (.loc 19 (.loc 20 (.last 21 (.loc 22 .done)))))))))))))))))))))))))))))))) .leaf))
theorem commit_Coin.eq (m0 : Option Addr) (game1 : Array Value) (player2 : Int) (side3 : Int) (nonce4 : Array Value) (R : Value → Heap → Prop) (h : Heap) : commit_Coin.body m0 game1 player2 side3 nonce4 R h = evFn Try.prog Try.f20 commit_Coin.ann [.pointer m0, .agg game1, .int .i64 player2, .int .i64 side3, .agg nonce4] R h := by kernel_rfl
theorem commit_Coin.calls {m0 : Option Addr} {game1 : Array Value} {player2 : Int} {side3 : Int} {nonce4 : Array Value} {R : Value → Heap → Prop} {h : Heap} (H : commit_Coin.body m0 game1 player2 side3 nonce4 R h) : HC Try.prog F.commit_Coin #[.pointer m0, .agg game1, .int .i64 player2, .int .i64 side3, .agg nonce4] R h :=
  evFn_sound mixed Try.func20 (by kernel_rfl) (commit_Coin.eq m0 game1 player2 side3 nonce4 R h ▸ H)

/-! zugzwang/zugzwanglaw23.DrawBoth -/
def law23_DrawBoth.body (game0 : Array Value) (bits1 : Int) (steps2 : Sl) (R : Value → Heap → Prop) (h : Heap) : Prop :=
  newK h game0 T.api_Tag (fun (game_1 : Option Addr) h =>
  callK Try.prog .bool F.law23_awake #[] (fun (v2 : Bool) h =>
  if (!v2) = true then
  R (.bool false) h
  else
  if (decide (((steps2.n : Int)) > 120)) = true then
  R (.bool true) h
  else
  callK Try.prog .ptr F.tags_New #[.bool false, .slice none 0 0] (fun (v3 : Option Addr) h =>
  loadAggK (sizeOfT Try.prog T.api_Tag) h game_1 (fun (v4 : Array Value) =>
  callK Try.prog .agg F.tags_Maker_Draw #[.pointer v3, .int .i64 0] (fun (v5 : Array Value) h =>
  stillAggK (sizeOfT Try.prog T.api_Tag) h game_1 v4 ∧
  callK Try.prog (Kd.pair .ptr (.int .i64)) F.draw_New #[.pointer v3, .agg v4, .int .i64 0, (.int .i64 (IntKind.i64.wrap (BitVec.ofInt (IntKind.bits .i64) bits1 &&& BitVec.ofInt (IntKind.bits .i64) 1).toNat)), .agg v5] (fun (v6 : Option Addr × Int) h =>
  shiftK 1
  (loadAggK (sizeOfT Try.prog T.api_Tag) h game_1 (fun (v7 : Array Value) =>
  callK Try.prog .agg F.tags_Maker_Draw #[.pointer v3, .int .i64 1] (fun (v8 : Array Value) h =>
  stillAggK (sizeOfT Try.prog T.api_Tag) h game_1 v7 ∧
  callK Try.prog (Kd.pair .ptr (.int .i64)) F.draw_New #[.pointer v3, .agg v7, .int .i64 1, (.int .i64 (IntKind.i64.wrap (BitVec.ofInt (IntKind.bits .i64) (Int.fdiv bits1 (2 ^ min (Int.toNat 1) (IntKind.bits .i64))) &&& BitVec.ofInt (IntKind.bits .i64) 1).toNat)), .agg v8] (fun (v9 : Option Addr × Int) h =>
  if (v6.2 != 0) = true then
  R (.bool false) h
  else
  if (v9.2 != 0) = true then
  R (.bool false) h
  else
  newSlK h 2 #[.pointer v6.1, .pointer v9.1] T.p_draw_Draw (fun v10 h =>
  loopW (fun X_12 (s_11 : Int) (h : Heap) =>
  if (decide (s_11 < ((steps2.n : Int)))) = true then
  idxK steps2 s_11 (sizeOfT Try.prog T.int) (fun (a_13 : Addr) =>
  loadK (.int .i64) h ((some a_13)) (fun (v14 : Int) =>
  idxK v10 (IntKind.i64.wrap (1 - (IntKind.i64.wrap (BitVec.ofInt (IntKind.bits .i64) v14 &&& BitVec.ofInt (IntKind.bits .i64) 1).toNat))) (sizeOfT Try.prog T.p_draw_Draw) (fun (a_15 : Addr) =>
  loadK .ptr h ((some a_15)) (fun (v16 : Option Addr) =>
  callK Try.prog .slice F.draw_Draw_Say #[.pointer v16] (fun (v17 : Sl) h =>
  joinW (fun (s_18 : Bool) h =>
  if s_18 = true then
  idxK v10 (IntKind.i64.wrap (BitVec.ofInt (IntKind.bits .i64) v14 &&& BitVec.ofInt (IntKind.bits .i64) 1).toNat) (sizeOfT Try.prog T.p_draw_Draw) (fun (a_19 : Addr) =>
  loadK .ptr h ((some a_19)) (fun (v20 : Option Addr) =>
  callK Try.prog (.int .i64) F.draw_Draw_Abort #[.pointer v20] (fun (v21 : Int) h =>
  idxK v10 (IntKind.i64.wrap (1 - (IntKind.i64.wrap (BitVec.ofInt (IntKind.bits .i64) v14 &&& BitVec.ofInt (IntKind.bits .i64) 1).toNat))) (sizeOfT Try.prog T.p_draw_Draw) (fun (a_22 : Addr) =>
  idxK v10 (IntKind.i64.wrap (BitVec.ofInt (IntKind.bits .i64) v14 &&& BitVec.ofInt (IntKind.bits .i64) 1).toNat) (sizeOfT Try.prog T.p_draw_Draw) (fun (a_23 : Addr) =>
  loadK .ptr h ((some a_22)) (fun (v24 : Option Addr) =>
  loadK .ptr h ((some a_23)) (fun (v25 : Option Addr) =>
  callK Try.prog .slice F.draw_Draw_Say #[.pointer v25] (fun (v26 : Sl) h =>
  stillK .ptr h ((some a_22)) v24 ∧
  callK Try.prog (.int .i64) F.draw_Draw_Take #[.pointer v24, .slice v26.a v26.n v26.c] (fun (v27 : Int) h =>
  idxK v10 0 (sizeOfT Try.prog T.p_draw_Draw) (fun (a_28 : Addr) =>
  loadK .ptr h ((some a_28)) (fun (v29 : Option Addr) =>
  callK Try.prog (.int .i64) F.draw_Draw_Phase #[.pointer v29] (fun (v30 : Int) h =>
  if (v30 == 4) = true then
  idxK v10 1 (sizeOfT Try.prog T.p_draw_Draw) (fun (a_31 : Addr) =>
  loadK .ptr h ((some a_31)) (fun (v32 : Option Addr) =>
  callK Try.prog (.int .i64) F.draw_Draw_Phase #[.pointer v32] (fun (v33 : Int) h =>
  if (v33 == 4) = true then
  idxK v10 (IntKind.i64.wrap (BitVec.ofInt (IntKind.bits .i64) v14 &&& BitVec.ofInt (IntKind.bits .i64) 1).toNat) (sizeOfT Try.prog T.p_draw_Draw) (fun (a_34 : Addr) =>
  idxK v10 (IntKind.i64.wrap (1 - (IntKind.i64.wrap (BitVec.ofInt (IntKind.bits .i64) v14 &&& BitVec.ofInt (IntKind.bits .i64) 1).toNat))) (sizeOfT Try.prog T.p_draw_Draw) (fun (a_35 : Addr) =>
  loadK .ptr h ((some a_34)) (fun (v36 : Option Addr) =>
  loadK .ptr h ((some a_35)) (fun (v37 : Option Addr) =>
  callK Try.prog .slice F.draw_Draw_Say #[.pointer v37] (fun (v38 : Sl) h =>
  stillK .ptr h ((some a_34)) v36 ∧
  callK Try.prog (.int .i64) F.draw_Draw_Take #[.pointer v36, .slice v38.a v38.n v38.c] (fun (v39 : Int) h =>
  R (.bool (v39 == 0)) h) h) h))))
  else
  R (.bool false) h) h))
  else
  R (.bool false) h) h))) h) h))))) h))
  else
  joinW (fun (s_40 : Unit) h =>
  idxK v10 (IntKind.i64.wrap (BitVec.ofInt (IntKind.bits .i64) v14 &&& BitVec.ofInt (IntKind.bits .i64) 1).toNat) (sizeOfT Try.prog T.p_draw_Draw) (fun (a_41 : Addr) =>
  loadK .ptr h ((some a_41)) (fun (v42 : Option Addr) =>
  callK Try.prog (.int .i64) F.draw_Draw_Phase #[.pointer v42] (fun (v43 : Int) h =>
  if (v43 == 3) = true then
  idxK v10 (IntKind.i64.wrap (1 - (IntKind.i64.wrap (BitVec.ofInt (IntKind.bits .i64) v14 &&& BitVec.ofInt (IntKind.bits .i64) 1).toNat))) (sizeOfT Try.prog T.p_draw_Draw) (fun (a_44 : Addr) =>
  loadK .ptr h ((some a_44)) (fun (v45 : Option Addr) =>
  callK Try.prog .slice F.draw_Draw_Say #[.pointer v45] (fun (v46 : Sl) h =>
  if (decide (((v46.n : Int)) < 2)) = true then
  R (.bool false) h
  else
  X_12 (IntKind.i64.wrap (s_11 + 1)) h) h))
  else
  X_12 (IntKind.i64.wrap (s_11 + 1)) h) h)))
  (fun J_47 =>
  if (decide (((v17.n : Int)) > 0)) = true then
  idxK v10 (IntKind.i64.wrap (BitVec.ofInt (IntKind.bits .i64) v14 &&& BitVec.ofInt (IntKind.bits .i64) 1).toNat) (sizeOfT Try.prog T.p_draw_Draw) (fun (a_48 : Addr) =>
  idxK steps2 s_11 (sizeOfT Try.prog T.int) (fun (a_49 : Addr) =>
  loadK .ptr h ((some a_48)) (fun (v50 : Option Addr) =>
  loadK (.int .i64) h ((some a_49)) (fun (v51 : Int) =>
  shiftK 1
  (callK Try.prog (.int .i64) F.kit_Pick #[(.int .i64 (Int.fdiv v51 (2 ^ min (Int.toNat 1) (IntKind.bits .i64)))), (.int .i64 ((v17.n : Int)))] (fun (v52 : Int) h =>
  stillK .ptr h ((some a_48)) v50 ∧
  idxK v17 v52 (sizeOfT Try.prog T.api_Msg) (fun (a_53 : Addr) =>
  loadAggK (sizeOfT Try.prog T.api_Msg) h ((some a_53)) (fun (v54 : Array Value) =>
  opK Try.prog .slice (Instr.buildSlice T.sl_api_Msg 1 #[(0, (.agg v54))]) (fun (v55 : Sl) h =>
  callK Try.prog (.int .i64) F.draw_Draw_Take #[.pointer v50, .slice v55.a v55.n v55.c] (fun (v56 : Int) h =>
  J_47 () h) h) h))) h)))))
  else
  J_47 () h))
  (fun J_57 =>
  idxK steps2 s_11 (sizeOfT Try.prog T.int) (fun (a_58 : Addr) =>
  loadK (.int .i64) h ((some a_58)) (fun (v59 : Int) =>
  shiftK 4
  (if ((IntKind.i64.wrap (BitVec.ofInt (IntKind.bits .i64) (Int.fdiv v59 (2 ^ min (Int.toNat 4) (IntKind.bits .i64))) &&& BitVec.ofInt (IntKind.bits .i64) 15).toNat) == 15) = true then
  idxK v10 0 (sizeOfT Try.prog T.p_draw_Draw) (fun (a_60 : Addr) =>
  loadK .ptr h ((some a_60)) (fun (v61 : Option Addr) =>
  callK Try.prog (.int .i64) F.draw_Draw_Phase #[.pointer v61] (fun (v62 : Int) h =>
  if (v62 != 3) = true then
  idxK v10 1 (sizeOfT Try.prog T.p_draw_Draw) (fun (a_63 : Addr) =>
  loadK .ptr h ((some a_63)) (fun (v64 : Option Addr) =>
  callK Try.prog (.int .i64) F.draw_Draw_Phase #[.pointer v64] (fun (v65 : Int) h =>
  J_57 (v65 != 3) h) h))
  else
  J_57 false h) h))
  else
  J_57 false h))))) h))))
  else
  loopW (fun X_67 (s_66 : Int) (h : Heap) =>
  if (decide (s_66 < 3)) = true then
  loopW (fun X_69 (s_68 : Int) (h : Heap) =>
  if (decide (s_68 < 2)) = true then
  idxK v10 (IntKind.i64.wrap (1 - s_68)) (sizeOfT Try.prog T.p_draw_Draw) (fun (a_70 : Addr) =>
  loadK .ptr h ((some a_70)) (fun (v71 : Option Addr) =>
  callK Try.prog .slice F.draw_Draw_Say #[.pointer v71] (fun (v72 : Sl) h =>
  loopW (fun X_74 (s_73 : Int) (h : Heap) =>
  if (decide (s_73 < ((v72.n : Int)))) = true then
  idxK v10 s_68 (sizeOfT Try.prog T.p_draw_Draw) (fun (a_75 : Addr) =>
  idxK v72 s_73 (sizeOfT Try.prog T.api_Msg) (fun (a_76 : Addr) =>
  loadK .ptr h ((some a_75)) (fun (v77 : Option Addr) =>
  loadAggK (sizeOfT Try.prog T.api_Msg) h ((some a_76)) (fun (v78 : Array Value) =>
  opK Try.prog .slice (Instr.buildSlice T.sl_api_Msg 1 #[(0, (.agg v78))]) (fun (v79 : Sl) h =>
  callK Try.prog (.int .i64) F.draw_Draw_Take #[.pointer v77, .slice v79.a v79.n v79.c] (fun (v80 : Int) h =>
  X_74 (IntKind.i64.wrap (s_73 + 1)) h) h) h))))
  else
  X_69 (IntKind.i64.wrap (s_68 + 1)) h) 0 h) h))
  else
  X_67 (IntKind.i64.wrap (s_66 + 1)) h) 0 h
  else
  callK Try.prog (Kd.pair (.int .i64) .bool) F.draw_Draw_White #[.pointer v6.1] (fun (v81 : Int × Bool) h =>
  callK Try.prog (Kd.pair (.int .i64) .bool) F.draw_Draw_White #[.pointer v9.1] (fun (v82 : Int × Bool) h =>
  callK Try.prog (Kd.pair (.int .i64) .bool) F.draw_Draw_Side #[.pointer v6.1] (fun (v83 : Int × Bool) h =>
  callK Try.prog (Kd.pair (.int .i64) .bool) F.draw_Draw_Side #[.pointer v9.1] (fun (v84 : Int × Bool) h =>
  if v81.2 = true then
  if v82.2 = true then
  if (v81.1 == v82.1) = true then
  shiftK 1
  (if ((v81.1 == 0) == ((IntKind.i64.wrap (BitVec.ofInt (IntKind.bits .i64) bits1 &&& BitVec.ofInt (IntKind.bits .i64) 1).toNat) == (IntKind.i64.wrap (BitVec.ofInt (IntKind.bits .i64) (Int.fdiv bits1 (2 ^ min (Int.toNat 1) (IntKind.bits .i64))) &&& BitVec.ofInt (IntKind.bits .i64) 1).toNat))) = true then
  if (v83.1 != v84.1) = true then
  R (.bool ((v83.1 == 0) == (v81.1 == 0))) h
  else
  R (.bool false) h
  else
  R (.bool false) h)
  else
  R (.bool false) h
  else
  R (.bool false) h
  else
  R (.bool false) h) h) h) h) h) 0 h) 0 h)) h) h))) h) h)) h) h)
def law23_DrawBoth.ann : Ann := (.seq .leaf (.seq (.seq .leaf (.cond (.seq .leaf .leaf) .leaf)) (.seq (.seq .leaf (.cond (.seq .leaf .leaf) .leaf)) (.seq .leaf (.seq (.any (.loc 0 (.loc 2 (.loc 3 (.loc 4 (.st 1 4032 (.last 5 (.last 6 (.loc 7 (.loc 8 (.loc 9 (.loc 10 (.loc 11 .done))))))))))))) (.seq (.any (.loc 0 (.loc 2 (.loc 3 (.loc 4 (.loc 5 (.st 1 8064 (.last 6 (.last 7 (.loc 8 (.loc 9 (.loc 10 (.loc 11 (.loc 12 .done)))))))))))))) (.seq (.seq .leaf (.cond (.seq .leaf .leaf) .leaf)) (.seq .leaf (.seq (.seq .leaf (.block (.loop [(13, (.int .i64))] (.seq (.seq .leaf (.cond .leaf .leaf)) (.seq (.block (.seq .leaf (.seq .leaf (.seq (.join [(101, .bool)] .leaf (.cond (.seq .leaf (.seq (.any (.loc 0 (.loc 1 (.loc 2 (.loc 3 (.loc 5 (.loc 6 (.loc 7 (.st 4 1024 (.st 8 1536 (.last 9 (.last 10 .done)))))))))))) (.seq (.any (.loc 0 (.loc 1 (.st 2 134217720 (.last 3 (.loc 4 (.loc 5 (.locA 6 (.loc 7 (.st 8 134217216 (.last 9 (.loc 10 (.loc 11 (.loc 12 (.locA 13 (.loc 14 (.loc 15 (.loc 17 (.loc 18 (.loc 19 (.loc 20 (.st 16 125829120 (.st 21 130023424 (.last 22 (.last 23 (.loc 24 (.loc 25 (.loc 26 .done))))))))))))) (.loc 14 (.loc 15 (.loc 16 (.loc 17 (.loc 18 (.loc 19 (.loc 20 (.loc 21 (.loc 22 (.loc 23 (.loc 24 (.loc 25 (.loc 26 .done)))))))))))))))))))) (.loc 7 (.loc 8 (.loc 9 (.loc 10 (.loc 11 (.loc 12 (.loc 13 (.loc 14 (.loc 15 (.loc 16 (.loc 17 (.loc 18 (.loc 19 (.loc 20 (.loc 21 (.loc 22 (.loc 23 (.loc 24 (.loc 25 (.loc 26 .done)))))))))))))))))))))))))))) .leaf))) .leaf)) (.join [] (.seq .leaf (.cond (.any (.loc 0 (.loc 1 (.loc 2 (.loc 4 (.loc 5 (.loc 6 (.loc 7 (.loc 10 (.loc 11 (.st 3 65536 (.st 8 127488 (.loc 9 (.last 12 (.loc 13 (.st 14 98304 (.last 15 (.last 16 .done)))))))))))))))))) .leaf)) (.seq .leaf (.cond (.seq .leaf .leaf) .leaf))))))) .leaf))))) (.seq (.seq .leaf (.block (.loop [(16, (.int .i64))] (.seq (.seq .leaf (.cond .leaf .leaf)) (.seq (.block (.seq .leaf (.block (.loop [(17, (.int .i64))] (.seq (.seq .leaf (.cond .leaf .leaf)) (.seq (.block (.seq .leaf (.seq .leaf (.block (.loop [(19, (.int .i64))] (.seq (.seq .leaf (.cond .leaf .leaf)) (.seq (.block (.any (.loc 0 (.loc 1 (.loc 2 (.loc 4 (.loc 5 (.loc 6 (.st 3 512 (.st 7 768 (.last 8 (.last 9 .done)))))))))))) .leaf))))))) .leaf)))))) .leaf))))) (.seq .leaf (.seq .leaf (.seq .leaf (.seq .leaf (.seq .leaf .leaf)))))))))))))))
theorem law23_DrawBoth.eq (game0 : Array Value) (bits1 : Int) (steps2 : Sl) (R : Value → Heap → Prop) (h : Heap) : law23_DrawBoth.body game0 bits1 steps2 R h = evFn Try.prog Try.f5 law23_DrawBoth.ann [.agg game0, .int .i64 bits1, .slice steps2.a steps2.n steps2.c] R h := by kernel_rfl
theorem law23_DrawBoth.calls {game0 : Array Value} {bits1 : Int} {steps2 : Sl} {R : Value → Heap → Prop} {h : Heap} (H : law23_DrawBoth.body game0 bits1 steps2 R h) : HC Try.prog F.law23_DrawBoth #[.agg game0, .int .i64 bits1, .slice steps2.a steps2.n steps2.c] R h :=
  evFn_sound mixed Try.func5 (by kernel_rfl) (law23_DrawBoth.eq game0 bits1 steps2 R h ▸ H)

/-! zugzwang/msg.named -/
def msg_named.body (b0 : Array Value) (R : Value → Heap → Prop) (h : Heap) : Prop :=
  newK h b0 T.api_Body (fun (b_1 : Option Addr) h =>
  newK h (zerosOf Try.prog T.api_Body) T.api_Body (fun (has_2 : Option Addr) h =>
  fldK b_1 0 (fun (a_3 : Addr) =>
  loadK (.int .i64) h ((some a_3)) (fun (v4 : Int) =>
  fldK has_2 0 (fun (a_5 : Addr) =>
  storeK h ((some a_5)) (.int .i64 v4) (fun h =>
  fldK b_1 0 (fun (a_6 : Addr) =>
  loadK (.int .i64) h ((some a_6)) (fun (v7 : Int) =>
  if (v7 == 1) = true then
  fldK b_1 1 (fun (a_8 : Addr) =>
  fldK b_1 4 (fun (a_9 : Addr) =>
  fldK b_1 1 (fun (a_10 : Addr) =>
  loadAggK (sizeOfT Try.prog T.api_Move) h ((some a_8)) (fun (v11 : Array Value) =>
  fldK has_2 1 (fun (a_12 : Addr) =>
  loadK .bool h ((some a_9)) (fun (v13 : Bool) =>
  loadAggK (sizeOfT Try.prog T.api_Move) h ((some a_10)) (fun (v14 : Array Value) =>
  callK Try.prog .bool F.msg_move #[.agg v14] (fun (v15 : Bool) h =>
  stillK .bool h ((some a_9)) v13 ∧
  stillAggK (sizeOfT Try.prog T.api_Move) h ((some a_8)) v11 ∧
  storeAggK (sizeOfT Try.prog T.api_Move) h ((some a_12)) v11 (fun h =>
  stillK .bool h ((some a_9)) v13 ∧
  fldK has_2 4 (fun (a_16 : Addr) =>
  storeK h ((some a_16)) (.bool v13) (fun h =>
  loadAggK (sizeOfT Try.prog T.api_Body) h has_2 (fun (v17 : Array Value) =>
  storeAggK (sizeOfT Try.prog T.api_Body) h has_2 v17 (fun h =>
  quietK Try.prog .agg (Instr.loadAt T.api_Body (.pointer has_2)) (fun r18 =>
  R (.tuple #[.agg r18, .bool v15]) h) h)))))) h)))))))
  else
  if (v7 == 2) = true then
  fldK b_1 5 (fun (a_19 : Addr) =>
  fldK b_1 5 (fun (a_20 : Addr) =>
  loadK (.int .i64) h ((some a_19)) (fun (v21 : Int) =>
  fldK has_2 5 (fun (a_22 : Addr) =>
  loadK (.int .i64) h ((some a_20)) (fun (v23 : Int) =>
  if (v23 == 6) = true then
  storeK h ((some a_22)) (.int .i64 v21) (fun h =>
  loadAggK (sizeOfT Try.prog T.api_Body) h has_2 (fun (v24 : Array Value) =>
  storeAggK (sizeOfT Try.prog T.api_Body) h has_2 v24 (fun h =>
  quietK Try.prog .agg (Instr.loadAt T.api_Body (.pointer has_2)) (fun r25 =>
  R (.tuple #[.agg r25, .bool true]) h) h)))
  else
  fldK b_1 5 (fun (a_26 : Addr) =>
  loadK (.int .i64) h ((some a_26)) (fun (v27 : Int) =>
  storeK h ((some a_22)) (.int .i64 v21) (fun h =>
  stillK (.int .i64) h ((some a_26)) v27 ∧
  loadAggK (sizeOfT Try.prog T.api_Body) h has_2 (fun (v28 : Array Value) =>
  storeAggK (sizeOfT Try.prog T.api_Body) h has_2 v28 (fun h =>
  quietK Try.prog .agg (Instr.loadAt T.api_Body (.pointer has_2)) (fun r29 =>
  R (.tuple #[.agg r29, (.bool (v27 == 7))]) h) h))))))))))
  else
  if (v7 == 5) = true then
  fldK b_1 6 (fun (a_30 : Addr) =>
  loadAggK (sizeOfT Try.prog T.api_Tag) h ((some a_30)) (fun (v31 : Array Value) =>
  fldK has_2 6 (fun (a_32 : Addr) =>
  storeAggK (sizeOfT Try.prog T.api_Tag) h ((some a_32)) v31 (fun h =>
  loadAggK (sizeOfT Try.prog T.api_Body) h has_2 (fun (v33 : Array Value) =>
  storeAggK (sizeOfT Try.prog T.api_Body) h has_2 v33 (fun h =>
  quietK Try.prog .agg (Instr.loadAt T.api_Body (.pointer has_2)) (fun r34 =>
  R (.tuple #[.agg r34, .bool true]) h) h))))))
  else
  if (v7 == 7) = true then
  fldK b_1 1 (fun (a_35 : Addr) =>
  fldK b_1 38 (fun (a_36 : Addr) =>
  fldK b_1 1 (fun (a_37 : Addr) =>
  loadAggK (sizeOfT Try.prog T.api_Move) h ((some a_35)) (fun (v38 : Array Value) =>
  fldK has_2 1 (fun (a_39 : Addr) =>
  loadAggK (sizeOfT Try.prog T.api_Tag) h ((some a_36)) (fun (v40 : Array Value) =>
  loadAggK (sizeOfT Try.prog T.api_Move) h ((some a_37)) (fun (v41 : Array Value) =>
  callK Try.prog .bool F.msg_move #[.agg v41] (fun (v42 : Bool) h =>
  stillAggK (sizeOfT Try.prog T.api_Tag) h ((some a_36)) v40 ∧
  stillAggK (sizeOfT Try.prog T.api_Move) h ((some a_35)) v38 ∧
  storeAggK (sizeOfT Try.prog T.api_Move) h ((some a_39)) v38 (fun h =>
  stillAggK (sizeOfT Try.prog T.api_Tag) h ((some a_36)) v40 ∧
  fldK has_2 38 (fun (a_43 : Addr) =>
  storeAggK (sizeOfT Try.prog T.api_Tag) h ((some a_43)) v40 (fun h =>
  loadAggK (sizeOfT Try.prog T.api_Body) h has_2 (fun (v44 : Array Value) =>
  storeAggK (sizeOfT Try.prog T.api_Body) h has_2 v44 (fun h =>
  quietK Try.prog .agg (Instr.loadAt T.api_Body (.pointer has_2)) (fun r45 =>
  R (.tuple #[.agg r45, .bool v42]) h) h)))))) h)))))))
  else
  if (v7 == 3) = true then
  if (v7 == 3) = true then
  loadAggK (sizeOfT Try.prog T.api_Body) h has_2 (fun (v46 : Array Value) =>
  storeAggK (sizeOfT Try.prog T.api_Body) h has_2 v46 (fun h =>
  quietK Try.prog .agg (Instr.loadAt T.api_Body (.pointer has_2)) (fun r47 =>
  R (.tuple #[.agg r47, .bool true]) h) h))
  else
  loadAggK (sizeOfT Try.prog T.api_Body) h has_2 (fun (v48 : Array Value) =>
  storeAggK (sizeOfT Try.prog T.api_Body) h has_2 v48 (fun h =>
  quietK Try.prog .agg (Instr.loadAt T.api_Body (.pointer has_2)) (fun r49 =>
  R (.tuple #[.agg r49, .bool false]) h) h))
  else
  if (v7 == 4) = true then
  if (v7 == 4) = true then
  loadAggK (sizeOfT Try.prog T.api_Body) h has_2 (fun (v50 : Array Value) =>
  storeAggK (sizeOfT Try.prog T.api_Body) h has_2 v50 (fun h =>
  quietK Try.prog .agg (Instr.loadAt T.api_Body (.pointer has_2)) (fun r51 =>
  R (.tuple #[.agg r51, .bool true]) h) h))
  else
  loadAggK (sizeOfT Try.prog T.api_Body) h has_2 (fun (v52 : Array Value) =>
  storeAggK (sizeOfT Try.prog T.api_Body) h has_2 v52 (fun h =>
  quietK Try.prog .agg (Instr.loadAt T.api_Body (.pointer has_2)) (fun r53 =>
  R (.tuple #[.agg r53, .bool false]) h) h))
  else
  if (v7 == 6) = true then
  loadAggK (sizeOfT Try.prog T.api_Body) h has_2 (fun (v54 : Array Value) =>
  storeAggK (sizeOfT Try.prog T.api_Body) h has_2 v54 (fun h =>
  quietK Try.prog .agg (Instr.loadAt T.api_Body (.pointer has_2)) (fun r55 =>
  R (.tuple #[.agg r55, .bool true]) h) h))
  else
  loadAggK (sizeOfT Try.prog T.api_Body) h has_2 (fun (v56 : Array Value) =>
  storeAggK (sizeOfT Try.prog T.api_Body) h has_2 v56 (fun h =>
  quietK Try.prog .agg (Instr.loadAt T.api_Body (.pointer has_2)) (fun r57 =>
  R (.tuple #[.agg r57, .bool false]) h) h))))))))))
def msg_named.ann : Ann := (.seq .leaf (.seq .leaf (.seq (.seq .leaf (.block (.seq .leaf (.cond (.any (.loc 0 (.loc 2 (.loc 4 (.st 1 3968 (.loc 7 (.st 3 3584 (.st 5 3904 (.last 6 (.last 8 (.loc 9 (.last 10 (.loc 11 .done))))))))))))) (.seq .leaf (.cond (.any (.loc 0 (.loc 2 (.st 1 7168 (.loc 10 (.st 3 7152 (.loc 4 (.loc 5 (.locA 6 (.loc 7 (.loc 8 (.loc 9 (.last 11 (.loc 12 .done))))) (.st 7 4864 (.loc 8 (.loc 9 (.last 11 (.loc 12 .done)))))))))))))) (.seq .leaf (.cond .leaf (.seq .leaf (.cond (.any (.loc 0 (.loc 2 (.loc 4 (.st 1 3968 (.loc 7 (.st 3 3584 (.st 5 3904 (.last 6 (.last 8 (.loc 9 (.last 10 (.loc 11 .done))))))))))))) (.seq (.seq .leaf (.cond .leaf (.seq .leaf (.cond .leaf .leaf)))) (.cond .leaf .leaf)))))))))))) (.seq .leaf .leaf))))
theorem msg_named.eq (b0 : Array Value) (R : Value → Heap → Prop) (h : Heap) : msg_named.body b0 R h = evFn Try.prog Try.f55 msg_named.ann [.agg b0] R h := by kernel_rfl
theorem msg_named.calls {b0 : Array Value} {R : Value → Heap → Prop} {h : Heap} (H : msg_named.body b0 R h) : HC Try.prog F.msg_named #[.agg b0] R h :=
  evFn_sound mixed Try.func55 (by kernel_rfl) (msg_named.eq b0 R h ▸ H)

/-! (*zugzwang/digest.state).step -/
def digest_state_step.body (s0 : Option Addr) (w1 : Int) (k2 : Int) (R : Value → Heap → Prop) (h : Heap) : Prop :=
  derefK s0 (fun (a_1 : Addr) =>
  idxArrK ((some a_1)) 8 7 (sizeOfT Try.prog T.uint32) (fun (a_2 : Addr) =>
  derefK s0 (fun (a_3 : Addr) =>
  idxArrK ((some a_3)) 8 4 (sizeOfT Try.prog T.uint32) (fun (a_4 : Addr) =>
  derefK s0 (fun (a_5 : Addr) =>
  idxArrK ((some a_5)) 8 4 (sizeOfT Try.prog T.uint32) (fun (a_6 : Addr) =>
  derefK s0 (fun (a_7 : Addr) =>
  idxArrK ((some a_7)) 8 5 (sizeOfT Try.prog T.uint32) (fun (a_8 : Addr) =>
  derefK s0 (fun (a_9 : Addr) =>
  idxArrK ((some a_9)) 8 6 (sizeOfT Try.prog T.uint32) (fun (a_10 : Addr) =>
  loadK (.int .u32) h ((some a_2)) (fun (v11 : Int) =>
  loadK (.int .u32) h ((some a_4)) (fun (v12 : Int) =>
  loadK (.int .u32) h ((some a_6)) (fun (v13 : Int) =>
  loadK (.int .u32) h ((some a_8)) (fun (v14 : Int) =>
  loadK (.int .u32) h ((some a_10)) (fun (v15 : Int) =>
  newSlK h 3 #[.int .i64 6, .int .i64 11, .int .i64 25] T.int (fun v16 h =>
  callK Try.prog (.int .u32) F.bits_Mix #[.int .u32 v12, .slice v16.a v16.n v16.c] (fun (v17 : Int) h =>
  stillK (.int .u32) h ((some a_10)) v15 ∧
  stillK (.int .u32) h ((some a_8)) v14 ∧
  stillK (.int .u32) h ((some a_6)) v13 ∧
  stillK (.int .u32) h ((some a_2)) v11 ∧
  callK Try.prog (.int .u32) F.bits_Choose #[.int .u32 v13, .int .u32 v14, .int .u32 v15] (fun (v18 : Int) h =>
  stillK (.int .u32) h ((some a_2)) v11 ∧
  newSlK h 5 #[.int .u32 v11, .int .u32 v17, .int .u32 v18, .int .u32 k2, .int .u32 w1] T.uint32 (fun v19 h =>
  callK Try.prog (.int .u32) F.bits_Sum #[.slice v19.a v19.n v19.c] (fun (v20 : Int) h =>
  derefK s0 (fun (a_21 : Addr) =>
  idxArrK ((some a_21)) 8 0 (sizeOfT Try.prog T.uint32) (fun (a_22 : Addr) =>
  derefK s0 (fun (a_23 : Addr) =>
  idxArrK ((some a_23)) 8 0 (sizeOfT Try.prog T.uint32) (fun (a_24 : Addr) =>
  derefK s0 (fun (a_25 : Addr) =>
  idxArrK ((some a_25)) 8 1 (sizeOfT Try.prog T.uint32) (fun (a_26 : Addr) =>
  derefK s0 (fun (a_27 : Addr) =>
  idxArrK ((some a_27)) 8 0 (sizeOfT Try.prog T.uint32) (fun (a_28 : Addr) =>
  derefK s0 (fun (a_29 : Addr) =>
  idxArrK ((some a_29)) 8 2 (sizeOfT Try.prog T.uint32) (fun (a_30 : Addr) =>
  derefK s0 (fun (a_31 : Addr) =>
  idxArrK ((some a_31)) 8 1 (sizeOfT Try.prog T.uint32) (fun (a_32 : Addr) =>
  derefK s0 (fun (a_33 : Addr) =>
  idxArrK ((some a_33)) 8 2 (sizeOfT Try.prog T.uint32) (fun (a_34 : Addr) =>
  loadK (.int .u32) h ((some a_22)) (fun (v35 : Int) =>
  loadK (.int .u32) h ((some a_24)) (fun (v36 : Int) =>
  loadK (.int .u32) h ((some a_26)) (fun (v37 : Int) =>
  loadK (.int .u32) h ((some a_28)) (fun (v38 : Int) =>
  loadK (.int .u32) h ((some a_30)) (fun (v39 : Int) =>
  loadK (.int .u32) h ((some a_32)) (fun (v40 : Int) =>
  loadK (.int .u32) h ((some a_34)) (fun (v41 : Int) =>
  newSlK h 3 #[.int .i64 2, .int .i64 13, .int .i64 22] T.int (fun v42 h =>
  callK Try.prog (.int .u32) F.bits_Mix #[.int .u32 v35, .slice v42.a v42.n v42.c] (fun (v43 : Int) h =>
  stillK (.int .u32) h ((some a_34)) v41 ∧
  stillK (.int .u32) h ((some a_32)) v40 ∧
  stillK (.int .u32) h ((some a_30)) v39 ∧
  stillK (.int .u32) h ((some a_28)) v38 ∧
  stillK (.int .u32) h ((some a_26)) v37 ∧
  stillK (.int .u32) h ((some a_24)) v36 ∧
  newSlK h 2 #[.int .u32 v43, (.int .u32 (IntKind.u32.wrap (BitVec.ofInt (IntKind.bits .u32) (IntKind.u32.wrap (BitVec.ofInt (IntKind.bits .u32) (IntKind.u32.wrap (BitVec.ofInt (IntKind.bits .u32) v36 &&& BitVec.ofInt (IntKind.bits .u32) v37).toNat) ||| BitVec.ofInt (IntKind.bits .u32) (IntKind.u32.wrap (BitVec.ofInt (IntKind.bits .u32) v38 &&& BitVec.ofInt (IntKind.bits .u32) v39).toNat)).toNat) ||| BitVec.ofInt (IntKind.bits .u32) (IntKind.u32.wrap (BitVec.ofInt (IntKind.bits .u32) v40 &&& BitVec.ofInt (IntKind.bits .u32) v41).toNat)).toNat))] T.uint32 (fun v44 h =>
  callK Try.prog (.int .u32) F.bits_Sum #[.slice v44.a v44.n v44.c] (fun (v45 : Int) h =>
  derefK s0 (fun (a_46 : Addr) =>
  sliceArrK ((some a_46)) 8 (some 1) none none (sizeOfT Try.prog T.uint32) (fun (v47 : Sl) =>
  derefK s0 (fun (a_48 : Addr) =>
  sliceArrK ((some a_48)) 8 none (some 7) none (sizeOfT Try.prog T.uint32) (fun (v49 : Sl) =>
  opK Try.prog (.int .i64) (Builtin.copy_ #[T.sl_uint32, T.sl_uint32] T.int #[.slice v47.a v47.n v47.c, .slice v49.a v49.n v49.c]) (fun (v50 : Int) h =>
  derefK s0 (fun (a_51 : Addr) =>
  idxArrK ((some a_51)) 8 4 (sizeOfT Try.prog T.uint32) (fun (a_52 : Addr) =>
  derefK s0 (fun (a_53 : Addr) =>
  loadK (.int .u32) h ((some a_52)) (fun (v54 : Int) =>
  idxArrK ((some a_53)) 8 4 (sizeOfT Try.prog T.uint32) (fun (a_55 : Addr) =>
  storeK h ((some a_55)) (.int .u32 (IntKind.u32.wrap (v54 + v20))) (fun h =>
  derefK s0 (fun (a_56 : Addr) =>
  idxArrK ((some a_56)) 8 0 (sizeOfT Try.prog T.uint32) (fun (a_57 : Addr) =>
  storeK h ((some a_57)) (.int .u32 (IntKind.u32.wrap (v20 + v45))) (fun h =>
  R (.tuple #[]) h)))))))))) h))))) h)) h))))))))))))))))))))))) h)) h) h))))))))))))))))
def digest_state_step.ann : Ann := (.seq (.any (.loc 0 (.loc 1 (.loc 2 (.loc 4 (.loc 5 (.loc 6 (.loc 10 (.loc 11 (.loc 12 (.loc 14 (.loc 15 (.loc 16 (.loc 18 (.loc 19 (.loc 20 (.loc 23 (.loc 24 (.st 3 234881024 (.st 7 239075840 (.st 13 239075328 (.st 17 239075328 (.st 21 239075328 (.last 8 (.last 9 (.last 22 (.last 25 (.last 26 (.loc 27 .done))))))))))))))))))))))))))))) (.seq (.any (.loc 0 (.loc 1 (.loc 2 (.loc 6 (.loc 7 (.loc 8 (.loc 10 (.loc 11 (.loc 12 (.loc 15 (.loc 16 (.loc 17 (.loc 19 (.loc 20 (.loc 21 (.loc 25 (.loc 26 (.loc 27 (.loc 29 (.loc 30 (.loc 31 (.st 3 240518168608 (.st 9 257714831360 (.st 13 257714831360 (.loc 14 (.st 18 257723203584 (.st 22 257723203584 (.loc 23 (.loc 24 (.st 28 266287972352 (.st 32 266287972352 (.loc 33 (.loc 34 (.last 4 (.last 5 (.last 35 (.last 36 (.loc 37 .done))))))))))))))))))))))))))))))))))))))) (.seq (.any (.loc 0 (.loc 1 (.loc 2 (.loc 3 (.loc 4 (.loc 5 (.last 6 .done)))))))) (.seq (.any (.loc 0 (.loc 1 (.loc 2 (.loc 4 (.loc 6 (.st 3 416 (.loc 5 (.loc 7 (.last 8 .done)))))))))) .leaf))))
theorem digest_state_step.eq (s0 : Option Addr) (w1 : Int) (k2 : Int) (R : Value → Heap → Prop) (h : Heap) : digest_state_step.body s0 w1 k2 R h = evFn Try.prog Try.f61 digest_state_step.ann [.pointer s0, .int .u32 w1, .int .u32 k2] R h := by kernel_rfl
theorem digest_state_step.calls {s0 : Option Addr} {w1 : Int} {k2 : Int} {R : Value → Heap → Prop} {h : Heap} (H : digest_state_step.body s0 w1 k2 R h) : HC Try.prog F.digest_state_step #[.pointer s0, .int .u32 w1, .int .u32 k2] R h :=
  evFn_sound mixed Try.func61 (by kernel_rfl) (digest_state_step.eq s0 w1 k2 R h ▸ H)

/-! (*zugzwang/digest.state).take -/
def digest_state_take.body (s0 : Option Addr) (b1 : Sl) (R : Value → Heap → Prop) (h : Heap) : Prop :=
  newK h (zerosOf Try.prog T.a64_uint32) T.a64_uint32 (fun (w_1 : Option Addr) h =>
  callK Try.prog (Kd.pair .slice (.int .i64)) F.bits_Words #[.slice b1.a b1.n b1.c] (fun (v2 : Sl × Int) h =>
  sliceArrK w_1 64 none none none (sizeOfT Try.prog T.uint32) (fun (v3 : Sl) =>
  opK Try.prog (.int .i64) (Builtin.copy_ #[T.sl_uint32, T.sl_uint32] T.int #[.slice v3.a v3.n v3.c, .slice v2.1.a v2.1.n v2.1.c]) (fun (v4 : Int) h =>
  loopW (fun X_6 (s_5 : Int) (h : Heap) =>
  if (decide (s_5 < 64)) = true then
  idxArrK w_1 64 (IntKind.i64.wrap (s_5 - 15)) (sizeOfT Try.prog T.uint32) (fun (a_7 : Addr) =>
  idxArrK w_1 64 (IntKind.i64.wrap (s_5 - 15)) (sizeOfT Try.prog T.uint32) (fun (a_8 : Addr) =>
  loadK (.int .u32) h ((some a_7)) (fun (v9 : Int) =>
  loadK (.int .u32) h ((some a_8)) (fun (v10 : Int) =>
  newSlK h 2 #[.int .i64 7, .int .i64 18] T.int (fun v11 h =>
  callK Try.prog (.int .u32) F.bits_Mix #[.int .u32 v9, .slice v11.a v11.n v11.c] (fun (v12 : Int) h =>
  stillK (.int .u32) h ((some a_8)) v10 ∧
  callK Try.prog (.int .u32) F.bits_Shift #[.int .u32 v10, .int .i64 3] (fun (v13 : Int) h =>
  idxArrK w_1 64 (IntKind.i64.wrap (s_5 - 2)) (sizeOfT Try.prog T.uint32) (fun (a_14 : Addr) =>
  idxArrK w_1 64 (IntKind.i64.wrap (s_5 - 2)) (sizeOfT Try.prog T.uint32) (fun (a_15 : Addr) =>
  loadK (.int .u32) h ((some a_14)) (fun (v16 : Int) =>
  loadK (.int .u32) h ((some a_15)) (fun (v17 : Int) =>
  newSlK h 2 #[.int .i64 17, .int .i64 19] T.int (fun v18 h =>
  callK Try.prog (.int .u32) F.bits_Mix #[.int .u32 v16, .slice v18.a v18.n v18.c] (fun (v19 : Int) h =>
  stillK (.int .u32) h ((some a_15)) v17 ∧
  callK Try.prog (.int .u32) F.bits_Shift #[.int .u32 v17, .int .i64 10] (fun (v20 : Int) h =>
  idxArrK w_1 64 (IntKind.i64.wrap (s_5 - 16)) (sizeOfT Try.prog T.uint32) (fun (a_21 : Addr) =>
  idxArrK w_1 64 (IntKind.i64.wrap (s_5 - 7)) (sizeOfT Try.prog T.uint32) (fun (a_22 : Addr) =>
  loadK (.int .u32) h ((some a_21)) (fun (v23 : Int) =>
  loadK (.int .u32) h ((some a_22)) (fun (v24 : Int) =>
  newSlK h 4 #[.int .u32 v23, (.int .u32 (IntKind.u32.wrap (BitVec.ofInt (IntKind.bits .u32) v12 ^^^ BitVec.ofInt (IntKind.bits .u32) v13).toNat)), .int .u32 v24, (.int .u32 (IntKind.u32.wrap (BitVec.ofInt (IntKind.bits .u32) v19 ^^^ BitVec.ofInt (IntKind.bits .u32) v20).toNat))] T.uint32 (fun v25 h =>
  callK Try.prog (.int .u32) F.bits_Sum #[.slice v25.a v25.n v25.c] (fun (v26 : Int) h =>
  idxArrK w_1 64 s_5 (sizeOfT Try.prog T.uint32) (fun (a_27 : Addr) =>
  storeK h ((some a_27)) (.int .u32 v26) (fun h =>
  X_6 (IntKind.i64.wrap (s_5 + 1)) h))) h)))))) h) h)))))) h) h)))))
  else
  derefK s0 (fun (a_28 : Addr) =>
  loadAggK (sizeOfT Try.prog T.digest_state) h ((some a_28)) (fun (v29 : Array Value) =>
  newK h (zerosOf Try.prog T.digest_state) T.digest_state (fun (was_30 : Option Addr) h =>
  storeAggK (sizeOfT Try.prog T.digest_state) h was_30 v29 (fun h =>
  callK Try.prog .agg F.digest_constants #[] (fun (v31 : Array Value) h =>
  loopW (fun X_33 (s_32 : Int) (h : Heap) =>
  if (decide (s_32 < 64)) = true then
  idxValK (.int .u32) v31 64 s_32 (sizeOfT Try.prog T.uint32) (fun (v34 : Int) =>
  idxArrK w_1 64 s_32 (sizeOfT Try.prog T.uint32) (fun (a_35 : Addr) =>
  loadK (.int .u32) h ((some a_35)) (fun (v36 : Int) =>
  callK Try.prog .unit F.digest_state_step #[.pointer s0, .int .u32 v36, .int .u32 v34] (fun (v37 : Unit) h =>
  X_33 (IntKind.i64.wrap (s_32 + 1)) h) h)))
  else
  loopW (fun X_39 (s_38 : Int) (h : Heap) =>
  if (decide (s_38 < 8)) = true then
  derefK s0 (fun (a_40 : Addr) =>
  idxArrK ((some a_40)) 8 s_38 (sizeOfT Try.prog T.uint32) (fun (a_41 : Addr) =>
  idxArrK was_30 8 s_38 (sizeOfT Try.prog T.uint32) (fun (a_42 : Addr) =>
  derefK s0 (fun (a_43 : Addr) =>
  loadK (.int .u32) h ((some a_41)) (fun (v44 : Int) =>
  loadK (.int .u32) h ((some a_42)) (fun (v45 : Int) =>
  idxArrK ((some a_43)) 8 s_38 (sizeOfT Try.prog T.uint32) (fun (a_46 : Addr) =>
  storeK h ((some a_46)) (.int .u32 (IntKind.u32.wrap (v44 + v45))) (fun h =>
  X_39 (IntKind.i64.wrap (s_38 + 1)) h))))))))
  else
  R (.tuple #[]) h) 0 h) 0 h) h))))) 16 h) h)) h)
def digest_state_take.ann : Ann := (.seq .leaf (.seq .leaf (.seq .leaf (.seq (.seq .leaf (.block (.loop [(7, (.int .i64))] (.seq (.seq .leaf (.cond .leaf .leaf)) (.seq (.block (.seq (.any (.loc 0 (.loc 1 (.loc 2 (.loc 6 (.loc 7 (.loc 8 (.st 3 7200 (.st 9 7168 (.last 4 (.last 5 (.last 10 (.loc 11 (.loc 12 .done)))))))))))))) (.seq (.any (.loc 0 (.loc 1 (.loc 2 (.loc 6 (.loc 7 (.loc 8 (.st 3 7200 (.st 9 7168 (.last 4 (.last 5 (.last 10 (.loc 11 (.loc 12 .done)))))))))))))) (.any (.loc 0 (.loc 1 (.loc 2 (.loc 3 (.loc 5 (.loc 6 (.loc 7 (.loc 8 (.loc 10 (.st 4 30720 (.st 9 30720 (.last 11 (.last 12 (.loc 13 (.last 14 .done))))))))))))))))))) .leaf))))) (.seq .leaf (.seq (.seq .leaf (.block (.loop [(68, (.int .i64))] (.seq .leaf (.seq (.cond .leaf .leaf) (.seq (.block (.seq .leaf .leaf)) .leaf)))))) (.seq .leaf (.block (.loop [(79, (.int .i64))] (.seq .leaf (.seq (.cond .leaf .leaf) (.seq (.block (.seq .leaf (.any (.loc 0 (.loc 1 (.loc 2 (.loc 3 (.loc 5 (.loc 6 (.loc 9 (.st 4 3328 (.st 7 3328 (.loc 8 (.loc 10 (.last 11 .done))))))))))))))) .leaf))))))))))))
theorem digest_state_take.eq (s0 : Option Addr) (b1 : Sl) (R : Value → Heap → Prop) (h : Heap) : digest_state_take.body s0 b1 R h = evFn Try.prog Try.f45 digest_state_take.ann [.pointer s0, .slice b1.a b1.n b1.c] R h := by kernel_rfl
theorem digest_state_take.calls {s0 : Option Addr} {b1 : Sl} {R : Value → Heap → Prop} {h : Heap} (H : digest_state_take.body s0 b1 R h) : HC Try.prog F.digest_state_take #[.pointer s0, .slice b1.a b1.n b1.c] R h :=
  evFn_sound mixed Try.func45 (by kernel_rfl) (digest_state_take.eq s0 b1 R h ▸ H)

/-! zugzwang/zugzwanglaw23.DrawBinds -/
def law23_DrawBinds.body (t0 : Array Value) (bit1 : Int) (nonce2 : Array Value) (from3 : Int) (R : Value → Heap → Prop) (h : Heap) : Prop :=
  newK h t0 T.zugzwanglaw23_Toss (fun (t_1 : Option Addr) h =>
  newK h nonce2 T.api_Tag (fun (nonce_2 : Option Addr) h =>
  callK Try.prog .bool F.law23_awake #[] (fun (v3 : Bool) h =>
  if (!v3) = true then
  R (.bool false) h
  else
  fldK t_1 32 (fun (a_4 : Addr) =>
  loadK (.int .i64) h ((some a_4)) (fun (v5 : Int) =>
  if (decide (v5 < 0)) = true then
  R (.bool true) h
  else
  fldK t_1 32 (fun (a_6 : Addr) =>
  loadK (.int .i64) h ((some a_6)) (fun (v7 : Int) =>
  if (decide (v7 > 1)) = true then
  R (.bool true) h
  else
  fldK t_1 34 (fun (a_8 : Addr) =>
  loadK (.int .i64) h ((some a_8)) (fun (v9 : Int) =>
  if (decide (v9 < 0)) = true then
  R (.bool true) h
  else
  fldK t_1 34 (fun (a_10 : Addr) =>
  loadK (.int .i64) h ((some a_10)) (fun (v11 : Int) =>
  if (decide (v11 > 1)) = true then
  R (.bool true) h
  else
  callK Try.prog .ptr F.tags_New #[.bool false, .slice none 0 0] (fun (v12 : Option Addr) h =>
  fldK t_1 0 (fun (a_13 : Addr) =>
  loadAggK (sizeOfT Try.prog T.api_Tag) h ((some a_13)) (fun (v14 : Array Value) =>
  fldK t_1 32 (fun (a_15 : Addr) =>
  loadK (.int .i64) h ((some a_15)) (fun (v16 : Int) =>
  fldK t_1 33 (fun (a_17 : Addr) =>
  loadK (.int .i64) h ((some a_17)) (fun (v18 : Int) =>
  fldK t_1 35 (fun (a_19 : Addr) =>
  loadAggK (sizeOfT Try.prog T.api_Tag) h ((some a_19)) (fun (v20 : Array Value) =>
  callK Try.prog (Kd.pair .ptr (.int .i64)) F.draw_New #[.pointer v12, .agg v14, .int .i64 v16, (.int .i64 (IntKind.i64.wrap (BitVec.ofInt (IntKind.bits .i64) v18 &&& BitVec.ofInt (IntKind.bits .i64) 1).toNat)), .agg v20] (fun (v21 : Option Addr × Int) h =>
  fldK t_1 0 (fun (a_22 : Addr) =>
  loadAggK (sizeOfT Try.prog T.api_Tag) h ((some a_22)) (fun (v23 : Array Value) =>
  fldK t_1 32 (fun (a_24 : Addr) =>
  loadK (.int .i64) h ((some a_24)) (fun (v25 : Int) =>
  fldK t_1 34 (fun (a_26 : Addr) =>
  loadK (.int .i64) h ((some a_26)) (fun (v27 : Int) =>
  fldK t_1 67 (fun (a_28 : Addr) =>
  loadAggK (sizeOfT Try.prog T.api_Tag) h ((some a_28)) (fun (v29 : Array Value) =>
  callK Try.prog (Kd.pair .ptr (.int .i64)) F.draw_New #[.pointer v12, .agg v23, (.int .i64 (IntKind.i64.wrap (1 - v25))), .int .i64 v27, .agg v29] (fun (v30 : Option Addr × Int) h =>
  if (v21.2 != 0) = true then
  R (.bool false) h
  else
  if (v30.2 != 0) = true then
  R (.bool false) h
  else
  callK Try.prog .slice F.draw_Draw_Say #[.pointer v30.1] (fun (v31 : Sl) h =>
  callK Try.prog (.int .i64) F.draw_Draw_Take #[.pointer v21.1, .slice v31.a v31.n v31.c] (fun (v32 : Int) h =>
  if (v32 != 0) = true then
  R (.bool false) h
  else
  callK Try.prog (.int .i64) F.draw_Draw_Phase #[.pointer v21.1] (fun (v33 : Int) h =>
  if (v33 != 2) = true then
  R (.bool false) h
  else
  fldK t_1 0 (fun (a_34 : Addr) =>
  loadAggK (sizeOfT Try.prog T.api_Tag) h ((some a_34)) (fun (v35 : Array Value) =>
  loadAggK (sizeOfT Try.prog T.api_Tag) h nonce_2 (fun (v36 : Array Value) =>
  buildK Try.prog (Instr.build T.api_Msg #[(0, (.int .i64 2)), (1, (.agg v35)), (2, (.int .i64 from3)), (4, (.int .i64 bit1)), (5, (.agg v36))]) (fun (v37 : Array Value) =>
  opK Try.prog .slice (Instr.buildSlice T.sl_api_Msg 1 #[(0, (.agg v37))]) (fun (v38 : Sl) h =>
  callK Try.prog (.int .i64) F.draw_Draw_Take #[.pointer v21.1, .slice v38.a v38.n v38.c] (fun (v39 : Int) h =>
  joinW (fun (s_40 : Bool) h =>
  if (s_40 == (v39 == 0)) = true then
  callK Try.prog (.int .i64) F.draw_Draw_Phase #[.pointer v21.1] (fun (v41 : Int) h =>
  R (.bool (s_40 == (v41 == 3))) h) h
  else
  R (.bool false) h)
  (fun J_42 =>
  fldK t_1 32 (fun (a_43 : Addr) =>
  loadK (.int .i64) h ((some a_43)) (fun (v44 : Int) =>
  if (from3 == (IntKind.i64.wrap (1 - v44))) = true then
  fldK t_1 34 (fun (a_45 : Addr) =>
  loadK (.int .i64) h ((some a_45)) (fun (v46 : Int) =>
  if (bit1 == v46) = true then
  loadAggK (sizeOfT Try.prog T.api_Tag) h nonce_2 (fun (v47 : Array Value) =>
  fldK t_1 67 (fun (a_48 : Addr) =>
  loadAggK (sizeOfT Try.prog T.api_Tag) h ((some a_48)) (fun (v49 : Array Value) =>
  eqK Try.prog (binSem .eql T.api_Tag (.tmp 104) (.tmp 106) (.agg v47) (.agg v49)) (fun (v50 : Bool) =>
  J_42 v50 h))))
  else
  J_42 false h))
  else
  J_42 false h)))) h) h))))) h) h) h) h))))))))) h))))))))) h))))))))) h))
def law23_DrawBinds.ann : Ann := (.seq .leaf (.seq (.seq .leaf (.cond (.seq .leaf .leaf) .leaf)) (.seq (.seq .leaf (.cond (.seq .leaf .leaf) .leaf)) (.seq .leaf (.seq .leaf (.seq .leaf (.seq (.seq .leaf (.cond (.seq .leaf .leaf) .leaf)) (.seq .leaf (.join [(15, .bool)] .leaf (.seq .leaf .leaf))))))))))
theorem law23_DrawBinds.eq (t0 : Array Value) (bit1 : Int) (nonce2 : Array Value) (from3 : Int) (R : Value → Heap → Prop) (h : Heap) : law23_DrawBinds.body t0 bit1 nonce2 from3 R h = evFn Try.prog Try.f4 law23_DrawBinds.ann [.agg t0, .int .i64 bit1, .agg nonce2, .int .i64 from3] R h := by kernel_rfl
theorem law23_DrawBinds.calls {t0 : Array Value} {bit1 : Int} {nonce2 : Array Value} {from3 : Int} {R : Value → Heap → Prop} {h : Heap} (H : law23_DrawBinds.body t0 bit1 nonce2 from3 R h) : HC Try.prog F.law23_DrawBinds #[.agg t0, .int .i64 bit1, .agg nonce2, .int .i64 from3] R h :=
  evFn_sound mixed Try.func4 (by kernel_rfl) (law23_DrawBinds.eq t0 bit1 nonce2 from3 R h ▸ H)

/-! zugzwang/msg.Right -/
def msg_Right.body (m0 : Array Value) (R : Value → Heap → Prop) (h : Heap) : Prop :=
  newK h m0 T.api_Msg (fun (m_1 : Option Addr) h =>
  fldK m_1 0 (fun (a_2 : Addr) =>
  loadK (.int .i64) h ((some a_2)) (fun (v3 : Int) =>
  fldK m_1 1 (fun (a_4 : Addr) =>
  loadAggK (sizeOfT Try.prog T.api_Tag) h ((some a_4)) (fun (v5 : Array Value) =>
  fldK m_1 33 (fun (a_6 : Addr) =>
  loadK (.int .i64) h ((some a_6)) (fun (v7 : Int) =>
  buildK Try.prog (Instr.build T.api_Msg #[(0, (.int .i64 v3)), (1, (.agg v5)), (2, (.int .i64 v7))]) (fun (v8 : Array Value) =>
  newK h (zerosOf Try.prog T.api_Msg) T.api_Msg (fun (has_9 : Option Addr) h =>
  storeAggK (sizeOfT Try.prog T.api_Msg) h has_9 v8 (fun h =>
  joinW (fun (s_10 : Bool) h =>
  if s_10 = true then
  fldK m_1 33 (fun (a_11 : Addr) =>
  loadK (.int .i64) h ((some a_11)) (fun (v12 : Int) =>
  callK Try.prog .bool F.msg_bit #[.int .i64 v12] (fun (v13 : Bool) h =>
  if v13 = true then
  loadAggK (sizeOfT Try.prog T.api_Msg) h has_9 (fun (v14 : Array Value) =>
  loadAggK (sizeOfT Try.prog T.api_Msg) h m_1 (fun (v15 : Array Value) =>
  eqK Try.prog (binSem .eql T.api_Msg (.tmp 56) (.tmp 57) (.agg v14) (.agg v15)) (fun (v16 : Bool) =>
  R (.bool v16) h)))
  else
  R (.bool false) h) h))
  else
  R (.bool false) h)
  (fun J_17 =>
  fldK m_1 0 (fun (a_18 : Addr) =>
  loadK (.int .i64) h ((some a_18)) (fun (v19 : Int) =>
  if (v19 == 1) = true then
  fldK m_1 34 (fun (a_20 : Addr) =>
  loadAggK (sizeOfT Try.prog T.api_Tag) h ((some a_20)) (fun (v21 : Array Value) =>
  fldK has_9 34 (fun (a_22 : Addr) =>
  storeAggK (sizeOfT Try.prog T.api_Tag) h ((some a_22)) v21 (fun h =>
  J_17 true h))))
  else
  if (v19 == 2) = true then
  fldK m_1 66 (fun (a_23 : Addr) =>
  fldK m_1 67 (fun (a_24 : Addr) =>
  fldK m_1 66 (fun (a_25 : Addr) =>
  loadK (.int .i64) h ((some a_23)) (fun (v26 : Int) =>
  fldK has_9 66 (fun (a_27 : Addr) =>
  loadAggK (sizeOfT Try.prog T.api_Tag) h ((some a_24)) (fun (v28 : Array Value) =>
  loadK (.int .i64) h ((some a_25)) (fun (v29 : Int) =>
  callK Try.prog .bool F.msg_bit #[.int .i64 v29] (fun (v30 : Bool) h =>
  stillAggK (sizeOfT Try.prog T.api_Tag) h ((some a_24)) v28 ∧
  stillK (.int .i64) h ((some a_23)) v26 ∧
  storeK h ((some a_27)) (.int .i64 v26) (fun h =>
  stillAggK (sizeOfT Try.prog T.api_Tag) h ((some a_24)) v28 ∧
  fldK has_9 67 (fun (a_31 : Addr) =>
  storeAggK (sizeOfT Try.prog T.api_Tag) h ((some a_31)) v28 (fun h =>
  J_17 v30 h)))) h)))))))
  else
  if (v19 == 3) = true then
  fldK m_1 99 (fun (a_32 : Addr) =>
  fldK m_1 99 (fun (a_33 : Addr) =>
  fldK has_9 33 (fun (a_34 : Addr) =>
  loadAggK (sizeOfT Try.prog T.api_Entry) h ((some a_32)) (fun (v35 : Array Value) =>
  loadAggK (sizeOfT Try.prog T.api_Entry) h ((some a_33)) (fun (v36 : Array Value) =>
  callK Try.prog .bool F.msg_Entry #[.agg v36] (fun (v37 : Bool) h =>
  stillAggK (sizeOfT Try.prog T.api_Entry) h ((some a_32)) v35 ∧
  if v37 = true then
  fldK m_1 99 (fun (a_38 : Addr) =>
  fldK ((some a_38)) 0 (fun (a_39 : Addr) =>
  fldK m_1 1 (fun (a_40 : Addr) =>
  loadAggK (sizeOfT Try.prog T.api_Tag) h ((some a_39)) (fun (v41 : Array Value) =>
  loadAggK (sizeOfT Try.prog T.api_Tag) h ((some a_40)) (fun (v42 : Array Value) =>
  eqK Try.prog (binSem .eql T.api_Tag (.tmp 40) (.tmp 42) (.agg v41) (.agg v42)) (fun (v43 : Bool) =>
  storeK h ((some a_34)) (.int .i64 0) (fun h =>
  stillAggK (sizeOfT Try.prog T.api_Tag) h ((some a_40)) v42 ∧
  stillAggK (sizeOfT Try.prog T.api_Tag) h ((some a_39)) v41 ∧
  stillAggK (sizeOfT Try.prog T.api_Entry) h ((some a_32)) v35 ∧
  fldK has_9 99 (fun (a_44 : Addr) =>
  storeAggK (sizeOfT Try.prog T.api_Entry) h ((some a_44)) v35 (fun h =>
  stillAggK (sizeOfT Try.prog T.api_Tag) h ((some a_40)) v42 ∧
  stillAggK (sizeOfT Try.prog T.api_Tag) h ((some a_39)) v41 ∧
  J_17 v43 h)))))))))
  else
  storeK h ((some a_34)) (.int .i64 0) (fun h =>
  stillAggK (sizeOfT Try.prog T.api_Entry) h ((some a_32)) v35 ∧
  fldK has_9 99 (fun (a_45 : Addr) =>
  storeAggK (sizeOfT Try.prog T.api_Entry) h ((some a_45)) v35 (fun h =>
  J_17 false h)))) h)))))
  else
  if (v19 == 4) = true then
  J_17 true h
  else
  R (.bool false) h)))))))))))))
def msg_Right.ann : Ann := (.seq .leaf (.seq .leaf (.seq .leaf (.join [(4, .bool)] (.seq .leaf (.block (.seq .leaf (.cond .leaf (.seq .leaf (.cond (.any (.loc 0 (.loc 2 (.loc 4 (.st 1 3968 (.loc 7 (.st 3 3584 (.st 5 3904 (.last 6 (.last 8 (.loc 9 (.last 10 (.loc 11 .done))))))))))))) (.seq .leaf (.cond (.any (.loc 0 (.loc 2 (.loc 13 (.st 1 229376 (.st 3 253936 (.last 4 (.loc 5 (.locA 6 (.loc 7 (.loc 9 (.st 8 137216 (.st 10 137216 (.loc 11 (.loc 12 (.last 14 (.loc 15 (.last 16 (.loc 17 .done)))))))))) (.loc 7 (.loc 8 (.loc 9 (.loc 10 (.loc 11 (.loc 12 (.last 14 (.loc 15 (.last 16 (.loc 17 .done))))))))))))))))))) (.seq .leaf (.cond .leaf (.seq .leaf .leaf))))))))))) (.seq .leaf .leaf)))))
theorem msg_Right.eq (m0 : Array Value) (R : Value → Heap → Prop) (h : Heap) : msg_Right.body m0 R h = evFn Try.prog Try.f22 msg_Right.ann [.agg m0] R h := by kernel_rfl
theorem msg_Right.calls {m0 : Array Value} {R : Value → Heap → Prop} {h : Heap} (H : msg_Right.body m0 R h) : HC Try.prog F.msg_Right #[.agg m0] R h :=
  evFn_sound mixed Try.func22 (by kernel_rfl) (msg_Right.eq m0 R h ▸ H)

/-! zugzwang/codec.put[zugzwang/api.Tag] -/
def codec_put_api_Tag.body (w0 : Option Addr) (r1 : Array Value) (l2 : Sl) (R : Value → Heap → Prop) (h : Heap) : Prop :=
  newK h r1 T.codec_ruleaapi_Tag (fun (r1 : Option Addr) h =>
  if w0.isNone = true then
  R (.int .i64 1) h
  else
  derefK w0 (fun (a_2 : Addr) =>
  fldK ((some a_2)) 0 (fun (a_3 : Addr) =>
  fldK ((some a_3)) 0 (fun (a_4 : Addr) =>
  loadK .bool h ((some a_4)) (fun (v5 : Bool) =>
  if (!v5) = true then
  R (.int .i64 1) h
  else
  joinW (fun (s_6 : Unit) h =>
  derefK w0 (fun (a_7 : Addr) =>
  fldK ((some a_7)) 0 (fun (a_8 : Addr) =>
  fldK ((some a_8)) 1 (fun (a_9 : Addr) =>
  loadK (.int .i64) h ((some a_9)) (fun (v10 : Int) =>
  R (.int .i64 v10) h)))))
  (fun J_11 =>
  loopW (fun X_13 (s_12 : Int) (h : Heap) =>
  if (decide (s_12 < ((l2.n : Int)))) = true then
  idxK l2 s_12 (sizeOfT Try.prog T.api_Tag) (fun (a_14 : Addr) =>
  loadAggK (sizeOfT Try.prog T.api_Tag) h ((some a_14)) (fun (v15 : Array Value) =>
  newK h (zerosOf Try.prog T.api_Tag) T.api_Tag (fun (x_16 : Option Addr) h =>
  storeAggK (sizeOfT Try.prog T.api_Tag) h x_16 v15 (fun h =>
  derefK w0 (fun (a_17 : Addr) =>
  fldK ((some a_17)) 0 (fun (a_18 : Addr) =>
  callK Try.prog .bool F.codec_state_sound #[(.pointer ((some a_18)))] (fun (v19 : Bool) h =>
  if (!v19) = true then
  J_11 () h
  else
  joinW (fun (s_20 : Bool) h =>
  if s_20 = true then
  derefK w0 (fun (a_21 : Addr) =>
  fldK ((some a_21)) 0 (fun (a_22 : Addr) =>
  callK Try.prog (.int .i64) F.codec_state_spoil #[(.pointer ((some a_22))), .int .i64 2] (fun (v23 : Int) h =>
  R (.int .i64 v23) h) h))
  else
  fldK r1 1 (fun (a_24 : Addr) =>
  loadK .any h ((some a_24)) (fun (v25 : Value) =>
  loadAggK (sizeOfT Try.prog T.api_Tag) h x_16 (fun (v26 : Array Value) =>
  callV Try.prog .slice v25 #[.agg v26] (fun (v27 : Sl) h =>
  derefK w0 (fun (a_28 : Addr) =>
  fldK ((some a_28)) 2 (fun (a_29 : Addr) =>
  loadK .slice h ((some a_29)) (fun (v30 : Sl) =>
  if (decide ((IntKind.i64.wrap (((v30.n : Int)) + ((v27.n : Int)))) > 65536)) = true then
  derefK w0 (fun (a_31 : Addr) =>
  fldK ((some a_31)) 0 (fun (a_32 : Addr) =>
  callK Try.prog (.int .i64) F.codec_state_spoil #[(.pointer ((some a_32))), .int .i64 3] (fun (v33 : Int) h =>
  R (.int .i64 v33) h) h))
  else
  derefK w0 (fun (a_34 : Addr) =>
  fldK ((some a_34)) 2 (fun (a_35 : Addr) =>
  loadK .slice h ((some a_35)) (fun (v36 : Sl) =>
  opK Try.prog .slice (Builtin.append_ #[T.sl_uint8, T.sl_uint8] T.sl_uint8 #[.slice v36.a v36.n v36.c, .slice v27.a v27.n v27.c]) (fun (v37 : Sl) h =>
  derefK w0 (fun (a_38 : Addr) =>
  fldK ((some a_38)) 2 (fun (a_39 : Addr) =>
  storeK h ((some a_39)) (.slice v37.a v37.n v37.c) (fun h =>
  X_13 (IntKind.i64.wrap (s_12 + 1)) h)))) h))))))) h))))
  (fun J_40 =>
  fldK r1 0 (fun (a_41 : Addr) =>
  loadK .any h ((some a_41)) (fun (v42 : Value) =>
  eqK Try.prog (binSem .neq T.func162 (.tmp 32) (.const Value.nilFunc) v42 Value.nilFunc) (fun (v43 : Bool) =>
  if v43 = true then
  fldK r1 0 (fun (a_44 : Addr) =>
  loadK .any h ((some a_44)) (fun (v45 : Value) =>
  loadAggK (sizeOfT Try.prog T.api_Tag) h x_16 (fun (v46 : Array Value) =>
  callV Try.prog .bool v45 #[.agg v46] (fun (v47 : Bool) h =>
  J_40 (!v47) h) h)))
  else
  J_40 false h))))) h))))))
  else
  J_11 () h) 0 h))))))
def codec_put_api_Tag.ann : Ann := (.seq .leaf (.seq (.seq .leaf (.cond (.seq .leaf .leaf) .leaf)) (.join [] (.seq .leaf (.block (.loop [(22, (.int .i64))] (.seq .leaf (.seq (.cond .leaf .leaf) (.seq (.block (.seq .leaf (.seq (.seq .leaf (.cond .leaf .leaf)) (.seq (.join [(40, .bool)] .leaf (.cond (.seq .leaf .leaf) .leaf)) (.seq .leaf (.seq (.seq .leaf (.cond (.seq .leaf .leaf) .leaf)) .leaf)))))) .leaf)))))) (.seq .leaf .leaf))))
theorem codec_put_api_Tag.eq (w0 : Option Addr) (r1 : Array Value) (l2 : Sl) (R : Value → Heap → Prop) (h : Heap) : codec_put_api_Tag.body w0 r1 l2 R h = evFn Try.prog Try.f75 codec_put_api_Tag.ann [.pointer w0, .agg r1, .slice l2.a l2.n l2.c] R h := by kernel_rfl
theorem codec_put_api_Tag.calls {w0 : Option Addr} {r1 : Array Value} {l2 : Sl} {R : Value → Heap → Prop} {h : Heap} (H : codec_put_api_Tag.body w0 r1 l2 R h) : HC Try.prog F.codec_put_api_Tag #[.pointer w0, .agg r1, .slice l2.a l2.n l2.c] R h :=
  evFn_sound mixed Try.func75 (by kernel_rfl) (codec_put_api_Tag.eq w0 r1 l2 R h ▸ H)

/-! (*zugzwang/tags.Maker).Draw -/
def tags_Maker_Draw.body (m0 : Option Addr) (k1 : Int) (R : Value → Heap → Prop) (h : Heap) : Prop :=
  newK h (zerosOf Try.prog T.api_Tag) T.api_Tag (fun (v1 : Option Addr) h =>
  callK Try.prog .bool F.tags_Maker_there #[.pointer m0] (fun (v2 : Bool) h =>
  if (!v2) = true then
  buildK Try.prog (Instr.build T.api_Tag #[]) (fun (v3 : Array Value) =>
  storeAggK (sizeOfT Try.prog T.api_Tag) h v1 v3 (fun h =>
  quietK Try.prog .agg (Instr.loadAt T.api_Tag (.pointer v1)) (fun r4 =>
  R (.agg r4) h) h))
  else
  derefK m0 (fun (a_5 : Addr) =>
  fldK ((some a_5)) 1 (fun (a_6 : Addr) =>
  loadK .bool h ((some a_6)) (fun (v7 : Bool) =>
  if v7 = true then
  derefK m0 (fun (a_8 : Addr) =>
  fldK ((some a_8)) 2 (fun (a_9 : Addr) =>
  loadK .slice h ((some a_9)) (fun (v10 : Sl) =>
  ((newSlK h 4 #[.int .u8 100, .int .u8 114, .int .u8 97, .int .u8 119] T.uint8 (fun v11 h =>
  ((opK Try.prog .slice (convert T.sl_uint8 T.sl_uint8 (.slice v11.a v11.n v11.c)) (fun (v12 : Sl) h =>
  callK Try.prog .slice F.tags_eight #[.int .i64 k1] (fun (v13 : Sl) h =>
  stillK .slice h ((some a_9)) v10 ∧
  newSlK h 3 #[.slice v12.a v12.n v12.c, .slice v10.a v10.n v10.c, .slice v13.a v13.n v13.c] T.sl_uint8 (fun v14 h =>
  callK Try.prog .agg F.digest_Of #[.slice v14.a v14.n v14.c] (fun (v15 : Array Value) h =>
  storeAggK (sizeOfT Try.prog T.api_Tag) h v1 v15 (fun h =>
  quietK Try.prog .agg (Instr.loadAt T.api_Tag (.pointer v1)) (fun r16 =>
  R (.agg r16) h) h)) h)) h) h) ∧
  (callK Try.prog .slice F.tags_eight #[.int .i64 k1] (fun (v17 : Sl) h =>
  stillK .slice h ((some a_9)) v10 ∧
  opK Try.prog .slice (convert T.sl_uint8 T.sl_uint8 (.slice v11.a v11.n v11.c)) (fun (v18 : Sl) h =>
  newSlK h 3 #[.slice v18.a v18.n v18.c, .slice v10.a v10.n v10.c, .slice v17.a v17.n v17.c] T.sl_uint8 (fun v19 h =>
  callK Try.prog .agg F.digest_Of #[.slice v19.a v19.n v19.c] (fun (v20 : Array Value) h =>
  storeAggK (sizeOfT Try.prog T.api_Tag) h v1 v20 (fun h =>
  quietK Try.prog .agg (Instr.loadAt T.api_Tag (.pointer v1)) (fun r21 =>
  R (.agg r21) h) h)) h)) h) h)))) ∧
  (callK Try.prog .slice F.tags_eight #[.int .i64 k1] (fun (v22 : Sl) h =>
  stillK .slice h ((some a_9)) v10 ∧
  newSlK h 4 #[.int .u8 100, .int .u8 114, .int .u8 97, .int .u8 119] T.uint8 (fun v23 h =>
  opK Try.prog .slice (convert T.sl_uint8 T.sl_uint8 (.slice v23.a v23.n v23.c)) (fun (v24 : Sl) h =>
  newSlK h 3 #[.slice v24.a v24.n v24.c, .slice v10.a v10.n v10.c, .slice v22.a v22.n v22.c] T.sl_uint8 (fun v25 h =>
  callK Try.prog .agg F.digest_Of #[.slice v25.a v25.n v25.c] (fun (v26 : Array Value) h =>
  storeAggK (sizeOfT Try.prog T.api_Tag) h v1 v26 (fun h =>
  quietK Try.prog .agg (Instr.loadAt T.api_Tag (.pointer v1)) (fun r27 =>
  R (.agg r27) h) h)) h)) h)) h)))))
  else
  derefK m0 (fun (a_28 : Addr) =>
  fldK ((some a_28)) 0 (fun (a_29 : Addr) =>
  loadAggK (sizeOfT Try.prog T.tags_book) h ((some a_29)) (fun (v30 : Array Value) =>
  buildK Try.prog (Instr.build T.tags_thing #[(0, (.int .u8 100)), (3, (.int .i64 k1))]) (fun (v31 : Array Value) =>
  callK Try.prog .agg F.tags_book_ask #[.agg v30, .agg v31] (fun (v32 : Array Value) h =>
  storeAggK (sizeOfT Try.prog T.api_Tag) h v1 v32 (fun h =>
  quietK Try.prog .agg (Instr.loadAt T.api_Tag (.pointer v1)) (fun r33 =>
  R (.agg r33) h) h)) h)))))))) h)
def tags_Maker_Draw.ann : Ann := (.seq .leaf (.seq (.block (.seq .leaf (.cond (.seq .leaf .leaf) (.seq .leaf (.cond (.seq (.any (.loc 2 (.loc 3 (.loc 4 (.loc 6 (.st 5 1792 (.alt 0 (.alt 1 (.last 7 (.last 8 (.last 9 (.last 10 .done)))) (.last 7 (.last 1 (.last 8 (.last 9 (.last 10 .done)))))) (.last 7 (.last 0 (.last 1 (.last 8 (.last 9 (.last 10 .done))))))))))))) .leaf) .leaf))))) (.seq .leaf .leaf)))
theorem tags_Maker_Draw.eq (m0 : Option Addr) (k1 : Int) (R : Value → Heap → Prop) (h : Heap) : tags_Maker_Draw.body m0 k1 R h = evFn Try.prog Try.f15 tags_Maker_Draw.ann [.pointer m0, .int .i64 k1] R h := by kernel_rfl
theorem tags_Maker_Draw.calls {m0 : Option Addr} {k1 : Int} {R : Value → Heap → Prop} {h : Heap} (H : tags_Maker_Draw.body m0 k1 R h) : HC Try.prog F.tags_Maker_Draw #[.pointer m0, .int .i64 k1] R h :=
  evFn_sound mixed Try.func15 (by kernel_rfl) (tags_Maker_Draw.eq m0 k1 R h ▸ H)

/-! zugzwang/zugzwanglaw23.DrawFair -/
def law23_DrawFair.body (t0 : Array Value) (l1 : Sl) (R : Value → Heap → Prop) (h : Heap) : Prop :=
  newK h t0 T.zugzwanglaw23_Toss (fun (t_1 : Option Addr) h =>
  callK Try.prog .bool F.law23_awake #[] (fun (v2 : Bool) h =>
  if (!v2) = true then
  R (.bool false) h
  else
  if (decide (((l1.n : Int)) > 120)) = true then
  R (.bool true) h
  else
  fldK t_1 32 (fun (a_3 : Addr) =>
  loadK (.int .i64) h ((some a_3)) (fun (v4 : Int) =>
  if (decide (v4 < 0)) = true then
  R (.bool true) h
  else
  fldK t_1 32 (fun (a_5 : Addr) =>
  loadK (.int .i64) h ((some a_5)) (fun (v6 : Int) =>
  if (decide (v6 > 1)) = true then
  R (.bool true) h
  else
  loadAggK (sizeOfT Try.prog T.zugzwanglaw23_Toss) h t_1 (fun (v7 : Array Value) =>
  callK Try.prog (Kd.pair .ptr .slice) F.law23_run #[.agg v7, .int .i64 0, .slice l1.a l1.n l1.c] (fun (v8 : Option Addr × Sl) h =>
  loadAggK (sizeOfT Try.prog T.zugzwanglaw23_Toss) h t_1 (fun (v9 : Array Value) =>
  callK Try.prog (Kd.pair .ptr .slice) F.law23_run #[.agg v9, .int .i64 1, .slice l1.a l1.n l1.c] (fun (v10 : Option Addr × Sl) h =>
  if v8.1.isNone = true then
  R (.bool false) h
  else
  if v10.1.isNone = true then
  R (.bool false) h
  else
  callK Try.prog (.int .i64) F.draw_Draw_Phase #[.pointer v8.1] (fun (v11 : Int) h =>
  callK Try.prog (.int .i64) F.draw_Draw_Phase #[.pointer v10.1] (fun (v12 : Int) h =>
  if (v11 != v12) = true then
  R (.bool false) h
  else
  if (((v8.2.n : Int)) != ((l1.n : Int))) = true then
  R (.bool false) h
  else
  loopW (fun X_14 (s_13 : Int) (h : Heap) =>
  if (decide (s_13 < ((l1.n : Int)))) = true then
  idxK v8.2 s_13 (sizeOfT Try.prog T.api_Errno) (fun (a_15 : Addr) =>
  loadK (.int .i64) h ((some a_15)) (fun (v16 : Int) =>
  idxK v10.2 s_13 (sizeOfT Try.prog T.api_Errno) (fun (a_17 : Addr) =>
  loadK (.int .i64) h ((some a_17)) (fun (v18 : Int) =>
  if (v16 != v18) = true then
  R (.bool false) h
  else
  X_14 (IntKind.i64.wrap (s_13 + 1)) h))))
  else
  callK Try.prog (Kd.pair (.int .i64) .bool) F.draw_Draw_White #[.pointer v8.1] (fun (v19 : Int × Bool) h =>
  callK Try.prog (Kd.pair (.int .i64) .bool) F.draw_Draw_White #[.pointer v10.1] (fun (v20 : Int × Bool) h =>
  callK Try.prog (Kd.pair (.int .i64) .bool) F.draw_Draw_Side #[.pointer v8.1] (fun (v21 : Int × Bool) h =>
  callK Try.prog (Kd.pair (.int .i64) .bool) F.draw_Draw_Side #[.pointer v10.1] (fun (v22 : Int × Bool) h =>
  callK Try.prog (.int .i64) F.draw_Draw_Phase #[.pointer v8.1] (fun (v23 : Int) h =>
  if (v23 != 3) = true then
  if (!v19.2) = true then
  if (!v20.2) = true then
  if (!v21.2) = true then
  R (.bool (!v22.2)) h
  else
  R (.bool false) h
  else
  R (.bool false) h
  else
  R (.bool false) h
  else
  if v19.2 = true then
  if v20.2 = true then
  if v21.2 = true then
  if v22.2 = true then
  if (v19.1 == (IntKind.i64.wrap (1 - v20.1))) = true then
  R (.bool (v21.1 != v22.1)) h
  else
  R (.bool false) h
  else
  R (.bool false) h
  else
  R (.bool false) h
  else
  R (.bool false) h
  else
  R (.bool false) h) h) h) h) h) h) 0 h) h) h) h)) h)))))) h)
def law23_DrawFair.ann : Ann := (.seq .leaf (.seq (.seq .leaf (.cond (.seq .leaf .leaf) .leaf)) (.seq (.seq .leaf (.cond (.seq .leaf .leaf) .leaf)) (.seq .leaf (.seq .leaf (.seq (.seq .leaf (.cond (.seq .leaf .leaf) .leaf)) (.seq (.seq .leaf (.block (.loop [(9, (.int .i64))] (.seq (.seq .leaf (.cond .leaf .leaf)) (.seq (.block (.seq .leaf (.cond (.seq .leaf .leaf) .leaf))) .leaf))))) (.seq .leaf (.seq .leaf (.seq .leaf (.seq .leaf (.seq (.seq .leaf (.cond (.seq .leaf .leaf) .leaf)) (.seq .leaf .leaf)))))))))))))
theorem law23_DrawFair.eq (t0 : Array Value) (l1 : Sl) (R : Value → Heap → Prop) (h : Heap) : law23_DrawFair.body t0 l1 R h = evFn Try.prog Try.f3 law23_DrawFair.ann [.agg t0, .slice l1.a l1.n l1.c] R h := by kernel_rfl
theorem law23_DrawFair.calls {t0 : Array Value} {l1 : Sl} {R : Value → Heap → Prop} {h : Heap} (H : law23_DrawFair.body t0 l1 R h) : HC Try.prog F.law23_DrawFair #[.agg t0, .slice l1.a l1.n l1.c] R h :=
  evFn_sound mixed Try.func3 (by kernel_rfl) (law23_DrawFair.eq t0 l1 R h ▸ H)

/-! zugzwang/codec.put[[]byte] -/
def codec_put_byte.body (w0 : Option Addr) (r1 : Array Value) (l2 : Sl) (R : Value → Heap → Prop) (h : Heap) : Prop :=
  newK h r1 T.codec_ruleasl_byte (fun (r1 : Option Addr) h =>
  if w0.isNone = true then
  R (.int .i64 1) h
  else
  derefK w0 (fun (a_2 : Addr) =>
  fldK ((some a_2)) 0 (fun (a_3 : Addr) =>
  fldK ((some a_3)) 0 (fun (a_4 : Addr) =>
  loadK .bool h ((some a_4)) (fun (v5 : Bool) =>
  if (!v5) = true then
  R (.int .i64 1) h
  else
  joinW (fun (s_6 : Unit) h =>
  derefK w0 (fun (a_7 : Addr) =>
  fldK ((some a_7)) 0 (fun (a_8 : Addr) =>
  fldK ((some a_8)) 1 (fun (a_9 : Addr) =>
  loadK (.int .i64) h ((some a_9)) (fun (v10 : Int) =>
  R (.int .i64 v10) h)))))
  (fun J_11 =>
  loopW (fun X_13 (s_12 : Int) (h : Heap) =>
  if (decide (s_12 < ((l2.n : Int)))) = true then
  idxK l2 s_12 (sizeOfT Try.prog T.sl_uint8) (fun (a_14 : Addr) =>
  loadK .slice h ((some a_14)) (fun (v15 : Sl) =>
  derefK w0 (fun (a_16 : Addr) =>
  fldK ((some a_16)) 0 (fun (a_17 : Addr) =>
  callK Try.prog .bool F.codec_state_sound #[(.pointer ((some a_17)))] (fun (v18 : Bool) h =>
  if (!v18) = true then
  J_11 () h
  else
  joinW (fun (s_19 : Bool) h =>
  if s_19 = true then
  derefK w0 (fun (a_20 : Addr) =>
  fldK ((some a_20)) 0 (fun (a_21 : Addr) =>
  callK Try.prog (.int .i64) F.codec_state_spoil #[(.pointer ((some a_21))), .int .i64 2] (fun (v22 : Int) h =>
  R (.int .i64 v22) h) h))
  else
  fldK r1 1 (fun (a_23 : Addr) =>
  loadK .any h ((some a_23)) (fun (v24 : Value) =>
  callV Try.prog .slice v24 #[.slice v15.a v15.n v15.c] (fun (v25 : Sl) h =>
  derefK w0 (fun (a_26 : Addr) =>
  fldK ((some a_26)) 2 (fun (a_27 : Addr) =>
  loadK .slice h ((some a_27)) (fun (v28 : Sl) =>
  if (decide ((IntKind.i64.wrap (((v28.n : Int)) + ((v25.n : Int)))) > 65536)) = true then
  derefK w0 (fun (a_29 : Addr) =>
  fldK ((some a_29)) 0 (fun (a_30 : Addr) =>
  callK Try.prog (.int .i64) F.codec_state_spoil #[(.pointer ((some a_30))), .int .i64 3] (fun (v31 : Int) h =>
  R (.int .i64 v31) h) h))
  else
  derefK w0 (fun (a_32 : Addr) =>
  fldK ((some a_32)) 2 (fun (a_33 : Addr) =>
  loadK .slice h ((some a_33)) (fun (v34 : Sl) =>
  opK Try.prog .slice (Builtin.append_ #[T.sl_uint8, T.sl_uint8] T.sl_uint8 #[.slice v34.a v34.n v34.c, .slice v25.a v25.n v25.c]) (fun (v35 : Sl) h =>
  derefK w0 (fun (a_36 : Addr) =>
  fldK ((some a_36)) 2 (fun (a_37 : Addr) =>
  storeK h ((some a_37)) (.slice v35.a v35.n v35.c) (fun h =>
  X_13 (IntKind.i64.wrap (s_12 + 1)) h)))) h))))))) h)))
  (fun J_38 =>
  fldK r1 0 (fun (a_39 : Addr) =>
  loadK .any h ((some a_39)) (fun (v40 : Value) =>
  eqK Try.prog (binSem .neq T.func156 (.tmp 32) (.const Value.nilFunc) v40 Value.nilFunc) (fun (v41 : Bool) =>
  if v41 = true then
  fldK r1 0 (fun (a_42 : Addr) =>
  loadK .any h ((some a_42)) (fun (v43 : Value) =>
  callV Try.prog .bool v43 #[.slice v15.a v15.n v15.c] (fun (v44 : Bool) h =>
  J_38 (!v44) h) h))
  else
  J_38 false h))))) h))))
  else
  J_11 () h) 0 h))))))
def codec_put_byte.ann : Ann := (.seq .leaf (.seq (.seq .leaf (.cond (.seq .leaf .leaf) .leaf)) (.join [] (.seq .leaf (.block (.loop [(22, (.int .i64))] (.seq .leaf (.seq (.cond .leaf .leaf) (.seq (.block (.seq .leaf (.seq (.seq .leaf (.cond .leaf .leaf)) (.seq (.join [(40, .bool)] .leaf (.cond (.seq .leaf .leaf) .leaf)) (.seq .leaf (.seq (.seq .leaf (.cond (.seq .leaf .leaf) .leaf)) .leaf)))))) .leaf)))))) (.seq .leaf .leaf))))
theorem codec_put_byte.eq (w0 : Option Addr) (r1 : Array Value) (l2 : Sl) (R : Value → Heap → Prop) (h : Heap) : codec_put_byte.body w0 r1 l2 R h = evFn Try.prog Try.f72 codec_put_byte.ann [.pointer w0, .agg r1, .slice l2.a l2.n l2.c] R h := by kernel_rfl
theorem codec_put_byte.calls {w0 : Option Addr} {r1 : Array Value} {l2 : Sl} {R : Value → Heap → Prop} {h : Heap} (H : codec_put_byte.body w0 r1 l2 R h) : HC Try.prog F.codec_put_byte #[.pointer w0, .agg r1, .slice l2.a l2.n l2.c] R h :=
  evFn_sound mixed Try.func72 (by kernel_rfl) (codec_put_byte.eq w0 r1 l2 R h ▸ H)

/-! (*zugzwang/draw.Draw).revealed -/
def draw_Draw_revealed.body (d0 : Option Addr) (x1 : Array Value) (R : Value → Heap → Prop) (h : Heap) : Prop :=
  newK h x1 T.api_Msg (fun (x_1 : Option Addr) h =>
  joinW (fun (s_2 : Bool) h =>
  if s_2 = true then
  R (.int .i64 18) h
  else
  derefK d0 (fun (a_3 : Addr) =>
  fldK ((some a_3)) 0 (fun (a_4 : Addr) =>
  fldK ((some a_4)) 0 (fun (a_5 : Addr) =>
  derefK d0 (fun (a_6 : Addr) =>
  fldK ((some a_6)) 99 (fun (a_7 : Addr) =>
  fldK ((some a_7)) 0 (fun (a_8 : Addr) =>
  derefK d0 (fun (a_9 : Addr) =>
  fldK ((some a_9)) 0 (fun (a_10 : Addr) =>
  fldK ((some a_10)) 1 (fun (a_11 : Addr) =>
  fldK x_1 33 (fun (a_12 : Addr) =>
  fldK x_1 66 (fun (a_13 : Addr) =>
  fldK x_1 67 (fun (a_14 : Addr) =>
  loadK .ptr h ((some a_5)) (fun (v15 : Option Addr) =>
  loadAggK (sizeOfT Try.prog T.api_Tag) h ((some a_8)) (fun (v16 : Array Value) =>
  loadAggK (sizeOfT Try.prog T.api_Tag) h ((some a_11)) (fun (v17 : Array Value) =>
  loadK (.int .i64) h ((some a_12)) (fun (v18 : Int) =>
  loadK (.int .i64) h ((some a_13)) (fun (v19 : Int) =>
  loadAggK (sizeOfT Try.prog T.api_Tag) h ((some a_14)) (fun (v20 : Array Value) =>
  callK Try.prog (.int .i64) F.commit_OpenCoin #[.pointer v15, .agg v16, .agg v17, .int .i64 v18, .int .i64 v19, .agg v20] (fun (v21 : Int) h =>
  if (v21 != 0) = true then
  R (.int .i64 16) h
  else
  derefK d0 (fun (a_22 : Addr) =>
  fldK ((some a_22)) 133 (fun (a_23 : Addr) =>
  loadK (.int .i64) h ((some a_23)) (fun (v24 : Int) =>
  if (v24 == 3) = true then
  R (.int .i64 12) h
  else
  fldK x_1 66 (fun (a_25 : Addr) =>
  derefK d0 (fun (a_26 : Addr) =>
  fldK ((some a_26)) 133 (fun (a_27 : Addr) =>
  loadK (.int .i64) h ((some a_25)) (fun (v28 : Int) =>
  storeK h ((some a_27)) (.int .i64 3) (fun h =>
  stillK (.int .i64) h ((some a_25)) v28 ∧
  derefK d0 (fun (a_29 : Addr) =>
  fldK ((some a_29)) 99 (fun (a_30 : Addr) =>
  fldK ((some a_30)) 32 (fun (a_31 : Addr) =>
  storeK h ((some a_31)) (.int .i64 v28) (fun h =>
  R (.int .i64 0) h))))))))))))) h)))))))))))))))))))
  (fun J_32 =>
  derefK d0 (fun (a_33 : Addr) =>
  fldK ((some a_33)) 133 (fun (a_34 : Addr) =>
  loadK (.int .i64) h ((some a_34)) (fun (v35 : Int) =>
  if (v35 == 4) = true then
  J_32 (v35 == 4) h
  else
  derefK d0 (fun (a_36 : Addr) =>
  fldK ((some a_36)) 133 (fun (a_37 : Addr) =>
  loadK (.int .i64) h ((some a_37)) (fun (v38 : Int) =>
  J_32 (v38 == 1) h))))))))
def draw_Draw_revealed.ann : Ann := (.seq .leaf (.seq (.block (.join [(5, .bool)] (.seq .leaf (.cond .leaf .leaf)) (.cond (.seq .leaf .leaf) (.seq (.any (.loc 0 (.loc 1 (.loc 2 (.loc 3 (.loc 5 (.loc 6 (.loc 7 (.loc 8 (.loc 10 (.loc 11 (.loc 12 (.loc 13 (.loc 15 (.loc 17 (.loc 19 (.st 4 14680064 (.st 9 14680064 (.st 14 14680064 (.st 16 14680064 (.st 18 14680064 (.st 20 14680064 (.last 21 (.loc 22 (.loc 23 .done))))))))))))))))))))))))) (.cond (.seq .leaf .leaf) (.seq .leaf (.cond (.seq .leaf .leaf) .leaf))))))) (.seq (.any (.loc 0 (.loc 1 (.loc 2 (.loc 4 (.loc 5 (.st 3 1920 (.last 6 (.loc 7 (.loc 8 (.loc 9 (.last 10 .done)))))))))))) (.seq .leaf .leaf))))
theorem draw_Draw_revealed.eq (d0 : Option Addr) (x1 : Array Value) (R : Value → Heap → Prop) (h : Heap) : draw_Draw_revealed.body d0 x1 R h = evFn Try.prog Try.f32 draw_Draw_revealed.ann [.pointer d0, .agg x1] R h := by kernel_rfl
theorem draw_Draw_revealed.calls {d0 : Option Addr} {x1 : Array Value} {R : Value → Heap → Prop} {h : Heap} (H : draw_Draw_revealed.body d0 x1 R h) : HC Try.prog F.draw_Draw_revealed #[.pointer d0, .agg x1] R h :=
  evFn_sound mixed Try.func32 (by kernel_rfl) (draw_Draw_revealed.eq d0 x1 R h ▸ H)

/-! (*zugzwang/draw.Draw).Take -/
def draw_Draw_Take.body (d0 : Option Addr) (l1 : Sl) (R : Value → Heap → Prop) (h : Heap) : Prop :=
  callK Try.prog .bool F.draw_Draw_made #[.pointer d0] (fun (v1 : Bool) h =>
  if (!v1) = true then
  R (.int .i64 1) h
  else
  loopW (fun X_3 (s_2 : Int) (h : Heap) =>
  if (decide (s_2 < ((l1.n : Int)))) = true then
  idxK l1 s_2 (sizeOfT Try.prog T.api_Msg) (fun (a_4 : Addr) =>
  loadAggK (sizeOfT Try.prog T.api_Msg) h ((some a_4)) (fun (v5 : Array Value) =>
  newK h (zerosOf Try.prog T.api_Msg) T.api_Msg (fun (x_6 : Option Addr) h =>
  storeAggK (sizeOfT Try.prog T.api_Msg) h x_6 v5 (fun h =>
  fldK x_6 0 (fun (a_7 : Addr) =>
  loadK (.int .i64) h ((some a_7)) (fun (v8 : Int) =>
  callK Try.prog .map F.draw_takes #[] (fun (v9 : Option Nat) h =>
  stillK (.int .i64) h ((some a_7)) v8 ∧
  quietK Try.prog .any (Instr.lookup T.map_aapi_MsgKind_func_p_draw_Draw_api_Msg_api_Errno (.map v9) (.int .i64 v8) false) (fun (v10 : Value) =>
  joinW (fun (s_11 : Bool) h =>
  if s_11 = true then
  R (.int .i64 2) h
  else
  fldK x_6 1 (fun (a_12 : Addr) =>
  loadAggK (sizeOfT Try.prog T.api_Tag) h ((some a_12)) (fun (v13 : Array Value) =>
  derefK d0 (fun (a_14 : Addr) =>
  fldK ((some a_14)) 0 (fun (a_15 : Addr) =>
  fldK ((some a_15)) 1 (fun (a_16 : Addr) =>
  loadAggK (sizeOfT Try.prog T.api_Tag) h ((some a_16)) (fun (v17 : Array Value) =>
  eqK Try.prog (binSem .neq T.api_Tag (.tmp 30) (.tmp 35) (.agg v13) (.agg v17)) (fun (v18 : Bool) =>
  if v18 = true then
  R (.int .i64 14) h
  else
  fldK x_6 33 (fun (a_19 : Addr) =>
  loadK (.int .i64) h ((some a_19)) (fun (v20 : Int) =>
  derefK d0 (fun (a_21 : Addr) =>
  fldK ((some a_21)) 0 (fun (a_22 : Addr) =>
  fldK ((some a_22)) 33 (fun (a_23 : Addr) =>
  loadK (.int .i64) h ((some a_23)) (fun (v24 : Int) =>
  if (v20 == v24) = true then
  R (.int .i64 10) h
  else
  loadAggK (sizeOfT Try.prog T.api_Msg) h x_6 (fun (v25 : Array Value) =>
  callV Try.prog (.int .i64) v10 #[.pointer d0, .agg v25] (fun (v26 : Int) h =>
  if (v26 != 0) = true then
  R (.int .i64 v26) h
  else
  X_3 (IntKind.i64.wrap (s_2 + 1)) h) h)))))))))))))))
  (fun J_27 =>
  loadAggK (sizeOfT Try.prog T.api_Msg) h x_6 (fun (v28 : Array Value) =>
  callK Try.prog .bool F.msg_Right #[.agg v28] (fun (v29 : Bool) h =>
  if (!v29) = true then
  J_27 (!v29) h
  else
  eqK Try.prog (binSem .eql T.func82 (.tmp 26) (.const Value.nilFunc) v10 Value.nilFunc) (fun (v30 : Bool) =>
  J_27 v30 h)) h))) h) h))))))
  else
  R (.int .i64 0) h) 0 h) h
def draw_Draw_Take.ann : Ann := (.seq .leaf (.seq (.seq .leaf (.cond (.seq .leaf .leaf) .leaf)) (.seq (.seq .leaf (.block (.loop [(14, (.int .i64))] (.seq .leaf (.seq (.cond .leaf .leaf) (.seq (.block (.seq .leaf (.seq (.any (.loc 1 (.st 2 24 (.last 0 (.last 3 (.loc 4 .done)))))) (.seq (.block (.join [(22, .bool)] (.seq .leaf (.cond .leaf .leaf)) (.cond (.seq .leaf .leaf) (.seq .leaf (.cond (.seq .leaf .leaf) (.seq .leaf (.cond (.seq .leaf .leaf) .leaf))))))) (.seq .leaf (.seq .leaf (.cond (.seq .leaf .leaf) .leaf))))))) .leaf)))))) (.seq .leaf .leaf))))
theorem draw_Draw_Take.eq (d0 : Option Addr) (l1 : Sl) (R : Value → Heap → Prop) (h : Heap) : draw_Draw_Take.body d0 l1 R h = evFn Try.prog Try.f13 draw_Draw_Take.ann [.pointer d0, .slice l1.a l1.n l1.c] R h := by kernel_rfl
theorem draw_Draw_Take.calls {d0 : Option Addr} {l1 : Sl} {R : Value → Heap → Prop} {h : Heap} (H : draw_Draw_Take.body d0 l1 R h) : HC Try.prog F.draw_Draw_Take #[.pointer d0, .slice l1.a l1.n l1.c] R h :=
  evFn_sound mixed Try.func13 (by kernel_rfl) (draw_Draw_Take.eq d0 l1 R h ▸ H)

/-! zugzwang/tags.number -/
def tags_number.body (n0 : Int) (R : Value → Heap → Prop) (h : Heap) : Prop :=
  newK h (zerosOf Try.prog T.api_Tag) T.api_Tag (fun (t_1 : Option Addr) h =>
  sliceArrK t_1 32 none none none (sizeOfT Try.prog T.uint8) (fun (v2 : Sl) =>
  ((newSlK h 8 #[.int .u8 122, .int .u8 117, .int .u8 103, .int .u8 122, .int .u8 119, .int .u8 97, .int .u8 110, .int .u8 103] T.uint8 (fun v3 h =>
  ((opK Try.prog .slice (convert T.sl_uint8 T.sl_uint8 (.slice v3.a v3.n v3.c)) (fun (v4 : Sl) h =>
  callK Try.prog .slice F.tags_eight #[.int .i64 n0] (fun (v5 : Sl) h =>
  newSlK h 2 #[.slice v4.a v4.n v4.c, .slice v5.a v5.n v5.c] T.sl_uint8 (fun v6 h =>
  callK Try.prog .slice F.slices_Concat_byte_byte #[.slice v6.a v6.n v6.c] (fun (v7 : Sl) h =>
  opK Try.prog (.int .i64) (Builtin.copy_ #[T.sl_uint8, T.sl_uint8] T.int #[.slice v2.a v2.n v2.c, .slice v7.a v7.n v7.c]) (fun (v8 : Int) h =>
  loadAggK (sizeOfT Try.prog T.api_Tag) h t_1 (fun (v9 : Array Value) =>
  storeAggK (sizeOfT Try.prog T.api_Tag) h t_1 v9 (fun h =>
  quietK Try.prog .agg (Instr.loadAt T.api_Tag (.pointer t_1)) (fun r10 =>
  R (.agg r10) h) h))) h) h)) h) h) ∧
  (callK Try.prog .slice F.tags_eight #[.int .i64 n0] (fun (v11 : Sl) h =>
  opK Try.prog .slice (convert T.sl_uint8 T.sl_uint8 (.slice v3.a v3.n v3.c)) (fun (v12 : Sl) h =>
  newSlK h 2 #[.slice v12.a v12.n v12.c, .slice v11.a v11.n v11.c] T.sl_uint8 (fun v13 h =>
  callK Try.prog .slice F.slices_Concat_byte_byte #[.slice v13.a v13.n v13.c] (fun (v14 : Sl) h =>
  opK Try.prog (.int .i64) (Builtin.copy_ #[T.sl_uint8, T.sl_uint8] T.int #[.slice v2.a v2.n v2.c, .slice v14.a v14.n v14.c]) (fun (v15 : Int) h =>
  loadAggK (sizeOfT Try.prog T.api_Tag) h t_1 (fun (v16 : Array Value) =>
  storeAggK (sizeOfT Try.prog T.api_Tag) h t_1 v16 (fun h =>
  quietK Try.prog .agg (Instr.loadAt T.api_Tag (.pointer t_1)) (fun r17 =>
  R (.agg r17) h) h))) h) h)) h) h)))) ∧
  (callK Try.prog .slice F.tags_eight #[.int .i64 n0] (fun (v18 : Sl) h =>
  newSlK h 8 #[.int .u8 122, .int .u8 117, .int .u8 103, .int .u8 122, .int .u8 119, .int .u8 97, .int .u8 110, .int .u8 103] T.uint8 (fun v19 h =>
  opK Try.prog .slice (convert T.sl_uint8 T.sl_uint8 (.slice v19.a v19.n v19.c)) (fun (v20 : Sl) h =>
  newSlK h 2 #[.slice v20.a v20.n v20.c, .slice v18.a v18.n v18.c] T.sl_uint8 (fun v21 h =>
  callK Try.prog .slice F.slices_Concat_byte_byte #[.slice v21.a v21.n v21.c] (fun (v22 : Sl) h =>
  opK Try.prog (.int .i64) (Builtin.copy_ #[T.sl_uint8, T.sl_uint8] T.int #[.slice v2.a v2.n v2.c, .slice v22.a v22.n v22.c]) (fun (v23 : Int) h =>
  loadAggK (sizeOfT Try.prog T.api_Tag) h t_1 (fun (v24 : Array Value) =>
  storeAggK (sizeOfT Try.prog T.api_Tag) h t_1 v24 (fun h =>
  quietK Try.prog .agg (Instr.loadAt T.api_Tag (.pointer t_1)) (fun r25 =>
  R (.agg r25) h) h))) h) h)) h)) h))))
def tags_number.ann : Ann := (.seq .leaf (.seq (.any (.loc 0 (.loc 3 (.alt 1 (.alt 2 (.last 4 (.last 5 (.last 6 (.last 7 .done)))) (.last 4 (.last 2 (.last 5 (.last 6 (.last 7 .done)))))) (.last 4 (.last 1 (.last 2 (.last 5 (.last 6 (.last 7 .done)))))))))) (.seq .leaf .leaf)))
theorem tags_number.eq (n0 : Int) (R : Value → Heap → Prop) (h : Heap) : tags_number.body n0 R h = evFn Try.prog Try.f39 tags_number.ann [.int .i64 n0] R h := by kernel_rfl
theorem tags_number.calls {n0 : Int} {R : Value → Heap → Prop} {h : Heap} (H : tags_number.body n0 R h) : HC Try.prog F.tags_number #[.int .i64 n0] R h :=
  evFn_sound mixed Try.func39 (by kernel_rfl) (tags_number.eq n0 R h ▸ H)

/-! (*zugzwang/digest.Hasher).all -/
def digest_Hasher_all.body (h0 : Option Addr) (rows1 : Sl) (R : Value → Heap → Prop) (h : Heap) : Prop :=
  loopW (fun X_2 (s_1 : Int) (h : Heap) =>
  if (decide (s_1 < ((rows1.n : Int)))) = true then
  idxK rows1 s_1 (sizeOfT Try.prog T.sl_uint8) (fun (a_3 : Addr) =>
  loadK .slice h ((some a_3)) (fun (v4 : Sl) =>
  derefK h0 (fun (a_5 : Addr) =>
  fldK ((some a_5)) 9 (fun (a_6 : Addr) =>
  loadK (.int .i64) h ((some a_6)) (fun (v7 : Int) =>
  derefK h0 (fun (a_8 : Addr) =>
  fldK ((some a_8)) 9 (fun (a_9 : Addr) =>
  storeK h ((some a_9)) (.int .i64 (IntKind.i64.wrap (v7 + ((v4.n : Int))))) (fun h =>
  derefK h0 (fun (a_10 : Addr) =>
  fldK ((some a_10)) 8 (fun (a_11 : Addr) =>
  loadK .slice h ((some a_11)) (fun (v12 : Sl) =>
  opK Try.prog .slice (Builtin.append_ #[T.sl_uint8, T.sl_uint8] T.sl_uint8 #[.slice v12.a v12.n v12.c, .slice v4.a v4.n v4.c]) (fun (v13 : Sl) h =>
  derefK h0 (fun (a_14 : Addr) =>
  fldK ((some a_14)) 8 (fun (a_15 : Addr) =>
  storeK h ((some a_15)) (.slice v13.a v13.n v13.c) (fun h =>
  loopW (fun X_17 (s_16 : Unit) (h : Heap) =>
  derefK h0 (fun (a_18 : Addr) =>
  fldK ((some a_18)) 8 (fun (a_19 : Addr) =>
  loadK .slice h ((some a_19)) (fun (v20 : Sl) =>
  if (decide (((v20.n : Int)) ≥ 64)) = true then
  derefK h0 (fun (a_21 : Addr) =>
  fldK ((some a_21)) 0 (fun (a_22 : Addr) =>
  derefK h0 (fun (a_23 : Addr) =>
  fldK ((some a_23)) 8 (fun (a_24 : Addr) =>
  loadK .slice h ((some a_24)) (fun (v25 : Sl) =>
  sliceK v25 none (some 64) none (sizeOfT Try.prog T.uint8) (fun (v26 : Sl) =>
  callK Try.prog .unit F.digest_state_take #[(.pointer ((some a_22))), .slice v26.a v26.n v26.c] (fun (v27 : Unit) h =>
  derefK h0 (fun (a_28 : Addr) =>
  fldK ((some a_28)) 8 (fun (a_29 : Addr) =>
  loadK .slice h ((some a_29)) (fun (v30 : Sl) =>
  sliceK v30 (some 64) none none (sizeOfT Try.prog T.uint8) (fun (v31 : Sl) =>
  derefK h0 (fun (a_32 : Addr) =>
  fldK ((some a_32)) 8 (fun (a_33 : Addr) =>
  storeK h ((some a_33)) (.slice v31.a v31.n v31.c) (fun h =>
  X_17 () h)))))))) h))))))
  else
  X_2 (IntKind.i64.wrap (s_1 + 1)) h)))) () h)))) h)))))))))))
  else
  derefK h0 (fun (a_34 : Addr) =>
  fldK ((some a_34)) 8 (fun (a_35 : Addr) =>
  loadK .slice h ((some a_35)) (fun (v36 : Sl) =>
  callK Try.prog .slice F.slices_Clone_byte_byte #[.slice v36.a v36.n v36.c] (fun (v37 : Sl) h =>
  derefK h0 (fun (a_38 : Addr) =>
  fldK ((some a_38)) 8 (fun (a_39 : Addr) =>
  storeK h ((some a_39)) (.slice v37.a v37.n v37.c) (fun h =>
  R (.tuple #[]) h)))) h)))) 0 h
def digest_Hasher_all.ann : Ann := (.seq (.seq .leaf (.block (.loop [(8, (.int .i64))] (.seq .leaf (.seq (.cond .leaf .leaf) (.seq (.block (.seq .leaf (.seq .leaf (.seq .leaf (.block (.loop [] (.seq (.seq .leaf (.cond .leaf .leaf)) (.block (.seq (.any (.loc 0 (.loc 1 (.loc 2 (.loc 3 (.loc 4 (.loc 5 (.st 6 384 (.loc 7 (.last 8 .done)))))))))) .leaf))))))))) .leaf)))))) .leaf)
theorem digest_Hasher_all.eq (h0 : Option Addr) (rows1 : Sl) (R : Value → Heap → Prop) (h : Heap) : digest_Hasher_all.body h0 rows1 R h = evFn Try.prog Try.f37 digest_Hasher_all.ann [.pointer h0, .slice rows1.a rows1.n rows1.c] R h := by kernel_rfl
theorem digest_Hasher_all.calls {h0 : Option Addr} {rows1 : Sl} {R : Value → Heap → Prop} {h : Heap} (H : digest_Hasher_all.body h0 rows1 R h) : HC Try.prog F.digest_Hasher_all #[.pointer h0, .slice rows1.a rows1.n rows1.c] R h :=
  evFn_sound mixed Try.func37 (by kernel_rfl) (digest_Hasher_all.eq h0 rows1 R h ▸ H)

/-! (*zugzwang/draw.Draw).Say -/
def draw_Draw_Say.body (d0 : Option Addr) (R : Value → Heap → Prop) (h : Heap) : Prop :=
  joinW (fun (s_1 : Bool) h =>
  if s_1 = true then
  R (.slice none 0 0) h
  else
  derefK d0 (fun (a_2 : Addr) =>
  fldK ((some a_2)) 133 (fun (a_3 : Addr) =>
  loadK (.int .i64) h ((some a_3)) (fun (v4 : Int) =>
  if (v4 == 4) = true then
  derefK d0 (fun (a_5 : Addr) =>
  fldK ((some a_5)) 0 (fun (a_6 : Addr) =>
  fldK ((some a_6)) 1 (fun (a_7 : Addr) =>
  derefK d0 (fun (a_8 : Addr) =>
  fldK ((some a_8)) 0 (fun (a_9 : Addr) =>
  fldK ((some a_9)) 33 (fun (a_10 : Addr) =>
  loadAggK (sizeOfT Try.prog T.api_Tag) h ((some a_7)) (fun (v11 : Array Value) =>
  loadK (.int .i64) h ((some a_10)) (fun (v12 : Int) =>
  buildK Try.prog (Instr.build T.api_Msg #[(0, (.int .i64 4)), (1, (.agg v11)), (2, (.int .i64 v12))]) (fun (v13 : Array Value) =>
  opK Try.prog .slice (Instr.buildSlice T.sl_api_Msg 1 #[(0, (.agg v13))]) (fun (v14 : Sl) h =>
  R (.slice v14.a v14.n v14.c) h) h)))))))))
  else
  derefK d0 (fun (a_15 : Addr) =>
  fldK ((some a_15)) 133 (fun (a_16 : Addr) =>
  loadK (.int .i64) h ((some a_16)) (fun (v17 : Int) =>
  if (v17 == 1) = true then
  derefK d0 (fun (a_18 : Addr) =>
  fldK ((some a_18)) 0 (fun (a_19 : Addr) =>
  callK Try.prog .agg F.draw_coin_hidden #[(.pointer ((some a_19)))] (fun (v20 : Array Value) h =>
  opK Try.prog .slice (Instr.buildSlice T.sl_api_Msg 1 #[(0, (.agg v20))]) (fun (v21 : Sl) h =>
  R (.slice v21.a v21.n v21.c) h) h) h))
  else
  derefK d0 (fun (a_22 : Addr) =>
  fldK ((some a_22)) 0 (fun (a_23 : Addr) =>
  derefK d0 (fun (a_24 : Addr) =>
  fldK ((some a_24)) 0 (fun (a_25 : Addr) =>
  callK Try.prog .agg F.draw_coin_hidden #[(.pointer ((some a_23)))] (fun (v26 : Array Value) h =>
  callK Try.prog .agg F.draw_coin_open #[(.pointer ((some a_25)))] (fun (v27 : Array Value) h =>
  opK Try.prog .slice (Instr.buildSlice T.sl_api_Msg 2 #[(0, (.agg v26)), (1, (.agg v27))]) (fun (v28 : Sl) h =>
  R (.slice v28.a v28.n v28.c) h) h) h) h)))))))))))
  (fun J_29 =>
  callK Try.prog .bool F.draw_Draw_made #[.pointer d0] (fun (v30 : Bool) h =>
  if (!v30) = true then
  J_29 (!v30) h
  else
  derefK d0 (fun (a_31 : Addr) =>
  fldK ((some a_31)) 99 (fun (a_32 : Addr) =>
  fldK ((some a_32)) 33 (fun (a_33 : Addr) =>
  loadK .bool h ((some a_33)) (fun (v34 : Bool) =>
  J_29 v34 h))))) h)
def draw_Draw_Say.ann : Ann := (.seq .leaf (.seq (.block (.join [(3, .bool)] (.seq .leaf (.cond .leaf .leaf)) (.cond (.seq .leaf .leaf) (.seq .leaf (.cond (.seq (.any (.loc 0 (.loc 1 (.loc 2 (.loc 3 (.loc 5 (.loc 6 (.loc 7 (.loc 8 (.st 4 7168 (.st 9 7168 (.loc 10 (.last 11 (.loc 12 .done)))))))))))))) .leaf) (.seq .leaf (.cond (.seq .leaf .leaf) .leaf))))))) (.seq (.any (.loc 0 (.loc 1 (.loc 2 (.loc 4 (.loc 5 (.loc 6 (.last 3 (.last 7 (.last 8 (.loc 9 .done))))))))))) .leaf)))
theorem draw_Draw_Say.eq (d0 : Option Addr) (R : Value → Heap → Prop) (h : Heap) : draw_Draw_Say.body d0 R h = evFn Try.prog Try.f14 draw_Draw_Say.ann [.pointer d0] R h := by kernel_rfl
theorem draw_Draw_Say.calls {d0 : Option Addr} {R : Value → Heap → Prop} {h : Heap} (H : draw_Draw_Say.body d0 R h) : HC Try.prog F.draw_Draw_Say #[.pointer d0] R h :=
  evFn_sound mixed Try.func14 (by kernel_rfl) (draw_Draw_Say.eq d0 R h ▸ H)

/-! zugzwang/zugzwanglaw23.awake -/
def law23_awake.body  (R : Value → Heap → Prop) (h : Heap) : Prop :=
  callK Try.prog .ptr F.tags_New #[.bool false, .slice none 0 0] (fun (v1 : Option Addr) h =>
  buildK Try.prog (Instr.build T.api_Tag #[]) (fun (v2 : Array Value) =>
  callK Try.prog .agg F.tags_Maker_Draw #[.pointer v1, .int .i64 0] (fun (v3 : Array Value) h =>
  callK Try.prog (Kd.pair .ptr (.int .i64)) F.draw_New #[.pointer v1, .agg v2, .int .i64 0, .int .i64 0, .agg v3] (fun (v4 : Option Addr × Int) h =>
  buildK Try.prog (Instr.build T.api_Tag #[]) (fun (v5 : Array Value) =>
  callK Try.prog .agg F.tags_Maker_Draw #[.pointer v1, .int .i64 1] (fun (v6 : Array Value) h =>
  callK Try.prog (Kd.pair .ptr (.int .i64)) F.draw_New #[.pointer v1, .agg v5, .int .i64 1, .int .i64 1, .agg v6] (fun (v7 : Option Addr × Int) h =>
  if (v4.2 != 0) = true then
  R (.bool false) h
  else
  if (v7.2 != 0) = true then
  R (.bool false) h
  else
  callK Try.prog .slice F.draw_Draw_Say #[.pointer v7.1] (fun (v8 : Sl) h =>
  callK Try.prog (.int .i64) F.draw_Draw_Take #[.pointer v4.1, .slice v8.a v8.n v8.c] (fun (v9 : Int) h =>
  if (v9 != 0) = true then
  R (.bool false) h
  else
  callK Try.prog .slice F.draw_Draw_Say #[.pointer v4.1] (fun (v10 : Sl) h =>
  callK Try.prog (.int .i64) F.draw_Draw_Take #[.pointer v7.1, .slice v10.a v10.n v10.c] (fun (v11 : Int) h =>
  if (v11 != 0) = true then
  R (.bool false) h
  else
  callK Try.prog .slice F.draw_Draw_Say #[.pointer v7.1] (fun (v12 : Sl) h =>
  if (((v12.n : Int)) != 2) = true then
  R (.bool false) h
  else
  idxK v12 1 (sizeOfT Try.prog T.api_Msg) (fun (a_13 : Addr) =>
  loadAggK (sizeOfT Try.prog T.api_Msg) h ((some a_13)) (fun (v14 : Array Value) =>
  opK Try.prog .slice (Instr.buildSlice T.sl_api_Msg 1 #[(0, (.agg v14))]) (fun (v15 : Sl) h =>
  callK Try.prog (.int .i64) F.draw_Draw_Take #[.pointer v4.1, .slice v15.a v15.n v15.c] (fun (v16 : Int) h =>
  if (v16 != 0) = true then
  R (.bool false) h
  else
  callK Try.prog (Kd.pair (.int .i64) .bool) F.draw_Draw_White #[.pointer v4.1] (fun (v17 : Int × Bool) h =>
  callK Try.prog (Kd.pair (.int .i64) .bool) F.draw_Draw_White #[.pointer v7.1] (fun (v18 : Int × Bool) h =>
  callK Try.prog (Kd.pair (.int .i64) .bool) F.draw_Draw_Side #[.pointer v7.1] (fun (v19 : Int × Bool) h =>
  if v17.2 = true then
  if v18.2 = true then
  if v19.2 = true then
  if (v17.1 == 1) = true then
  if (v18.1 == 1) = true then
  R (.bool (v19.1 == 0)) h
  else
  R (.bool false) h
  else
  R (.bool false) h
  else
  R (.bool false) h
  else
  R (.bool false) h
  else
  R (.bool false) h) h) h) h) h) h))) h) h) h) h) h) h) h)) h) h)) h
def law23_awake.ann : Ann := (.seq .leaf (.seq .leaf (.seq .leaf (.seq .leaf (.seq (.seq .leaf (.cond (.seq .leaf .leaf) .leaf)) (.seq .leaf (.seq (.seq .leaf (.cond (.seq .leaf .leaf) .leaf)) (.seq .leaf (.seq .leaf (.seq .leaf (.seq .leaf .leaf)))))))))))
theorem law23_awake.eq  (R : Value → Heap → Prop) (h : Heap) : law23_awake.body  R h = evFn Try.prog Try.f6 law23_awake.ann [] R h := by kernel_rfl
theorem law23_awake.calls  {R : Value → Heap → Prop} {h : Heap} (H : law23_awake.body  R h) : HC Try.prog F.law23_awake #[] R h :=
  evFn_sound mixed Try.func6 (by kernel_rfl) (law23_awake.eq  R h ▸ H)

/-! zugzwang/commit.Cover -/
def commit_Cover.body (m0 : Option Addr) (nonce1 : Array Value) (rows2 : Sl) (R : Value → Heap → Prop) (h : Heap) : Prop :=
  newK h nonce1 T.api_Tag (fun (nonce_1 : Option Addr) h =>
  newK h (zerosOf Try.prog T.api_Tag) T.api_Tag (fun (t_2 : Option Addr) h =>
  callK Try.prog .ptr F.tags_Maker_Copy #[.pointer m0] (fun (v3 : Option Addr) h =>
  if v3.isNone = true then
  loadAggK (sizeOfT Try.prog T.api_Tag) h t_2 (fun (v4 : Array Value) =>
  storeAggK (sizeOfT Try.prog T.api_Tag) h t_2 v4 (fun h =>
  quietK Try.prog .agg (Instr.loadAt T.api_Tag (.pointer t_2)) (fun r5 =>
  R (.tuple #[.agg r5, .int .i64 1]) h) h))
  else
  loadAggK (sizeOfT Try.prog T.api_Tag) h nonce_1 (fun (v6 : Array Value) =>
  callK Try.prog .ptr F.codec_New #[] (fun (v7 : Option Addr) h =>
  stillAggK (sizeOfT Try.prog T.api_Tag) h nonce_1 v6 ∧
  buildK Try.prog (Instr.build T.commit_text #[(0, (.pointer v7))]) (fun (v8 : Array Value) =>
  callK Try.prog (Kd.pair .slice (.int .i64)) F.commit_text_rows #[.agg v8, .agg v6, .slice rows2.a rows2.n rows2.c] (fun (v9 : Sl × Int) h =>
  if (v9.2 != 0) = true then
  loadAggK (sizeOfT Try.prog T.api_Tag) h t_2 (fun (v10 : Array Value) =>
  storeAggK (sizeOfT Try.prog T.api_Tag) h t_2 v10 (fun h =>
  quietK Try.prog .agg (Instr.loadAt T.api_Tag (.pointer t_2)) (fun r11 =>
  R (.tuple #[.agg r11, .int .i64 v9.2]) h) h))
  else
  newSlK h 4 #[.int .u8 104, .int .u8 105, .int .u8 100, .int .u8 101] T.uint8 (fun v12 h =>
  opK Try.prog .slice (convert T.sl_uint8 T.sl_uint8 (.slice v12.a v12.n v12.c)) (fun (v13 : Sl) h =>
  newSlK h 2 #[.slice v13.a v13.n v13.c, .slice v9.1.a v9.1.n v9.1.c] T.sl_uint8 (fun v14 h =>
  callK Try.prog .agg F.tags_Maker_Sum #[.pointer m0, .slice v14.a v14.n v14.c] (fun (v15 : Array Value) h =>
  storeAggK (sizeOfT Try.prog T.api_Tag) h t_2 v15 (fun h =>
  quietK Try.prog .agg (Instr.loadAt T.api_Tag (.pointer t_2)) (fun r16 =>
  R (.tuple #[.agg r16, .int .i64 0]) h) h)) h)) h)) h)) h)) h))
def commit_Cover.ann : Ann := (.seq .leaf (.seq (.seq .leaf (.cond (.seq .leaf .leaf) .leaf)) (.seq (.any (.loc 3 (.st 2 1008 (.last 0 (.loc 1 (.last 4 (.loc 5 (.loc 6 (.loc 7 (.loc 8 (.loc 9 .done))))))))))) (.seq (.seq .leaf (.cond (.seq .leaf .leaf) .leaf)) (.seq .leaf .leaf)))))
theorem commit_Cover.eq (m0 : Option Addr) (nonce1 : Array Value) (rows2 : Sl) (R : Value → Heap → Prop) (h : Heap) : commit_Cover.body m0 nonce1 rows2 R h = evFn Try.prog Try.f41 commit_Cover.ann [.pointer m0, .agg nonce1, .slice rows2.a rows2.n rows2.c] R h := by kernel_rfl
theorem commit_Cover.calls {m0 : Option Addr} {nonce1 : Array Value} {rows2 : Sl} {R : Value → Heap → Prop} {h : Heap} (H : commit_Cover.body m0 nonce1 rows2 R h) : HC Try.prog F.commit_Cover #[.pointer m0, .agg nonce1, .slice rows2.a rows2.n rows2.c] R h :=
  evFn_sound mixed Try.func41 (by kernel_rfl) (commit_Cover.eq m0 nonce1 rows2 R h ▸ H)

/-! zugzwang/zugzwanglaw23.run -/
def law23_run.body (t0 : Array Value) (bit1 : Int) (l2 : Sl) (R : Value → Heap → Prop) (h : Heap) : Prop :=
  newK h t0 T.zugzwanglaw23_Toss (fun (t_1 : Option Addr) h =>
  fldK t_1 0 (fun (a_2 : Addr) =>
  fldK t_1 32 (fun (a_3 : Addr) =>
  fldK t_1 35 (fun (a_4 : Addr) =>
  loadAggK (sizeOfT Try.prog T.api_Tag) h ((some a_2)) (fun (v5 : Array Value) =>
  loadK (.int .i64) h ((some a_3)) (fun (v6 : Int) =>
  loadAggK (sizeOfT Try.prog T.api_Tag) h ((some a_4)) (fun (v7 : Array Value) =>
  callK Try.prog .ptr F.tags_New #[.bool false, .slice none 0 0] (fun (v8 : Option Addr) h =>
  stillAggK (sizeOfT Try.prog T.api_Tag) h ((some a_4)) v7 ∧
  stillK (.int .i64) h ((some a_3)) v6 ∧
  stillAggK (sizeOfT Try.prog T.api_Tag) h ((some a_2)) v5 ∧
  callK Try.prog (Kd.pair .ptr (.int .i64)) F.draw_New #[.pointer v8, .agg v5, .int .i64 v6, .int .i64 bit1, .agg v7] (fun (v9 : Option Addr × Int) h =>
  if (v9.2 != 0) = true then
  R (.tuple #[.pointer none, .slice none 0 0]) h
  else
  loopW (fun X_11 (s_10 : Sl × Int) (h : Heap) =>
  if (decide (s_10.2 < ((l2.n : Int)))) = true then
  idxK l2 s_10.2 (sizeOfT Try.prog T.api_Msg) (fun (a_12 : Addr) =>
  loadAggK (sizeOfT Try.prog T.api_Msg) h ((some a_12)) (fun (v13 : Array Value) =>
  opK Try.prog .slice (Instr.buildSlice T.sl_api_Msg 1 #[(0, (.agg v13))]) (fun (v14 : Sl) h =>
  callK Try.prog (.int .i64) F.draw_Draw_Take #[.pointer v9.1, .slice v14.a v14.n v14.c] (fun (v15 : Int) h =>
  newSlK h 1 #[.int .i64 v15] T.api_Errno (fun v16 h =>
  opK Try.prog .slice (Builtin.append_ #[T.sl_api_Errno, T.sl_api_Errno] T.sl_api_Errno #[.slice s_10.1.a s_10.1.n s_10.1.c, .slice v16.a v16.n v16.c]) (fun (v17 : Sl) h =>
  X_11 (v17, IntKind.i64.wrap (s_10.2 + 1)) h) h)) h) h))
  else
  R (.tuple #[.pointer v9.1, .slice s_10.1.a s_10.1.n s_10.1.c]) h) (⟨none, 0, 0⟩, 0) h) h) h)))))))
def law23_run.ann : Ann := (.seq .leaf (.seq (.any (.loc 1 (.loc 3 (.loc 5 (.loc 6 (.st 2 16128 (.st 4 16128 (.st 7 16128 (.last 0 (.last 8 (.loc 9 (.loc 10 (.loc 11 (.loc 12 (.loc 13 .done))))))))))))))) (.seq (.seq .leaf (.cond (.seq .leaf .leaf) .leaf)) (.seq .leaf (.seq (.seq .leaf (.block (.loop [(10, .slice), (11, (.int .i64))] (.seq (.seq .leaf (.cond .leaf .leaf)) (.seq (.block (.seq .leaf .leaf)) .leaf))))) (.seq .leaf .leaf))))))
theorem law23_run.eq (t0 : Array Value) (bit1 : Int) (l2 : Sl) (R : Value → Heap → Prop) (h : Heap) : law23_run.body t0 bit1 l2 R h = evFn Try.prog Try.f7 law23_run.ann [.agg t0, .int .i64 bit1, .slice l2.a l2.n l2.c] R h := by kernel_rfl
theorem law23_run.calls {t0 : Array Value} {bit1 : Int} {l2 : Sl} {R : Value → Heap → Prop} {h : Heap} (H : law23_run.body t0 bit1 l2 R h) : HC Try.prog F.law23_run #[.agg t0, .int .i64 bit1, .slice l2.a l2.n l2.c] R h :=
  evFn_sound mixed Try.func7 (by kernel_rfl) (law23_run.eq t0 bit1 l2 R h ▸ H)

/-! zugzwang/digest.constants -/
def digest_constants.body  (R : Value → Heap → Prop) (h : Heap) : Prop :=
  newK h (zerosOf Try.prog T.a64_uint32) T.a64_uint32 (fun (v1 : Option Addr) h =>
  buildK Try.prog (Instr.build T.a64_uint32 #[(0, (.int .u32 1116352408)), (1, (.int .u32 1899447441)), (2, (.int .u32 3049323471)), (3, (.int .u32 3921009573)), (4, (.int .u32 961987163)), (5, (.int .u32 1508970993)), (6, (.int .u32 2453635748)), (7, (.int .u32 2870763221)), (8, (.int .u32 3624381080)), (9, (.int .u32 310598401)), (10, (.int .u32 607225278)), (11, (.int .u32 1426881987)), (12, (.int .u32 1925078388)), (13, (.int .u32 2162078206)), (14, (.int .u32 2614888103)), (15, (.int .u32 3248222580)), (16, (.int .u32 3835390401)), (17, (.int .u32 4022224774)), (18, (.int .u32 264347078)), (19, (.int .u32 604807628)), (20, (.int .u32 770255983)), (21, (.int .u32 1249150122)), (22, (.int .u32 1555081692)), (23, (.int .u32 1996064986)), (24, (.int .u32 2554220882)), (25, (.int .u32 2821834349)), (26, (.int .u32 2952996808)), (27, (.int .u32 3210313671)), (28, (.int .u32 3336571891)), (29, (.int .u32 3584528711)), (30, (.int .u32 113926993)), (31, (.int .u32 338241895)), (32, (.int .u32 666307205)), (33, (.int .u32 773529912)), (34, (.int .u32 1294757372)), (35, (.int .u32 1396182291)), (36, (.int .u32 1695183700)), (37, (.int .u32 1986661051)), (38, (.int .u32 2177026350)), (39, (.int .u32 2456956037)), (40, (.int .u32 2730485921)), (41, (.int .u32 2820302411)), (42, (.int .u32 3259730800)), (43, (.int .u32 3345764771)), (44, (.int .u32 3516065817)), (45, (.int .u32 3600352804)), (46, (.int .u32 4094571909)), (47, (.int .u32 275423344)), (48, (.int .u32 430227734)), (49, (.int .u32 506948616)), (50, (.int .u32 659060556)), (51, (.int .u32 883997877)), (52, (.int .u32 958139571)), (53, (.int .u32 1322822218)), (54, (.int .u32 1537002063)), (55, (.int .u32 1747873779)), (56, (.int .u32 1955562222)), (57, (.int .u32 2024104815)), (58, (.int .u32 2227730452)), (59, (.int .u32 2361852424)), (60, (.int .u32 2428436474)), (61, (.int .u32 2756734187)), (62, (.int .u32 3204031479)), (63, (.int .u32 3329325298))]) (fun (v2 : Array Value) =>
  storeAggK (sizeOfT Try.prog T.a64_uint32) h v1 v2 (fun h =>
  quietK Try.prog .agg (Instr.loadAt T.a64_uint32 (.pointer v1)) (fun r3 =>
  R (.agg r3) h) h)))
def digest_constants.ann : Ann := (.seq .leaf (.seq .leaf .leaf))
theorem digest_constants.eq  (R : Value → Heap → Prop) (h : Heap) : digest_constants.body  R h = evFn Try.prog Try.f60 digest_constants.ann [] R h := by kernel_rfl
theorem digest_constants.calls  {R : Value → Heap → Prop} {h : Heap} (H : digest_constants.body  R h) : HC Try.prog F.digest_constants #[] R h :=
  evFn_sound mixed Try.func60 (by kernel_rfl) (digest_constants.eq  R h ▸ H)

/-! (*zugzwang/bits.row).take -/
def bits_row_take.body (r0 : Option Addr) (R : Value → Heap → Prop) (h : Heap) : Prop :=
  derefK r0 (fun (a_1 : Addr) =>
  fldK ((some a_1)) 0 (fun (a_2 : Addr) =>
  loadK .slice h ((some a_2)) (fun (v3 : Sl) =>
  idxK v3 0 (sizeOfT Try.prog T.uint8) (fun (a_4 : Addr) =>
  loadK (.int .u8) h ((some a_4)) (fun (v5 : Int) =>
  shiftK 24
  (derefK r0 (fun (a_6 : Addr) =>
  fldK ((some a_6)) 0 (fun (a_7 : Addr) =>
  loadK .slice h ((some a_7)) (fun (v8 : Sl) =>
  idxK v8 1 (sizeOfT Try.prog T.uint8) (fun (a_9 : Addr) =>
  loadK (.int .u8) h ((some a_9)) (fun (v10 : Int) =>
  shiftK 16
  (derefK r0 (fun (a_11 : Addr) =>
  fldK ((some a_11)) 0 (fun (a_12 : Addr) =>
  loadK .slice h ((some a_12)) (fun (v13 : Sl) =>
  idxK v13 2 (sizeOfT Try.prog T.uint8) (fun (a_14 : Addr) =>
  loadK (.int .u8) h ((some a_14)) (fun (v15 : Int) =>
  shiftK 8
  (derefK r0 (fun (a_16 : Addr) =>
  fldK ((some a_16)) 0 (fun (a_17 : Addr) =>
  loadK .slice h ((some a_17)) (fun (v18 : Sl) =>
  idxK v18 3 (sizeOfT Try.prog T.uint8) (fun (a_19 : Addr) =>
  loadK (.int .u8) h ((some a_19)) (fun (v20 : Int) =>
  derefK r0 (fun (a_21 : Addr) =>
  fldK ((some a_21)) 0 (fun (a_22 : Addr) =>
  loadK .slice h ((some a_22)) (fun (v23 : Sl) =>
  sliceK v23 (some 4) none none (sizeOfT Try.prog T.uint8) (fun (v24 : Sl) =>
  derefK r0 (fun (a_25 : Addr) =>
  fldK ((some a_25)) 0 (fun (a_26 : Addr) =>
  storeK h ((some a_26)) (.slice v24.a v24.n v24.c) (fun h =>
  R (.int .u32 (IntKind.u32.wrap (BitVec.ofInt (IntKind.bits .u32) (IntKind.u32.wrap (BitVec.ofInt (IntKind.bits .u32) (IntKind.u32.wrap (BitVec.ofInt (IntKind.bits .u32) (IntKind.u32.wrap ((IntKind.u32.wrap v5) * 2 ^ min (Int.toNat 24) (IntKind.bits .u32))) ||| BitVec.ofInt (IntKind.bits .u32) (IntKind.u32.wrap ((IntKind.u32.wrap v10) * 2 ^ min (Int.toNat 16) (IntKind.bits .u32)))).toNat) ||| BitVec.ofInt (IntKind.bits .u32) (IntKind.u32.wrap ((IntKind.u32.wrap v15) * 2 ^ min (Int.toNat 8) (IntKind.bits .u32)))).toNat) ||| BitVec.ofInt (IntKind.bits .u32) (IntKind.u32.wrap v20)).toNat)) h))))))))))))))))))))))))))))))
def bits_row_take.ann : Ann := (.seq .leaf (.seq .leaf (.seq .leaf (.seq .leaf .leaf))))
theorem bits_row_take.eq (r0 : Option Addr) (R : Value → Heap → Prop) (h : Heap) : bits_row_take.body r0 R h = evFn Try.prog Try.f69 bits_row_take.ann [.pointer r0] R h := by kernel_rfl
theorem bits_row_take.calls {r0 : Option Addr} {R : Value → Heap → Prop} {h : Heap} (H : bits_row_take.body r0 R h) : HC Try.prog F.bits_row_take #[.pointer r0] R h :=
  evFn_sound mixed Try.func69 (by kernel_rfl) (bits_row_take.eq r0 R h ▸ H)

/-! (*zugzwang/tags.Maker).Sum -/
def tags_Maker_Sum.body (m0 : Option Addr) (rows1 : Sl) (R : Value → Heap → Prop) (h : Heap) : Prop :=
  newK h (zerosOf Try.prog T.api_Tag) T.api_Tag (fun (v1 : Option Addr) h =>
  callK Try.prog .bool F.tags_Maker_there #[.pointer m0] (fun (v2 : Bool) h =>
  if (!v2) = true then
  buildK Try.prog (Instr.build T.api_Tag #[]) (fun (v3 : Array Value) =>
  storeAggK (sizeOfT Try.prog T.api_Tag) h v1 v3 (fun h =>
  quietK Try.prog .agg (Instr.loadAt T.api_Tag (.pointer v1)) (fun r4 =>
  R (.agg r4) h) h))
  else
  derefK m0 (fun (a_5 : Addr) =>
  fldK ((some a_5)) 1 (fun (a_6 : Addr) =>
  loadK .bool h ((some a_6)) (fun (v7 : Bool) =>
  if v7 = true then
  callK Try.prog .agg F.digest_Of #[.slice rows1.a rows1.n rows1.c] (fun (v8 : Array Value) h =>
  storeAggK (sizeOfT Try.prog T.api_Tag) h v1 v8 (fun h =>
  quietK Try.prog .agg (Instr.loadAt T.api_Tag (.pointer v1)) (fun r9 =>
  R (.agg r9) h) h)) h
  else
  derefK m0 (fun (a_10 : Addr) =>
  fldK ((some a_10)) 0 (fun (a_11 : Addr) =>
  loadAggK (sizeOfT Try.prog T.tags_book) h ((some a_11)) (fun (v12 : Array Value) =>
  callK Try.prog .slice F.slices_Concat_byte_byte #[.slice rows1.a rows1.n rows1.c] (fun (v13 : Sl) h =>
  stillAggK (sizeOfT Try.prog T.tags_book) h ((some a_11)) v12 ∧
  opK Try.prog .str (convert T.sl_uint8 T.string (.slice v13.a v13.n v13.c)) (fun (v14 : ByteArray) h =>
  buildK Try.prog (Instr.build T.tags_thing #[(0, (.int .u8 115)), (2, (.string v14))]) (fun (v15 : Array Value) =>
  callK Try.prog .agg F.tags_book_ask #[.agg v12, .agg v15] (fun (v16 : Array Value) h =>
  storeAggK (sizeOfT Try.prog T.api_Tag) h v1 v16 (fun h =>
  quietK Try.prog .agg (Instr.loadAt T.api_Tag (.pointer v1)) (fun r17 =>
  R (.agg r17) h) h)) h)) h) h))))))) h)
def tags_Maker_Sum.ann : Ann := (.seq .leaf (.seq (.block (.seq .leaf (.cond (.seq .leaf .leaf) (.seq .leaf (.cond (.seq .leaf .leaf) .leaf))))) (.seq (.any (.loc 0 (.loc 1 (.loc 2 (.loc 4 (.st 3 768 (.last 5 (.last 6 (.loc 7 (.last 8 (.last 9 .done))))))))))) .leaf)))
theorem tags_Maker_Sum.eq (m0 : Option Addr) (rows1 : Sl) (R : Value → Heap → Prop) (h : Heap) : tags_Maker_Sum.body m0 rows1 R h = evFn Try.prog Try.f52 tags_Maker_Sum.ann [.pointer m0, .slice rows1.a rows1.n rows1.c] R h := by kernel_rfl
theorem tags_Maker_Sum.calls {m0 : Option Addr} {rows1 : Sl} {R : Value → Heap → Prop} {h : Heap} (H : tags_Maker_Sum.body m0 rows1 R h) : HC Try.prog F.tags_Maker_Sum #[.pointer m0, .slice rows1.a rows1.n rows1.c] R h :=
  evFn_sound mixed Try.func52 (by kernel_rfl) (tags_Maker_Sum.eq m0 rows1 R h ▸ H)

/-! (*zugzwang/draw.Draw).committed -/
def draw_Draw_committed.body (d0 : Option Addr) (x1 : Array Value) (R : Value → Heap → Prop) (h : Heap) : Prop :=
  newK h x1 T.api_Msg (fun (x_1 : Option Addr) h =>
  derefK d0 (fun (a_2 : Addr) =>
  fldK ((some a_2)) 133 (fun (a_3 : Addr) =>
  loadK (.int .i64) h ((some a_3)) (fun (v4 : Int) =>
  if (v4 == 4) = true then
  R (.int .i64 18) h
  else
  derefK d0 (fun (a_5 : Addr) =>
  fldK ((some a_5)) 133 (fun (a_6 : Addr) =>
  loadK (.int .i64) h ((some a_6)) (fun (v7 : Int) =>
  if (v7 == 1) = true then
  fldK x_1 34 (fun (a_8 : Addr) =>
  derefK d0 (fun (a_9 : Addr) =>
  fldK ((some a_9)) 133 (fun (a_10 : Addr) =>
  loadAggK (sizeOfT Try.prog T.api_Tag) h ((some a_8)) (fun (v11 : Array Value) =>
  storeK h ((some a_10)) (.int .i64 2) (fun h =>
  stillAggK (sizeOfT Try.prog T.api_Tag) h ((some a_8)) v11 ∧
  derefK d0 (fun (a_12 : Addr) =>
  fldK ((some a_12)) 99 (fun (a_13 : Addr) =>
  fldK ((some a_13)) 0 (fun (a_14 : Addr) =>
  storeAggK (sizeOfT Try.prog T.api_Tag) h ((some a_14)) v11 (fun h =>
  R (.int .i64 0) h)))))))))
  else
  derefK d0 (fun (a_15 : Addr) =>
  fldK ((some a_15)) 99 (fun (a_16 : Addr) =>
  fldK ((some a_16)) 0 (fun (a_17 : Addr) =>
  loadAggK (sizeOfT Try.prog T.api_Tag) h ((some a_17)) (fun (v18 : Array Value) =>
  fldK x_1 34 (fun (a_19 : Addr) =>
  loadAggK (sizeOfT Try.prog T.api_Tag) h ((some a_19)) (fun (v20 : Array Value) =>
  eqK Try.prog (binSem .eql T.api_Tag (.tmp 31) (.tmp 33) (.agg v18) (.agg v20)) (fun (v21 : Bool) =>
  if v21 = true then
  R (.int .i64 12) h
  else
  R (.int .i64 15) h))))))))))))))
def draw_Draw_committed.ann : Ann := (.seq .leaf (.seq (.block (.seq .leaf (.cond (.seq .leaf .leaf) (.seq .leaf (.cond (.seq (.any (.loc 0 (.loc 1 (.loc 2 (.loc 4 (.loc 5 (.st 3 1920 (.last 6 (.loc 7 (.loc 8 (.loc 9 (.last 10 .done)))))))))))) (.seq .leaf .leaf)) (.seq .leaf (.cond (.seq .leaf .leaf) .leaf))))))) (.seq .leaf .leaf)))
theorem draw_Draw_committed.eq (d0 : Option Addr) (x1 : Array Value) (R : Value → Heap → Prop) (h : Heap) : draw_Draw_committed.body d0 x1 R h = evFn Try.prog Try.f31 draw_Draw_committed.ann [.pointer d0, .agg x1] R h := by kernel_rfl
theorem draw_Draw_committed.calls {d0 : Option Addr} {x1 : Array Value} {R : Value → Heap → Prop} {h : Heap} (H : draw_Draw_committed.body d0 x1 R h) : HC Try.prog F.draw_Draw_committed #[.pointer d0, .agg x1] R h :=
  evFn_sound mixed Try.func31 (by kernel_rfl) (draw_Draw_committed.eq d0 x1 R h ▸ H)

/-! zugzwang/draw.New -/
def draw_New.body (m0 : Option Addr) (game1 : Array Value) (player2 : Int) (bit3 : Int) (nonce4 : Array Value) (R : Value → Heap → Prop) (h : Heap) : Prop :=
  newK h game1 T.api_Tag (fun (game_1 : Option Addr) h =>
  newK h nonce4 T.api_Tag (fun (nonce_2 : Option Addr) h =>
  loadAggK (sizeOfT Try.prog T.api_Tag) h game_1 (fun (v3 : Array Value) =>
  loadAggK (sizeOfT Try.prog T.api_Tag) h nonce_2 (fun (v4 : Array Value) =>
  callK Try.prog (Kd.pair .agg (.int .i64)) F.commit_Coin #[.pointer m0, .agg v3, .int .i64 player2, .int .i64 bit3, .agg v4] (fun (v5 : Array Value × Int) h =>
  newK h (zerosOf Try.prog T.api_Tag) T.api_Tag (fun (t_6 : Option Addr) h =>
  storeAggK (sizeOfT Try.prog T.api_Tag) h t_6 v5.1 (fun h =>
  if (v5.2 != 0) = true then
  R (.tuple #[.pointer none, .int .i64 v5.2]) h
  else
  loadAggK (sizeOfT Try.prog T.api_Tag) h game_1 (fun (v7 : Array Value) =>
  loadAggK (sizeOfT Try.prog T.api_Tag) h nonce_2 (fun (v8 : Array Value) =>
  loadAggK (sizeOfT Try.prog T.api_Tag) h t_6 (fun (v9 : Array Value) =>
  buildK Try.prog (Instr.build T.draw_coin #[(0, (.pointer m0)), (1, (.agg v7)), (2, (.int .i64 player2)), (3, (.int .i64 bit3)), (4, (.agg v8)), (5, (.agg v9))]) (fun (v10 : Array Value) =>
  buildK Try.prog (Instr.build T.draw_Draw #[(0, (.agg v10)), (2, (.int .i64 1))]) (fun (v11 : Array Value) =>
  newK h v11 T.draw_Draw (fun (v12 : Option Addr) h =>
  R (.tuple #[.pointer v12, .int .i64 0]) h))))))))) h))))
def draw_New.ann : Ann := (.seq .leaf (.seq .leaf (.seq (.seq .leaf (.cond (.seq .leaf .leaf) .leaf)) (.seq .leaf .leaf))))
theorem draw_New.eq (m0 : Option Addr) (game1 : Array Value) (player2 : Int) (bit3 : Int) (nonce4 : Array Value) (R : Value → Heap → Prop) (h : Heap) : draw_New.body m0 game1 player2 bit3 nonce4 R h = evFn Try.prog Try.f12 draw_New.ann [.pointer m0, .agg game1, .int .i64 player2, .int .i64 bit3, .agg nonce4] R h := by kernel_rfl
theorem draw_New.calls {m0 : Option Addr} {game1 : Array Value} {player2 : Int} {bit3 : Int} {nonce4 : Array Value} {R : Value → Heap → Prop} {h : Heap} (H : draw_New.body m0 game1 player2 bit3 nonce4 R h) : HC Try.prog F.draw_New #[.pointer m0, .agg game1, .int .i64 player2, .int .i64 bit3, .agg nonce4] R h :=
  evFn_sound mixed Try.func12 (by kernel_rfl) (draw_New.eq m0 game1 player2 bit3 nonce4 R h ▸ H)

/-! slices.Concat[[]byte,byte] -/
def slices_Concat_byte_byte.body (slices0 : Sl) (R : Value → Heap → Prop) (h : Heap) : Prop :=
  loopW (fun X_2 (s_1 : Int × Int) (h : Heap) =>
  if (decide (s_1.2 < ((slices0.n : Int)))) = true then
  idxK slices0 s_1.2 (sizeOfT Try.prog T.sl_uint8) (fun (a_3 : Addr) =>
  loadK .slice h ((some a_3)) (fun (v4 : Sl) =>
  if (decide ((IntKind.i64.wrap (s_1.1 + ((v4.n : Int)))) < 0)) = true then
  opK Try.prog .any (Instr.makeInterface T.string (.string ((⟨#[108, 101, 110, 32, 111, 117, 116, 32, 111, 102, 32, 114, 97, 110, 103, 101]⟩ : ByteArray)))) (fun (v5 : Value) h =>
  False) h
  else
  X_2 (IntKind.i64.wrap (s_1.1 + ((v4.n : Int))), IntKind.i64.wrap (s_1.2 + 1)) h))
  else
  callK Try.prog .slice F.slices_Grow_byte_byte #[.slice none 0 0, .int .i64 s_1.1] (fun (v6 : Sl) h =>
  loopW (fun X_8 (s_7 : Sl × Int) (h : Heap) =>
  if (decide (s_7.2 < ((slices0.n : Int)))) = true then
  idxK slices0 s_7.2 (sizeOfT Try.prog T.sl_uint8) (fun (a_9 : Addr) =>
  loadK .slice h ((some a_9)) (fun (v10 : Sl) =>
  opK Try.prog .slice (Builtin.append_ #[T.sl_uint8, T.sl_uint8] T.sl_uint8 #[.slice s_7.1.a s_7.1.n s_7.1.c, .slice v10.a v10.n v10.c]) (fun (v11 : Sl) h =>
  X_8 (v11, IntKind.i64.wrap (s_7.2 + 1)) h) h))
  else
  R (.slice s_7.1.a s_7.1.n s_7.1.c) h) (v6, 0) h) h) (0, 0) h
def slices_Concat_byte_byte.ann : Ann := (.seq .leaf (.seq .leaf (.seq (.seq .leaf (.block (.loop [(3, (.int .i64)), (11, (.int .i64))] (.seq .leaf (.seq (.cond .leaf .leaf) (.seq (.block (.seq .leaf (.seq .leaf (.seq .leaf (.cond .leaf .leaf))))) .leaf)))))) (.seq .leaf (.seq (.seq .leaf (.block (.loop [(6, .slice), (27, (.int .i64))] (.seq .leaf (.seq (.cond .leaf .leaf) (.seq (.block (.seq .leaf .leaf)) .leaf)))))) (.seq .leaf .leaf))))))
theorem slices_Concat_byte_byte.eq (slices0 : Sl) (R : Value → Heap → Prop) (h : Heap) : slices_Concat_byte_byte.body slices0 R h = evFn Try.prog Try.f48 slices_Concat_byte_byte.ann [.slice slices0.a slices0.n slices0.c] R h := by kernel_rfl
theorem slices_Concat_byte_byte.calls {slices0 : Sl} {R : Value → Heap → Prop} {h : Heap} (H : slices_Concat_byte_byte.body slices0 R h) : HC Try.prog F.slices_Concat_byte_byte #[.slice slices0.a slices0.n slices0.c] R h :=
  evFn_sound mixed Try.func48 (by kernel_rfl) (slices_Concat_byte_byte.eq slices0 R h ▸ H)

/-! zugzwang/bits.Words -/
def bits_Words.body (b0 : Sl) (R : Value → Heap → Prop) (h : Heap) : Prop :=
  divK 4
  (if ((Int.tmod ((b0.n : Int)) 4) != 0) = true then
  R (.tuple #[.slice none 0 0, .int .i64 4]) h
  else
  callK Try.prog .slice F.slices_Clone_byte_byte #[.slice b0.a b0.n b0.c] (fun (v1 : Sl) h =>
  buildK Try.prog (Instr.build T.bits_row #[(0, (.slice v1.a v1.n v1.c))]) (fun (v2 : Array Value) =>
  buildK Try.prog (Instr.build T.bits_reader #[(0, (.agg v2))]) (fun (v3 : Array Value) =>
  newK h (zerosOf Try.prog T.bits_reader) T.bits_reader (fun (r4 : Option Addr) h =>
  storeAggK (sizeOfT Try.prog T.bits_reader) h r4 v3 (fun h =>
  divK 4
  (loopW (fun X_6 (s_5 : Int) (h : Heap) =>
  if (decide (s_5 < (IntKind.i64.wrap (Int.tdiv ((b0.n : Int)) 4)))) = true then
  fldK r4 1 (fun (a_7 : Addr) =>
  fldK r4 0 (fun (a_8 : Addr) =>
  loadK .slice h ((some a_7)) (fun (v9 : Sl) =>
  callK Try.prog (.int .u32) F.bits_row_take #[(.pointer ((some a_8)))] (fun (v10 : Int) h =>
  stillK .slice h ((some a_7)) v9 ∧
  newSlK h 1 #[.int .u32 v10] T.uint32 (fun v11 h =>
  opK Try.prog .slice (Builtin.append_ #[T.sl_uint32, T.sl_uint32] T.sl_uint32 #[.slice v9.a v9.n v9.c, .slice v11.a v11.n v11.c]) (fun (v12 : Sl) h =>
  fldK r4 1 (fun (a_13 : Addr) =>
  storeK h ((some a_13)) (.slice v12.a v12.n v12.c) (fun h =>
  X_6 (IntKind.i64.wrap (s_5 + 1)) h))) h)) h)))
  else
  fldK r4 1 (fun (a_14 : Addr) =>
  loadK .slice h ((some a_14)) (fun (v15 : Sl) =>
  R (.tuple #[.slice v15.a v15.n v15.c, .int .i64 0]) h))) 0 h)))))) h)
def bits_Words.ann : Ann := (.seq .leaf (.seq (.seq .leaf (.cond (.seq .leaf .leaf) .leaf)) (.seq .leaf (.seq (.seq .leaf (.block (.loop [(16, (.int .i64))] (.seq .leaf (.seq (.cond .leaf .leaf) (.seq (.block (.any (.loc 0 (.loc 2 (.st 1 224 (.last 3 (.last 4 (.last 5 (.loc 6 (.last 7 .done)))))))))) .leaf)))))) (.seq .leaf .leaf)))))
theorem bits_Words.eq (b0 : Sl) (R : Value → Heap → Prop) (h : Heap) : bits_Words.body b0 R h = evFn Try.prog Try.f56 bits_Words.ann [.slice b0.a b0.n b0.c] R h := by kernel_rfl
theorem bits_Words.calls {b0 : Sl} {R : Value → Heap → Prop} {h : Heap} (H : bits_Words.body b0 R h) : HC Try.prog F.bits_Words #[.slice b0.a b0.n b0.c] R h :=
  evFn_sound mixed Try.func56 (by kernel_rfl) (bits_Words.eq b0 R h ▸ H)

/-! (zugzwang/tags.book).ask -/
def tags_book_ask.body (b0 : Array Value) (x1 : Array Value) (R : Value → Heap → Prop) (h : Heap) : Prop :=
  newK h b0 T.tags_book (fun (b_1 : Option Addr) h =>
  newK h x1 T.tags_thing (fun (x_2 : Option Addr) h =>
  newK h (zerosOf Try.prog T.api_Tag) T.api_Tag (fun (v3 : Option Addr) h =>
  fldK b_1 0 (fun (a_4 : Addr) =>
  loadK .map h ((some a_4)) (fun (v5 : Option Nat) =>
  loadAggK (sizeOfT Try.prog T.tags_thing) h x_2 (fun (v6 : Array Value) =>
  quietK Try.prog (Kd.pair (.int .i64) .bool) (Instr.lookup T.map_atags_thing_int (.map v5) (.agg v6) true) (fun (v7 : Int × Bool) =>
  if (!v7.2) = true then
  fldK b_1 0 (fun (a_8 : Addr) =>
  loadK .map h ((some a_8)) (fun (v9 : Option Nat) =>
  quietK Try.prog (.int .i64) (Builtin.len_ #[T.map_atags_thing_int] T.int #[(.map v9)]) (fun (v10 : Int) =>
  fldK b_1 0 (fun (a_11 : Addr) =>
  loadK .map h ((some a_11)) (fun (v12 : Option Nat) =>
  loadAggK (sizeOfT Try.prog T.tags_thing) h x_2 (fun (v13 : Array Value) =>
  unitK Try.prog (Instr.mapUpdate T.map_atags_thing_int (.map v12) (.agg v13) (.int .i64 v10)) (fun h =>
  callK Try.prog .agg F.tags_number #[.int .i64 v10] (fun (v14 : Array Value) h =>
  storeAggK (sizeOfT Try.prog T.api_Tag) h v3 v14 (fun h =>
  quietK Try.prog .agg (Instr.loadAt T.api_Tag (.pointer v3)) (fun r15 =>
  R (.agg r15) h) h)) h) h)))) h))
  else
  callK Try.prog .agg F.tags_number #[.int .i64 v7.1] (fun (v16 : Array Value) h =>
  storeAggK (sizeOfT Try.prog T.api_Tag) h v3 v16 (fun h =>
  quietK Try.prog .agg (Instr.loadAt T.api_Tag (.pointer v3)) (fun r17 =>
  R (.agg r17) h) h)) h) h))))))
def tags_book_ask.ann : Ann := (.seq .leaf (.seq .leaf (.seq (.seq .leaf (.cond (.seq .leaf .leaf) .leaf)) (.seq .leaf .leaf))))
theorem tags_book_ask.eq (b0 : Array Value) (x1 : Array Value) (R : Value → Heap → Prop) (h : Heap) : tags_book_ask.body b0 x1 R h = evFn Try.prog Try.f28 tags_book_ask.ann [.agg b0, .agg x1] R h := by kernel_rfl
theorem tags_book_ask.calls {b0 : Array Value} {x1 : Array Value} {R : Value → Heap → Prop} {h : Heap} (H : tags_book_ask.body b0 x1 R h) : HC Try.prog F.tags_book_ask #[.agg b0, .agg x1] R h :=
  evFn_sound mixed Try.func28 (by kernel_rfl) (tags_book_ask.eq b0 x1 R h ▸ H)

end Go.Proofs.Ytgllngcoclnpeaa
