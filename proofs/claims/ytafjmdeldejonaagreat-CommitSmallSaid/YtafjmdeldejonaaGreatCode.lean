import Derived.Test.YtafjmdeldejonaaGreatCode2
import Derived.Test.YtafjmdeldejonaaGreatSig
set_option linter.unusedVariables false
set_option maxRecDepth 100000
namespace Go.Proofs.YtafjmdeldejonaaGreat
open Go.Ev
/-! zugzwang/commit.Coin -/
abbrev commit_Coin.tail (m : Option Addr) (b : Bool) (a : Array Value) (z : Option Addr) (R : Value → Heap → Prop) (s : Sl) (h : Heap) : Prop :=
  callK Tryz.prog (Kd.pair .agg (.int .i64)) F.commit_some #[.pointer m, .bool b, .agg a, .slice s.a s.n s.c] (fun (v : Array Value × Int) h =>
  storeAggK (sizeOfT Tryz.prog T.api_Tag) h z v.1 (fun h =>
  quietK Tryz.prog .agg (Instr.loadAt T.api_Tag (.pointer z)) (fun r =>
  R (.tuple #[.agg r, .int .i64 v.2]) h) h)) h
abbrev q0b (n : Int) (h : Heap) (K : Sl → Heap → Prop) : Prop := newSlK h 1 #[.int .u8 (IntKind.u8.wrap n)] T.uint8 K
abbrev q0q (a b c d : Sl) (h : Heap) (K : Sl → Heap → Prop) : Prop := newSlK h 4 #[.slice a.a a.n a.c, .slice b.a b.n b.c, .slice c.a c.n c.c, .slice d.a d.n d.c] T.sl_uint8 K
abbrev q0v (s : Sl) (K : Sl → Heap → Prop) (h : Heap) : Prop := opK Tryz.prog .slice (convert T.sl_uint8 T.sl_uint8 (.slice s.a s.n s.c)) K h
def commit_Coin.body (m0 : Option Addr) (game1 : Array Value) (player2 : Int) (side3 : Int) (nonce4 : Array Value) (R : Value → Heap → Prop) (h : Heap) : Prop :=
  newK h game1 T.api_Tag (fun (game_1 : Option Addr) h =>
  newK h nonce4 T.api_Tag (fun (nonce_2 : Option Addr) h =>
  newK h (zerosOf Tryz.prog T.api_Tag) T.api_Tag (fun (v3 : Option Addr) h =>
  sliceArrK game_1 32 none none none (sizeOfT Tryz.prog T.uint8) (fun (v4 : Sl) =>
  loadAggK (sizeOfT Tryz.prog T.api_Tag) h nonce_2 (fun (v5 : Array Value) =>
  ((callK Tryz.prog .bool F.commit_bit #[.int .i64 player2] (fun (v6 : Bool) h =>
  stillAggK (sizeOfT Tryz.prog T.api_Tag) h nonce_2 v5 ∧
  if v6 = true then
  ((callK Tryz.prog .bool F.commit_bit #[.int .i64 side3] (fun (v7 : Bool) h =>
  stillAggK (sizeOfT Tryz.prog T.api_Tag) h nonce_2 v5 ∧
  ((newSlK h 4 #[.int .u8 99, .int .u8 111, .int .u8 105, .int .u8 110] T.uint8 (fun v8 h =>
  ((q0v v8 (fun v9 h =>
  ((q0b player2 h (fun v10 h =>
  q0b side3 h (fun v11 h =>
  q0q v9 v4 v10 v11 h (fun v12 h =>
  commit_Coin.tail m0 v7 v5 v3 R v12 h)))) ∧
  (q0b side3 h (fun v15 h =>
  q0b player2 h (fun v16 h =>
  q0q v9 v4 v16 v15 h (fun v17 h =>
  commit_Coin.tail m0 v7 v5 v3 R v17 h)))))) h) ∧
  (((q0b player2 h (fun v20 h =>
  ((q0v v8 (fun v21 h =>
  q0b side3 h (fun v22 h =>
  q0q v21 v4 v20 v22 h (fun v23 h =>
  commit_Coin.tail m0 v7 v5 v3 R v23 h))) h) ∧
  (q0b side3 h (fun v26 h =>
  q0v v8 (fun v27 h =>
  q0q v27 v4 v20 v26 h (fun v28 h =>
  commit_Coin.tail m0 v7 v5 v3 R v28 h)) h))))) ∧
  (q0b side3 h (fun v31 h =>
  ((q0v v8 (fun v32 h =>
  q0b player2 h (fun v33 h =>
  q0q v32 v4 v33 v31 h (fun v34 h =>
  commit_Coin.tail m0 v7 v5 v3 R v34 h))) h) ∧
  (q0b player2 h (fun v37 h =>
  q0v v8 (fun v38 h =>
  q0q v38 v4 v37 v31 h (fun v39 h =>
  commit_Coin.tail m0 v7 v5 v3 R v39 h)) h)))))))))) ∧
  (((q0b player2 h (fun v42 h =>
  ((newSlK h 4 #[.int .u8 99, .int .u8 111, .int .u8 105, .int .u8 110] T.uint8 (fun v43 h =>
  ((q0v v43 (fun v44 h =>
  q0b side3 h (fun v45 h =>
  q0q v44 v4 v42 v45 h (fun v46 h =>
  commit_Coin.tail m0 v7 v5 v3 R v46 h))) h) ∧
  (q0b side3 h (fun v49 h =>
  q0v v43 (fun v50 h =>
  q0q v50 v4 v42 v49 h (fun v51 h =>
  commit_Coin.tail m0 v7 v5 v3 R v51 h)) h))))) ∧
  (q0b side3 h (fun v54 h =>
  newSlK h 4 #[.int .u8 99, .int .u8 111, .int .u8 105, .int .u8 110] T.uint8 (fun v55 h =>
  q0v v55 (fun v56 h =>
  q0q v56 v4 v42 v54 h (fun v57 h =>
  commit_Coin.tail m0 v7 v5 v3 R v57 h)) h)))))) ∧
  (q0b side3 h (fun v60 h =>
  ((newSlK h 4 #[.int .u8 99, .int .u8 111, .int .u8 105, .int .u8 110] T.uint8 (fun v61 h =>
  ((q0v v61 (fun v62 h =>
  q0b player2 h (fun v63 h =>
  q0q v62 v4 v63 v60 h (fun v64 h =>
  commit_Coin.tail m0 v7 v5 v3 R v64 h))) h) ∧
  (q0b player2 h (fun v67 h =>
  q0v v61 (fun v68 h =>
  q0q v68 v4 v67 v60 h (fun v69 h =>
  commit_Coin.tail m0 v7 v5 v3 R v69 h)) h))))) ∧
  (q0b player2 h (fun v72 h =>
  newSlK h 4 #[.int .u8 99, .int .u8 111, .int .u8 105, .int .u8 110] T.uint8 (fun v73 h =>
  q0v v73 (fun v74 h =>
  q0q v74 v4 v72 v60 h (fun v75 h =>
  commit_Coin.tail m0 v7 v5 v3 R v75 h)) h)))))))))) h) ∧
  (((newSlK h 4 #[.int .u8 99, .int .u8 111, .int .u8 105, .int .u8 110] T.uint8 (fun v78 h =>
  ((callK Tryz.prog .bool F.commit_bit #[.int .i64 side3] (fun (v79 : Bool) h =>
  stillAggK (sizeOfT Tryz.prog T.api_Tag) h nonce_2 v5 ∧
  ((q0v v78 (fun v80 h =>
  ((q0b player2 h (fun v81 h =>
  q0b side3 h (fun v82 h =>
  q0q v80 v4 v81 v82 h (fun v83 h =>
  commit_Coin.tail m0 v79 v5 v3 R v83 h)))) ∧
  (q0b side3 h (fun v86 h =>
  q0b player2 h (fun v87 h =>
  q0q v80 v4 v87 v86 h (fun v88 h =>
  commit_Coin.tail m0 v79 v5 v3 R v88 h)))))) h) ∧
  (((q0b player2 h (fun v91 h =>
  ((q0v v78 (fun v92 h =>
  q0b side3 h (fun v93 h =>
  q0q v92 v4 v91 v93 h (fun v94 h =>
  commit_Coin.tail m0 v79 v5 v3 R v94 h))) h) ∧
  (q0b side3 h (fun v97 h =>
  q0v v78 (fun v98 h =>
  q0q v98 v4 v91 v97 h (fun v99 h =>
  commit_Coin.tail m0 v79 v5 v3 R v99 h)) h))))) ∧
  (q0b side3 h (fun v102 h =>
  ((q0v v78 (fun v103 h =>
  q0b player2 h (fun v104 h =>
  q0q v103 v4 v104 v102 h (fun v105 h =>
  commit_Coin.tail m0 v79 v5 v3 R v105 h))) h) ∧
  (q0b player2 h (fun v108 h =>
  q0v v78 (fun v109 h =>
  q0q v109 v4 v108 v102 h (fun v110 h =>
  commit_Coin.tail m0 v79 v5 v3 R v110 h)) h))))))))) h) ∧
  (((q0v v78 (fun v113 h =>
  ((callK Tryz.prog .bool F.commit_bit #[.int .i64 side3] (fun (v114 : Bool) h =>
  stillAggK (sizeOfT Tryz.prog T.api_Tag) h nonce_2 v5 ∧
  ((q0b player2 h (fun v115 h =>
  q0b side3 h (fun v116 h =>
  q0q v113 v4 v115 v116 h (fun v117 h =>
  commit_Coin.tail m0 v114 v5 v3 R v117 h)))) ∧
  (q0b side3 h (fun v120 h =>
  q0b player2 h (fun v121 h =>
  q0q v113 v4 v121 v120 h (fun v122 h =>
  commit_Coin.tail m0 v114 v5 v3 R v122 h)))))) h) ∧
  (((q0b player2 h (fun v125 h =>
  ((callK Tryz.prog .bool F.commit_bit #[.int .i64 side3] (fun (v126 : Bool) h =>
  stillAggK (sizeOfT Tryz.prog T.api_Tag) h nonce_2 v5 ∧
  q0b side3 h (fun v127 h =>
  q0q v113 v4 v125 v127 h (fun v128 h =>
  commit_Coin.tail m0 v126 v5 v3 R v128 h))) h) ∧
  (q0b side3 h (fun v131 h =>
  ((callK Tryz.prog .bool F.commit_bit #[.int .i64 side3] (fun (v132 : Bool) h =>
  stillAggK (sizeOfT Tryz.prog T.api_Tag) h nonce_2 v5 ∧
  q0q v113 v4 v125 v131 h (fun v133 h =>
  commit_Coin.tail m0 v132 v5 v3 R v133 h)) h) ∧
  (q0q v113 v4 v125 v131 h (fun v136 h =>
  callK Tryz.prog .bool F.commit_bit #[.int .i64 side3] (fun (v137 : Bool) h =>
  stillAggK (sizeOfT Tryz.prog T.api_Tag) h nonce_2 v5 ∧
  commit_Coin.tail m0 v137 v5 v3 R v136 h) h)))))))) ∧
  (q0b side3 h (fun v140 h =>
  ((callK Tryz.prog .bool F.commit_bit #[.int .i64 side3] (fun (v141 : Bool) h =>
  stillAggK (sizeOfT Tryz.prog T.api_Tag) h nonce_2 v5 ∧
  q0b player2 h (fun v142 h =>
  q0q v113 v4 v142 v140 h (fun v143 h =>
  commit_Coin.tail m0 v141 v5 v3 R v143 h))) h) ∧
  (q0b player2 h (fun v146 h =>
  ((callK Tryz.prog .bool F.commit_bit #[.int .i64 side3] (fun (v147 : Bool) h =>
  stillAggK (sizeOfT Tryz.prog T.api_Tag) h nonce_2 v5 ∧
  q0q v113 v4 v146 v140 h (fun v148 h =>
  commit_Coin.tail m0 v147 v5 v3 R v148 h)) h) ∧
  (q0q v113 v4 v146 v140 h (fun v151 h =>
  callK Tryz.prog .bool F.commit_bit #[.int .i64 side3] (fun (v152 : Bool) h =>
  stillAggK (sizeOfT Tryz.prog T.api_Tag) h nonce_2 v5 ∧
  commit_Coin.tail m0 v152 v5 v3 R v151 h) h)))))))))))) h) ∧
  (((q0b player2 h (fun v155 h =>
  ((callK Tryz.prog .bool F.commit_bit #[.int .i64 side3] (fun (v156 : Bool) h =>
  stillAggK (sizeOfT Tryz.prog T.api_Tag) h nonce_2 v5 ∧
  ((q0v v78 (fun v157 h =>
  q0b side3 h (fun v158 h =>
  q0q v157 v4 v155 v158 h (fun v159 h =>
  commit_Coin.tail m0 v156 v5 v3 R v159 h))) h) ∧
  (q0b side3 h (fun v162 h =>
  q0v v78 (fun v163 h =>
  q0q v163 v4 v155 v162 h (fun v164 h =>
  commit_Coin.tail m0 v156 v5 v3 R v164 h)) h)))) h) ∧
  (((q0v v78 (fun v167 h =>
  ((callK Tryz.prog .bool F.commit_bit #[.int .i64 side3] (fun (v168 : Bool) h =>
  stillAggK (sizeOfT Tryz.prog T.api_Tag) h nonce_2 v5 ∧
  q0b side3 h (fun v169 h =>
  q0q v167 v4 v155 v169 h (fun v170 h =>
  commit_Coin.tail m0 v168 v5 v3 R v170 h))) h) ∧
  (q0b side3 h (fun v173 h =>
  ((callK Tryz.prog .bool F.commit_bit #[.int .i64 side3] (fun (v174 : Bool) h =>
  stillAggK (sizeOfT Tryz.prog T.api_Tag) h nonce_2 v5 ∧
  q0q v167 v4 v155 v173 h (fun v175 h =>
  commit_Coin.tail m0 v174 v5 v3 R v175 h)) h) ∧
  (q0q v167 v4 v155 v173 h (fun v178 h =>
  callK Tryz.prog .bool F.commit_bit #[.int .i64 side3] (fun (v179 : Bool) h =>
  stillAggK (sizeOfT Tryz.prog T.api_Tag) h nonce_2 v5 ∧
  commit_Coin.tail m0 v179 v5 v3 R v178 h) h))))))) h) ∧
  (q0b side3 h (fun v182 h =>
  ((callK Tryz.prog .bool F.commit_bit #[.int .i64 side3] (fun (v183 : Bool) h =>
  stillAggK (sizeOfT Tryz.prog T.api_Tag) h nonce_2 v5 ∧
  q0v v78 (fun v184 h =>
  q0q v184 v4 v155 v182 h (fun v185 h =>
  commit_Coin.tail m0 v183 v5 v3 R v185 h)) h) h) ∧
  (q0v v78 (fun v188 h =>
  ((callK Tryz.prog .bool F.commit_bit #[.int .i64 side3] (fun (v189 : Bool) h =>
  stillAggK (sizeOfT Tryz.prog T.api_Tag) h nonce_2 v5 ∧
  q0q v188 v4 v155 v182 h (fun v190 h =>
  commit_Coin.tail m0 v189 v5 v3 R v190 h)) h) ∧
  (q0q v188 v4 v155 v182 h (fun v193 h =>
  callK Tryz.prog .bool F.commit_bit #[.int .i64 side3] (fun (v194 : Bool) h =>
  stillAggK (sizeOfT Tryz.prog T.api_Tag) h nonce_2 v5 ∧
  commit_Coin.tail m0 v194 v5 v3 R v193 h) h)))) h))))))))) ∧
  (q0b side3 h (fun v197 h =>
  ((callK Tryz.prog .bool F.commit_bit #[.int .i64 side3] (fun (v198 : Bool) h =>
  stillAggK (sizeOfT Tryz.prog T.api_Tag) h nonce_2 v5 ∧
  ((q0v v78 (fun v199 h =>
  q0b player2 h (fun v200 h =>
  q0q v199 v4 v200 v197 h (fun v201 h =>
  commit_Coin.tail m0 v198 v5 v3 R v201 h))) h) ∧
  (q0b player2 h (fun v204 h =>
  q0v v78 (fun v205 h =>
  q0q v205 v4 v204 v197 h (fun v206 h =>
  commit_Coin.tail m0 v198 v5 v3 R v206 h)) h)))) h) ∧
  (((q0v v78 (fun v209 h =>
  ((callK Tryz.prog .bool F.commit_bit #[.int .i64 side3] (fun (v210 : Bool) h =>
  stillAggK (sizeOfT Tryz.prog T.api_Tag) h nonce_2 v5 ∧
  q0b player2 h (fun v211 h =>
  q0q v209 v4 v211 v197 h (fun v212 h =>
  commit_Coin.tail m0 v210 v5 v3 R v212 h))) h) ∧
  (q0b player2 h (fun v215 h =>
  ((callK Tryz.prog .bool F.commit_bit #[.int .i64 side3] (fun (v216 : Bool) h =>
  stillAggK (sizeOfT Tryz.prog T.api_Tag) h nonce_2 v5 ∧
  q0q v209 v4 v215 v197 h (fun v217 h =>
  commit_Coin.tail m0 v216 v5 v3 R v217 h)) h) ∧
  (q0q v209 v4 v215 v197 h (fun v220 h =>
  callK Tryz.prog .bool F.commit_bit #[.int .i64 side3] (fun (v221 : Bool) h =>
  stillAggK (sizeOfT Tryz.prog T.api_Tag) h nonce_2 v5 ∧
  commit_Coin.tail m0 v221 v5 v3 R v220 h) h))))))) h) ∧
  (q0b player2 h (fun v224 h =>
  ((callK Tryz.prog .bool F.commit_bit #[.int .i64 side3] (fun (v225 : Bool) h =>
  stillAggK (sizeOfT Tryz.prog T.api_Tag) h nonce_2 v5 ∧
  q0v v78 (fun v226 h =>
  q0q v226 v4 v224 v197 h (fun v227 h =>
  commit_Coin.tail m0 v225 v5 v3 R v227 h)) h) h) ∧
  (q0v v78 (fun v230 h =>
  ((callK Tryz.prog .bool F.commit_bit #[.int .i64 side3] (fun (v231 : Bool) h =>
  stillAggK (sizeOfT Tryz.prog T.api_Tag) h nonce_2 v5 ∧
  q0q v230 v4 v224 v197 h (fun v232 h =>
  commit_Coin.tail m0 v231 v5 v3 R v232 h)) h) ∧
  (q0q v230 v4 v224 v197 h (fun v235 h =>
  callK Tryz.prog .bool F.commit_bit #[.int .i64 side3] (fun (v236 : Bool) h =>
  stillAggK (sizeOfT Tryz.prog T.api_Tag) h nonce_2 v5 ∧
  commit_Coin.tail m0 v236 v5 v3 R v235 h) h)))) h)))))))))))))))) ∧
  (((q0b player2 h (fun v239 h =>
  ((callK Tryz.prog .bool F.commit_bit #[.int .i64 side3] (fun (v240 : Bool) h =>
  stillAggK (sizeOfT Tryz.prog T.api_Tag) h nonce_2 v5 ∧
  ((newSlK h 4 #[.int .u8 99, .int .u8 111, .int .u8 105, .int .u8 110] T.uint8 (fun v241 h =>
  ((q0v v241 (fun v242 h =>
  q0b side3 h (fun v243 h =>
  q0q v242 v4 v239 v243 h (fun v244 h =>
  commit_Coin.tail m0 v240 v5 v3 R v244 h))) h) ∧
  (q0b side3 h (fun v247 h =>
  q0v v241 (fun v248 h =>
  q0q v248 v4 v239 v247 h (fun v249 h =>
  commit_Coin.tail m0 v240 v5 v3 R v249 h)) h))))) ∧
  (q0b side3 h (fun v252 h =>
  newSlK h 4 #[.int .u8 99, .int .u8 111, .int .u8 105, .int .u8 110] T.uint8 (fun v253 h =>
  q0v v253 (fun v254 h =>
  q0q v254 v4 v239 v252 h (fun v255 h =>
  commit_Coin.tail m0 v240 v5 v3 R v255 h)) h))))) h) ∧
  (((newSlK h 4 #[.int .u8 99, .int .u8 111, .int .u8 105, .int .u8 110] T.uint8 (fun v258 h =>
  ((callK Tryz.prog .bool F.commit_bit #[.int .i64 side3] (fun (v259 : Bool) h =>
  stillAggK (sizeOfT Tryz.prog T.api_Tag) h nonce_2 v5 ∧
  ((q0v v258 (fun v260 h =>
  q0b side3 h (fun v261 h =>
  q0q v260 v4 v239 v261 h (fun v262 h =>
  commit_Coin.tail m0 v259 v5 v3 R v262 h))) h) ∧
  (q0b side3 h (fun v265 h =>
  q0v v258 (fun v266 h =>
  q0q v266 v4 v239 v265 h (fun v267 h =>
  commit_Coin.tail m0 v259 v5 v3 R v267 h)) h)))) h) ∧
  (((q0v v258 (fun v270 h =>
  ((callK Tryz.prog .bool F.commit_bit #[.int .i64 side3] (fun (v271 : Bool) h =>
  stillAggK (sizeOfT Tryz.prog T.api_Tag) h nonce_2 v5 ∧
  q0b side3 h (fun v272 h =>
  q0q v270 v4 v239 v272 h (fun v273 h =>
  commit_Coin.tail m0 v271 v5 v3 R v273 h))) h) ∧
  (q0b side3 h (fun v276 h =>
  ((callK Tryz.prog .bool F.commit_bit #[.int .i64 side3] (fun (v277 : Bool) h =>
  stillAggK (sizeOfT Tryz.prog T.api_Tag) h nonce_2 v5 ∧
  q0q v270 v4 v239 v276 h (fun v278 h =>
  commit_Coin.tail m0 v277 v5 v3 R v278 h)) h) ∧
  (q0q v270 v4 v239 v276 h (fun v281 h =>
  callK Tryz.prog .bool F.commit_bit #[.int .i64 side3] (fun (v282 : Bool) h =>
  stillAggK (sizeOfT Tryz.prog T.api_Tag) h nonce_2 v5 ∧
  commit_Coin.tail m0 v282 v5 v3 R v281 h) h))))))) h) ∧
  (q0b side3 h (fun v285 h =>
  ((callK Tryz.prog .bool F.commit_bit #[.int .i64 side3] (fun (v286 : Bool) h =>
  stillAggK (sizeOfT Tryz.prog T.api_Tag) h nonce_2 v5 ∧
  q0v v258 (fun v287 h =>
  q0q v287 v4 v239 v285 h (fun v288 h =>
  commit_Coin.tail m0 v286 v5 v3 R v288 h)) h) h) ∧
  (q0v v258 (fun v291 h =>
  ((callK Tryz.prog .bool F.commit_bit #[.int .i64 side3] (fun (v292 : Bool) h =>
  stillAggK (sizeOfT Tryz.prog T.api_Tag) h nonce_2 v5 ∧
  q0q v291 v4 v239 v285 h (fun v293 h =>
  commit_Coin.tail m0 v292 v5 v3 R v293 h)) h) ∧
  (q0q v291 v4 v239 v285 h (fun v296 h =>
  callK Tryz.prog .bool F.commit_bit #[.int .i64 side3] (fun (v297 : Bool) h =>
  stillAggK (sizeOfT Tryz.prog T.api_Tag) h nonce_2 v5 ∧
  commit_Coin.tail m0 v297 v5 v3 R v296 h) h)))) h))))))))) ∧
  (q0b side3 h (fun v300 h =>
  ((callK Tryz.prog .bool F.commit_bit #[.int .i64 side3] (fun (v301 : Bool) h =>
  stillAggK (sizeOfT Tryz.prog T.api_Tag) h nonce_2 v5 ∧
  newSlK h 4 #[.int .u8 99, .int .u8 111, .int .u8 105, .int .u8 110] T.uint8 (fun v302 h =>
  q0v v302 (fun v303 h =>
  q0q v303 v4 v239 v300 h (fun v304 h =>
  commit_Coin.tail m0 v301 v5 v3 R v304 h)) h)) h) ∧
  (newSlK h 4 #[.int .u8 99, .int .u8 111, .int .u8 105, .int .u8 110] T.uint8 (fun v307 h =>
  ((callK Tryz.prog .bool F.commit_bit #[.int .i64 side3] (fun (v308 : Bool) h =>
  stillAggK (sizeOfT Tryz.prog T.api_Tag) h nonce_2 v5 ∧
  q0v v307 (fun v309 h =>
  q0q v309 v4 v239 v300 h (fun v310 h =>
  commit_Coin.tail m0 v308 v5 v3 R v310 h)) h) h) ∧
  (q0v v307 (fun v313 h =>
  ((callK Tryz.prog .bool F.commit_bit #[.int .i64 side3] (fun (v314 : Bool) h =>
  stillAggK (sizeOfT Tryz.prog T.api_Tag) h nonce_2 v5 ∧
  q0q v313 v4 v239 v300 h (fun v315 h =>
  commit_Coin.tail m0 v314 v5 v3 R v315 h)) h) ∧
  (q0q v313 v4 v239 v300 h (fun v318 h =>
  callK Tryz.prog .bool F.commit_bit #[.int .i64 side3] (fun (v319 : Bool) h =>
  stillAggK (sizeOfT Tryz.prog T.api_Tag) h nonce_2 v5 ∧
  commit_Coin.tail m0 v319 v5 v3 R v318 h) h)))) h)))))))))))) ∧
  (q0b side3 h (fun v322 h =>
  ((callK Tryz.prog .bool F.commit_bit #[.int .i64 side3] (fun (v323 : Bool) h =>
  stillAggK (sizeOfT Tryz.prog T.api_Tag) h nonce_2 v5 ∧
  ((newSlK h 4 #[.int .u8 99, .int .u8 111, .int .u8 105, .int .u8 110] T.uint8 (fun v324 h =>
  ((q0v v324 (fun v325 h =>
  q0b player2 h (fun v326 h =>
  q0q v325 v4 v326 v322 h (fun v327 h =>
  commit_Coin.tail m0 v323 v5 v3 R v327 h))) h) ∧
  (q0b player2 h (fun v330 h =>
  q0v v324 (fun v331 h =>
  q0q v331 v4 v330 v322 h (fun v332 h =>
  commit_Coin.tail m0 v323 v5 v3 R v332 h)) h))))) ∧
  (q0b player2 h (fun v335 h =>
  newSlK h 4 #[.int .u8 99, .int .u8 111, .int .u8 105, .int .u8 110] T.uint8 (fun v336 h =>
  q0v v336 (fun v337 h =>
  q0q v337 v4 v335 v322 h (fun v338 h =>
  commit_Coin.tail m0 v323 v5 v3 R v338 h)) h))))) h) ∧
  (((newSlK h 4 #[.int .u8 99, .int .u8 111, .int .u8 105, .int .u8 110] T.uint8 (fun v341 h =>
  ((callK Tryz.prog .bool F.commit_bit #[.int .i64 side3] (fun (v342 : Bool) h =>
  stillAggK (sizeOfT Tryz.prog T.api_Tag) h nonce_2 v5 ∧
  ((q0v v341 (fun v343 h =>
  q0b player2 h (fun v344 h =>
  q0q v343 v4 v344 v322 h (fun v345 h =>
  commit_Coin.tail m0 v342 v5 v3 R v345 h))) h) ∧
  (q0b player2 h (fun v348 h =>
  q0v v341 (fun v349 h =>
  q0q v349 v4 v348 v322 h (fun v350 h =>
  commit_Coin.tail m0 v342 v5 v3 R v350 h)) h)))) h) ∧
  (((q0v v341 (fun v353 h =>
  ((callK Tryz.prog .bool F.commit_bit #[.int .i64 side3] (fun (v354 : Bool) h =>
  stillAggK (sizeOfT Tryz.prog T.api_Tag) h nonce_2 v5 ∧
  q0b player2 h (fun v355 h =>
  q0q v353 v4 v355 v322 h (fun v356 h =>
  commit_Coin.tail m0 v354 v5 v3 R v356 h))) h) ∧
  (q0b player2 h (fun v359 h =>
  ((callK Tryz.prog .bool F.commit_bit #[.int .i64 side3] (fun (v360 : Bool) h =>
  stillAggK (sizeOfT Tryz.prog T.api_Tag) h nonce_2 v5 ∧
  q0q v353 v4 v359 v322 h (fun v361 h =>
  commit_Coin.tail m0 v360 v5 v3 R v361 h)) h) ∧
  (q0q v353 v4 v359 v322 h (fun v364 h =>
  callK Tryz.prog .bool F.commit_bit #[.int .i64 side3] (fun (v365 : Bool) h =>
  stillAggK (sizeOfT Tryz.prog T.api_Tag) h nonce_2 v5 ∧
  commit_Coin.tail m0 v365 v5 v3 R v364 h) h))))))) h) ∧
  (q0b player2 h (fun v368 h =>
  ((callK Tryz.prog .bool F.commit_bit #[.int .i64 side3] (fun (v369 : Bool) h =>
  stillAggK (sizeOfT Tryz.prog T.api_Tag) h nonce_2 v5 ∧
  q0v v341 (fun v370 h =>
  q0q v370 v4 v368 v322 h (fun v371 h =>
  commit_Coin.tail m0 v369 v5 v3 R v371 h)) h) h) ∧
  (q0v v341 (fun v374 h =>
  ((callK Tryz.prog .bool F.commit_bit #[.int .i64 side3] (fun (v375 : Bool) h =>
  stillAggK (sizeOfT Tryz.prog T.api_Tag) h nonce_2 v5 ∧
  q0q v374 v4 v368 v322 h (fun v376 h =>
  commit_Coin.tail m0 v375 v5 v3 R v376 h)) h) ∧
  (q0q v374 v4 v368 v322 h (fun v379 h =>
  callK Tryz.prog .bool F.commit_bit #[.int .i64 side3] (fun (v380 : Bool) h =>
  stillAggK (sizeOfT Tryz.prog T.api_Tag) h nonce_2 v5 ∧
  commit_Coin.tail m0 v380 v5 v3 R v379 h) h)))) h))))))))) ∧
  (q0b player2 h (fun v383 h =>
  ((callK Tryz.prog .bool F.commit_bit #[.int .i64 side3] (fun (v384 : Bool) h =>
  stillAggK (sizeOfT Tryz.prog T.api_Tag) h nonce_2 v5 ∧
  newSlK h 4 #[.int .u8 99, .int .u8 111, .int .u8 105, .int .u8 110] T.uint8 (fun v385 h =>
  q0v v385 (fun v386 h =>
  q0q v386 v4 v383 v322 h (fun v387 h =>
  commit_Coin.tail m0 v384 v5 v3 R v387 h)) h)) h) ∧
  (newSlK h 4 #[.int .u8 99, .int .u8 111, .int .u8 105, .int .u8 110] T.uint8 (fun v390 h =>
  ((callK Tryz.prog .bool F.commit_bit #[.int .i64 side3] (fun (v391 : Bool) h =>
  stillAggK (sizeOfT Tryz.prog T.api_Tag) h nonce_2 v5 ∧
  q0v v390 (fun v392 h =>
  q0q v392 v4 v383 v322 h (fun v393 h =>
  commit_Coin.tail m0 v391 v5 v3 R v393 h)) h) h) ∧
  (q0v v390 (fun v396 h =>
  ((callK Tryz.prog .bool F.commit_bit #[.int .i64 side3] (fun (v397 : Bool) h =>
  stillAggK (sizeOfT Tryz.prog T.api_Tag) h nonce_2 v5 ∧
  q0q v396 v4 v383 v322 h (fun v398 h =>
  commit_Coin.tail m0 v397 v5 v3 R v398 h)) h) ∧
  (q0q v396 v4 v383 v322 h (fun v401 h =>
  callK Tryz.prog .bool F.commit_bit #[.int .i64 side3] (fun (v402 : Bool) h =>
  stillAggK (sizeOfT Tryz.prog T.api_Tag) h nonce_2 v5 ∧
  commit_Coin.tail m0 v402 v5 v3 R v401 h) h)))) h)))))))))))))))))
  else
  ((newSlK h 4 #[.int .u8 99, .int .u8 111, .int .u8 105, .int .u8 110] T.uint8 (fun v405 h =>
  ((q0v v405 (fun v406 h =>
  ((q0b player2 h (fun v407 h =>
  q0b side3 h (fun v408 h =>
  q0q v406 v4 v407 v408 h (fun v409 h =>
  commit_Coin.tail m0 false v5 v3 R v409 h)))) ∧
  (q0b side3 h (fun v412 h =>
  q0b player2 h (fun v413 h =>
  q0q v406 v4 v413 v412 h (fun v414 h =>
  commit_Coin.tail m0 false v5 v3 R v414 h)))))) h) ∧
  (((q0b player2 h (fun v417 h =>
  ((q0v v405 (fun v418 h =>
  q0b side3 h (fun v419 h =>
  q0q v418 v4 v417 v419 h (fun v420 h =>
  commit_Coin.tail m0 false v5 v3 R v420 h))) h) ∧
  (q0b side3 h (fun v423 h =>
  q0v v405 (fun v424 h =>
  q0q v424 v4 v417 v423 h (fun v425 h =>
  commit_Coin.tail m0 false v5 v3 R v425 h)) h))))) ∧
  (q0b side3 h (fun v428 h =>
  ((q0v v405 (fun v429 h =>
  q0b player2 h (fun v430 h =>
  q0q v429 v4 v430 v428 h (fun v431 h =>
  commit_Coin.tail m0 false v5 v3 R v431 h))) h) ∧
  (q0b player2 h (fun v434 h =>
  q0v v405 (fun v435 h =>
  q0q v435 v4 v434 v428 h (fun v436 h =>
  commit_Coin.tail m0 false v5 v3 R v436 h)) h)))))))))) ∧
  (((q0b player2 h (fun v439 h =>
  ((newSlK h 4 #[.int .u8 99, .int .u8 111, .int .u8 105, .int .u8 110] T.uint8 (fun v440 h =>
  ((q0v v440 (fun v441 h =>
  q0b side3 h (fun v442 h =>
  q0q v441 v4 v439 v442 h (fun v443 h =>
  commit_Coin.tail m0 false v5 v3 R v443 h))) h) ∧
  (q0b side3 h (fun v446 h =>
  q0v v440 (fun v447 h =>
  q0q v447 v4 v439 v446 h (fun v448 h =>
  commit_Coin.tail m0 false v5 v3 R v448 h)) h))))) ∧
  (q0b side3 h (fun v451 h =>
  newSlK h 4 #[.int .u8 99, .int .u8 111, .int .u8 105, .int .u8 110] T.uint8 (fun v452 h =>
  q0v v452 (fun v453 h =>
  q0q v453 v4 v439 v451 h (fun v454 h =>
  commit_Coin.tail m0 false v5 v3 R v454 h)) h)))))) ∧
  (q0b side3 h (fun v457 h =>
  ((newSlK h 4 #[.int .u8 99, .int .u8 111, .int .u8 105, .int .u8 110] T.uint8 (fun v458 h =>
  ((q0v v458 (fun v459 h =>
  q0b player2 h (fun v460 h =>
  q0q v459 v4 v460 v457 h (fun v461 h =>
  commit_Coin.tail m0 false v5 v3 R v461 h))) h) ∧
  (q0b player2 h (fun v464 h =>
  q0v v458 (fun v465 h =>
  q0q v465 v4 v464 v457 h (fun v466 h =>
  commit_Coin.tail m0 false v5 v3 R v466 h)) h))))) ∧
  (q0b player2 h (fun v469 h =>
  newSlK h 4 #[.int .u8 99, .int .u8 111, .int .u8 105, .int .u8 110] T.uint8 (fun v470 h =>
  q0v v470 (fun v471 h =>
  q0q v471 v4 v469 v457 h (fun v472 h =>
  commit_Coin.tail m0 false v5 v3 R v472 h)) h)))))))))) h) ∧
  (((newSlK h 4 #[.int .u8 99, .int .u8 111, .int .u8 105, .int .u8 110] T.uint8 (fun v475 h =>
  ((callK Tryz.prog .bool F.commit_bit #[.int .i64 player2] (fun (v476 : Bool) h =>
  stillAggK (sizeOfT Tryz.prog T.api_Tag) h nonce_2 v5 ∧
  if v476 = true then
  ((callK Tryz.prog .bool F.commit_bit #[.int .i64 side3] (fun (v477 : Bool) h =>
  stillAggK (sizeOfT Tryz.prog T.api_Tag) h nonce_2 v5 ∧
  ((q0v v475 (fun v478 h =>
  ((q0b player2 h (fun v479 h =>
  q0b side3 h (fun v480 h =>
  q0q v478 v4 v479 v480 h (fun v481 h =>
  commit_Coin.tail m0 v477 v5 v3 R v481 h)))) ∧
  (q0b side3 h (fun v484 h =>
  q0b player2 h (fun v485 h =>
  q0q v478 v4 v485 v484 h (fun v486 h =>
  commit_Coin.tail m0 v477 v5 v3 R v486 h)))))) h) ∧
  (((q0b player2 h (fun v489 h =>
  ((q0v v475 (fun v490 h =>
  q0b side3 h (fun v491 h =>
  q0q v490 v4 v489 v491 h (fun v492 h =>
  commit_Coin.tail m0 v477 v5 v3 R v492 h))) h) ∧
  (q0b side3 h (fun v495 h =>
  q0v v475 (fun v496 h =>
  q0q v496 v4 v489 v495 h (fun v497 h =>
  commit_Coin.tail m0 v477 v5 v3 R v497 h)) h))))) ∧
  (q0b side3 h (fun v500 h =>
  ((q0v v475 (fun v501 h =>
  q0b player2 h (fun v502 h =>
  q0q v501 v4 v502 v500 h (fun v503 h =>
  commit_Coin.tail m0 v477 v5 v3 R v503 h))) h) ∧
  (q0b player2 h (fun v506 h =>
  q0v v475 (fun v507 h =>
  q0q v507 v4 v506 v500 h (fun v508 h =>
  commit_Coin.tail m0 v477 v5 v3 R v508 h)) h))))))))) h) ∧
  (((q0v v475 (fun v511 h =>
  ((callK Tryz.prog .bool F.commit_bit #[.int .i64 side3] (fun (v512 : Bool) h =>
  stillAggK (sizeOfT Tryz.prog T.api_Tag) h nonce_2 v5 ∧
  ((q0b player2 h (fun v513 h =>
  q0b side3 h (fun v514 h =>
  q0q v511 v4 v513 v514 h (fun v515 h =>
  commit_Coin.tail m0 v512 v5 v3 R v515 h)))) ∧
  (q0b side3 h (fun v518 h =>
  q0b player2 h (fun v519 h =>
  q0q v511 v4 v519 v518 h (fun v520 h =>
  commit_Coin.tail m0 v512 v5 v3 R v520 h)))))) h) ∧
  (((q0b player2 h (fun v523 h =>
  ((callK Tryz.prog .bool F.commit_bit #[.int .i64 side3] (fun (v524 : Bool) h =>
  stillAggK (sizeOfT Tryz.prog T.api_Tag) h nonce_2 v5 ∧
  q0b side3 h (fun v525 h =>
  q0q v511 v4 v523 v525 h (fun v526 h =>
  commit_Coin.tail m0 v524 v5 v3 R v526 h))) h) ∧
  (q0b side3 h (fun v529 h =>
  ((callK Tryz.prog .bool F.commit_bit #[.int .i64 side3] (fun (v530 : Bool) h =>
  stillAggK (sizeOfT Tryz.prog T.api_Tag) h nonce_2 v5 ∧
  q0q v511 v4 v523 v529 h (fun v531 h =>
  commit_Coin.tail m0 v530 v5 v3 R v531 h)) h) ∧
  (q0q v511 v4 v523 v529 h (fun v534 h =>
  callK Tryz.prog .bool F.commit_bit #[.int .i64 side3] (fun (v535 : Bool) h =>
  stillAggK (sizeOfT Tryz.prog T.api_Tag) h nonce_2 v5 ∧
  commit_Coin.tail m0 v535 v5 v3 R v534 h) h)))))))) ∧
  (q0b side3 h (fun v538 h =>
  ((callK Tryz.prog .bool F.commit_bit #[.int .i64 side3] (fun (v539 : Bool) h =>
  stillAggK (sizeOfT Tryz.prog T.api_Tag) h nonce_2 v5 ∧
  q0b player2 h (fun v540 h =>
  q0q v511 v4 v540 v538 h (fun v541 h =>
  commit_Coin.tail m0 v539 v5 v3 R v541 h))) h) ∧
  (q0b player2 h (fun v544 h =>
  ((callK Tryz.prog .bool F.commit_bit #[.int .i64 side3] (fun (v545 : Bool) h =>
  stillAggK (sizeOfT Tryz.prog T.api_Tag) h nonce_2 v5 ∧
  q0q v511 v4 v544 v538 h (fun v546 h =>
  commit_Coin.tail m0 v545 v5 v3 R v546 h)) h) ∧
  (q0q v511 v4 v544 v538 h (fun v549 h =>
  callK Tryz.prog .bool F.commit_bit #[.int .i64 side3] (fun (v550 : Bool) h =>
  stillAggK (sizeOfT Tryz.prog T.api_Tag) h nonce_2 v5 ∧
  commit_Coin.tail m0 v550 v5 v3 R v549 h) h)))))))))))) h) ∧
  (((q0b player2 h (fun v553 h =>
  ((callK Tryz.prog .bool F.commit_bit #[.int .i64 side3] (fun (v554 : Bool) h =>
  stillAggK (sizeOfT Tryz.prog T.api_Tag) h nonce_2 v5 ∧
  ((q0v v475 (fun v555 h =>
  q0b side3 h (fun v556 h =>
  q0q v555 v4 v553 v556 h (fun v557 h =>
  commit_Coin.tail m0 v554 v5 v3 R v557 h))) h) ∧
  (q0b side3 h (fun v560 h =>
  q0v v475 (fun v561 h =>
  q0q v561 v4 v553 v560 h (fun v562 h =>
  commit_Coin.tail m0 v554 v5 v3 R v562 h)) h)))) h) ∧
  (((q0v v475 (fun v565 h =>
  ((callK Tryz.prog .bool F.commit_bit #[.int .i64 side3] (fun (v566 : Bool) h =>
  stillAggK (sizeOfT Tryz.prog T.api_Tag) h nonce_2 v5 ∧
  q0b side3 h (fun v567 h =>
  q0q v565 v4 v553 v567 h (fun v568 h =>
  commit_Coin.tail m0 v566 v5 v3 R v568 h))) h) ∧
  (q0b side3 h (fun v571 h =>
  ((callK Tryz.prog .bool F.commit_bit #[.int .i64 side3] (fun (v572 : Bool) h =>
  stillAggK (sizeOfT Tryz.prog T.api_Tag) h nonce_2 v5 ∧
  q0q v565 v4 v553 v571 h (fun v573 h =>
  commit_Coin.tail m0 v572 v5 v3 R v573 h)) h) ∧
  (q0q v565 v4 v553 v571 h (fun v576 h =>
  callK Tryz.prog .bool F.commit_bit #[.int .i64 side3] (fun (v577 : Bool) h =>
  stillAggK (sizeOfT Tryz.prog T.api_Tag) h nonce_2 v5 ∧
  commit_Coin.tail m0 v577 v5 v3 R v576 h) h))))))) h) ∧
  (q0b side3 h (fun v580 h =>
  ((callK Tryz.prog .bool F.commit_bit #[.int .i64 side3] (fun (v581 : Bool) h =>
  stillAggK (sizeOfT Tryz.prog T.api_Tag) h nonce_2 v5 ∧
  q0v v475 (fun v582 h =>
  q0q v582 v4 v553 v580 h (fun v583 h =>
  commit_Coin.tail m0 v581 v5 v3 R v583 h)) h) h) ∧
  (q0v v475 (fun v586 h =>
  ((callK Tryz.prog .bool F.commit_bit #[.int .i64 side3] (fun (v587 : Bool) h =>
  stillAggK (sizeOfT Tryz.prog T.api_Tag) h nonce_2 v5 ∧
  q0q v586 v4 v553 v580 h (fun v588 h =>
  commit_Coin.tail m0 v587 v5 v3 R v588 h)) h) ∧
  (q0q v586 v4 v553 v580 h (fun v591 h =>
  callK Tryz.prog .bool F.commit_bit #[.int .i64 side3] (fun (v592 : Bool) h =>
  stillAggK (sizeOfT Tryz.prog T.api_Tag) h nonce_2 v5 ∧
  commit_Coin.tail m0 v592 v5 v3 R v591 h) h)))) h))))))))) ∧
  (q0b side3 h (fun v595 h =>
  ((callK Tryz.prog .bool F.commit_bit #[.int .i64 side3] (fun (v596 : Bool) h =>
  stillAggK (sizeOfT Tryz.prog T.api_Tag) h nonce_2 v5 ∧
  ((q0v v475 (fun v597 h =>
  q0b player2 h (fun v598 h =>
  q0q v597 v4 v598 v595 h (fun v599 h =>
  commit_Coin.tail m0 v596 v5 v3 R v599 h))) h) ∧
  (q0b player2 h (fun v602 h =>
  q0v v475 (fun v603 h =>
  q0q v603 v4 v602 v595 h (fun v604 h =>
  commit_Coin.tail m0 v596 v5 v3 R v604 h)) h)))) h) ∧
  (((q0v v475 (fun v607 h =>
  ((callK Tryz.prog .bool F.commit_bit #[.int .i64 side3] (fun (v608 : Bool) h =>
  stillAggK (sizeOfT Tryz.prog T.api_Tag) h nonce_2 v5 ∧
  q0b player2 h (fun v609 h =>
  q0q v607 v4 v609 v595 h (fun v610 h =>
  commit_Coin.tail m0 v608 v5 v3 R v610 h))) h) ∧
  (q0b player2 h (fun v613 h =>
  ((callK Tryz.prog .bool F.commit_bit #[.int .i64 side3] (fun (v614 : Bool) h =>
  stillAggK (sizeOfT Tryz.prog T.api_Tag) h nonce_2 v5 ∧
  q0q v607 v4 v613 v595 h (fun v615 h =>
  commit_Coin.tail m0 v614 v5 v3 R v615 h)) h) ∧
  (q0q v607 v4 v613 v595 h (fun v618 h =>
  callK Tryz.prog .bool F.commit_bit #[.int .i64 side3] (fun (v619 : Bool) h =>
  stillAggK (sizeOfT Tryz.prog T.api_Tag) h nonce_2 v5 ∧
  commit_Coin.tail m0 v619 v5 v3 R v618 h) h))))))) h) ∧
  (q0b player2 h (fun v622 h =>
  ((callK Tryz.prog .bool F.commit_bit #[.int .i64 side3] (fun (v623 : Bool) h =>
  stillAggK (sizeOfT Tryz.prog T.api_Tag) h nonce_2 v5 ∧
  q0v v475 (fun v624 h =>
  q0q v624 v4 v622 v595 h (fun v625 h =>
  commit_Coin.tail m0 v623 v5 v3 R v625 h)) h) h) ∧
  (q0v v475 (fun v628 h =>
  ((callK Tryz.prog .bool F.commit_bit #[.int .i64 side3] (fun (v629 : Bool) h =>
  stillAggK (sizeOfT Tryz.prog T.api_Tag) h nonce_2 v5 ∧
  q0q v628 v4 v622 v595 h (fun v630 h =>
  commit_Coin.tail m0 v629 v5 v3 R v630 h)) h) ∧
  (q0q v628 v4 v622 v595 h (fun v633 h =>
  callK Tryz.prog .bool F.commit_bit #[.int .i64 side3] (fun (v634 : Bool) h =>
  stillAggK (sizeOfT Tryz.prog T.api_Tag) h nonce_2 v5 ∧
  commit_Coin.tail m0 v634 v5 v3 R v633 h) h)))) h))))))))))))))
  else
  ((q0v v475 (fun v637 h =>
  ((q0b player2 h (fun v638 h =>
  q0b side3 h (fun v639 h =>
  q0q v637 v4 v638 v639 h (fun v640 h =>
  commit_Coin.tail m0 false v5 v3 R v640 h)))) ∧
  (q0b side3 h (fun v643 h =>
  q0b player2 h (fun v644 h =>
  q0q v637 v4 v644 v643 h (fun v645 h =>
  commit_Coin.tail m0 false v5 v3 R v645 h)))))) h) ∧
  (((q0b player2 h (fun v648 h =>
  ((q0v v475 (fun v649 h =>
  q0b side3 h (fun v650 h =>
  q0q v649 v4 v648 v650 h (fun v651 h =>
  commit_Coin.tail m0 false v5 v3 R v651 h))) h) ∧
  (q0b side3 h (fun v654 h =>
  q0v v475 (fun v655 h =>
  q0q v655 v4 v648 v654 h (fun v656 h =>
  commit_Coin.tail m0 false v5 v3 R v656 h)) h))))) ∧
  (q0b side3 h (fun v659 h =>
  ((q0v v475 (fun v660 h =>
  q0b player2 h (fun v661 h =>
  q0q v660 v4 v661 v659 h (fun v662 h =>
  commit_Coin.tail m0 false v5 v3 R v662 h))) h) ∧
  (q0b player2 h (fun v665 h =>
  q0v v475 (fun v666 h =>
  q0q v666 v4 v665 v659 h (fun v667 h =>
  commit_Coin.tail m0 false v5 v3 R v667 h)) h))))))))) h) ∧
  (((q0v v475 (fun v670 h =>
  ((callK Tryz.prog .bool F.commit_bit #[.int .i64 player2] (fun (v671 : Bool) h =>
  stillAggK (sizeOfT Tryz.prog T.api_Tag) h nonce_2 v5 ∧
  if v671 = true then
  ((callK Tryz.prog .bool F.commit_bit #[.int .i64 side3] (fun (v672 : Bool) h =>
  stillAggK (sizeOfT Tryz.prog T.api_Tag) h nonce_2 v5 ∧
  ((q0b player2 h (fun v673 h =>
  q0b side3 h (fun v674 h =>
  q0q v670 v4 v673 v674 h (fun v675 h =>
  commit_Coin.tail m0 v672 v5 v3 R v675 h)))) ∧
  (q0b side3 h (fun v678 h =>
  q0b player2 h (fun v679 h =>
  q0q v670 v4 v679 v678 h (fun v680 h =>
  commit_Coin.tail m0 v672 v5 v3 R v680 h)))))) h) ∧
  (((q0b player2 h (fun v683 h =>
  ((callK Tryz.prog .bool F.commit_bit #[.int .i64 side3] (fun (v684 : Bool) h =>
  stillAggK (sizeOfT Tryz.prog T.api_Tag) h nonce_2 v5 ∧
  q0b side3 h (fun v685 h =>
  q0q v670 v4 v683 v685 h (fun v686 h =>
  commit_Coin.tail m0 v684 v5 v3 R v686 h))) h) ∧
  (q0b side3 h (fun v689 h =>
  ((callK Tryz.prog .bool F.commit_bit #[.int .i64 side3] (fun (v690 : Bool) h =>
  stillAggK (sizeOfT Tryz.prog T.api_Tag) h nonce_2 v5 ∧
  q0q v670 v4 v683 v689 h (fun v691 h =>
  commit_Coin.tail m0 v690 v5 v3 R v691 h)) h) ∧
  (q0q v670 v4 v683 v689 h (fun v694 h =>
  callK Tryz.prog .bool F.commit_bit #[.int .i64 side3] (fun (v695 : Bool) h =>
  stillAggK (sizeOfT Tryz.prog T.api_Tag) h nonce_2 v5 ∧
  commit_Coin.tail m0 v695 v5 v3 R v694 h) h)))))))) ∧
  (q0b side3 h (fun v698 h =>
  ((callK Tryz.prog .bool F.commit_bit #[.int .i64 side3] (fun (v699 : Bool) h =>
  stillAggK (sizeOfT Tryz.prog T.api_Tag) h nonce_2 v5 ∧
  q0b player2 h (fun v700 h =>
  q0q v670 v4 v700 v698 h (fun v701 h =>
  commit_Coin.tail m0 v699 v5 v3 R v701 h))) h) ∧
  (q0b player2 h (fun v704 h =>
  ((callK Tryz.prog .bool F.commit_bit #[.int .i64 side3] (fun (v705 : Bool) h =>
  stillAggK (sizeOfT Tryz.prog T.api_Tag) h nonce_2 v5 ∧
  q0q v670 v4 v704 v698 h (fun v706 h =>
  commit_Coin.tail m0 v705 v5 v3 R v706 h)) h) ∧
  (q0q v670 v4 v704 v698 h (fun v709 h =>
  callK Tryz.prog .bool F.commit_bit #[.int .i64 side3] (fun (v710 : Bool) h =>
  stillAggK (sizeOfT Tryz.prog T.api_Tag) h nonce_2 v5 ∧
  commit_Coin.tail m0 v710 v5 v3 R v709 h) h)))))))))))
  else
  ((q0b player2 h (fun v713 h =>
  q0b side3 h (fun v714 h =>
  q0q v670 v4 v713 v714 h (fun v715 h =>
  commit_Coin.tail m0 false v5 v3 R v715 h)))) ∧
  (q0b side3 h (fun v718 h =>
  q0b player2 h (fun v719 h =>
  q0q v670 v4 v719 v718 h (fun v720 h =>
  commit_Coin.tail m0 false v5 v3 R v720 h)))))) h) ∧
  (((q0b player2 h (fun v723 h =>
  ((callK Tryz.prog .bool F.commit_bit #[.int .i64 player2] (fun (v724 : Bool) h =>
  stillAggK (sizeOfT Tryz.prog T.api_Tag) h nonce_2 v5 ∧
  if v724 = true then
  ((callK Tryz.prog .bool F.commit_bit #[.int .i64 side3] (fun (v725 : Bool) h =>
  stillAggK (sizeOfT Tryz.prog T.api_Tag) h nonce_2 v5 ∧
  q0b side3 h (fun v726 h =>
  q0q v670 v4 v723 v726 h (fun v727 h =>
  commit_Coin.tail m0 v725 v5 v3 R v727 h))) h) ∧
  (q0b side3 h (fun v730 h =>
  ((callK Tryz.prog .bool F.commit_bit #[.int .i64 side3] (fun (v731 : Bool) h =>
  stillAggK (sizeOfT Tryz.prog T.api_Tag) h nonce_2 v5 ∧
  q0q v670 v4 v723 v730 h (fun v732 h =>
  commit_Coin.tail m0 v731 v5 v3 R v732 h)) h) ∧
  (q0q v670 v4 v723 v730 h (fun v735 h =>
  callK Tryz.prog .bool F.commit_bit #[.int .i64 side3] (fun (v736 : Bool) h =>
  stillAggK (sizeOfT Tryz.prog T.api_Tag) h nonce_2 v5 ∧
  commit_Coin.tail m0 v736 v5 v3 R v735 h) h))))))
  else
  q0b side3 h (fun v739 h =>
  q0q v670 v4 v723 v739 h (fun v740 h =>
  commit_Coin.tail m0 false v5 v3 R v740 h))) h) ∧
  (q0b side3 h (fun v743 h =>
  ((callK Tryz.prog .bool F.commit_bit #[.int .i64 player2] (fun (v744 : Bool) h =>
  stillAggK (sizeOfT Tryz.prog T.api_Tag) h nonce_2 v5 ∧
  if v744 = true then
  ((callK Tryz.prog .bool F.commit_bit #[.int .i64 side3] (fun (v745 : Bool) h =>
  stillAggK (sizeOfT Tryz.prog T.api_Tag) h nonce_2 v5 ∧
  q0q v670 v4 v723 v743 h (fun v746 h =>
  commit_Coin.tail m0 v745 v5 v3 R v746 h)) h) ∧
  (q0q v670 v4 v723 v743 h (fun v749 h =>
  callK Tryz.prog .bool F.commit_bit #[.int .i64 side3] (fun (v750 : Bool) h =>
  stillAggK (sizeOfT Tryz.prog T.api_Tag) h nonce_2 v5 ∧
  commit_Coin.tail m0 v750 v5 v3 R v749 h) h)))
  else
  q0q v670 v4 v723 v743 h (fun v753 h =>
  commit_Coin.tail m0 false v5 v3 R v753 h)) h) ∧
  (q0q v670 v4 v723 v743 h (fun v756 h =>
  callK Tryz.prog .bool F.commit_bit #[.int .i64 player2] (fun (v757 : Bool) h =>
  stillAggK (sizeOfT Tryz.prog T.api_Tag) h nonce_2 v5 ∧
  if v757 = true then
  callK Tryz.prog .bool F.commit_bit #[.int .i64 side3] (fun (v758 : Bool) h =>
  stillAggK (sizeOfT Tryz.prog T.api_Tag) h nonce_2 v5 ∧
  commit_Coin.tail m0 v758 v5 v3 R v756 h) h
  else
  commit_Coin.tail m0 false v5 v3 R v756 h) h)))))))) ∧
  (q0b side3 h (fun v763 h =>
  ((callK Tryz.prog .bool F.commit_bit #[.int .i64 player2] (fun (v764 : Bool) h =>
  stillAggK (sizeOfT Tryz.prog T.api_Tag) h nonce_2 v5 ∧
  if v764 = true then
  ((callK Tryz.prog .bool F.commit_bit #[.int .i64 side3] (fun (v765 : Bool) h =>
  stillAggK (sizeOfT Tryz.prog T.api_Tag) h nonce_2 v5 ∧
  q0b player2 h (fun v766 h =>
  q0q v670 v4 v766 v763 h (fun v767 h =>
  commit_Coin.tail m0 v765 v5 v3 R v767 h))) h) ∧
  (q0b player2 h (fun v770 h =>
  ((callK Tryz.prog .bool F.commit_bit #[.int .i64 side3] (fun (v771 : Bool) h =>
  stillAggK (sizeOfT Tryz.prog T.api_Tag) h nonce_2 v5 ∧
  q0q v670 v4 v770 v763 h (fun v772 h =>
  commit_Coin.tail m0 v771 v5 v3 R v772 h)) h) ∧
  (q0q v670 v4 v770 v763 h (fun v775 h =>
  callK Tryz.prog .bool F.commit_bit #[.int .i64 side3] (fun (v776 : Bool) h =>
  stillAggK (sizeOfT Tryz.prog T.api_Tag) h nonce_2 v5 ∧
  commit_Coin.tail m0 v776 v5 v3 R v775 h) h))))))
  else
  q0b player2 h (fun v779 h =>
  q0q v670 v4 v779 v763 h (fun v780 h =>
  commit_Coin.tail m0 false v5 v3 R v780 h))) h) ∧
  (q0b player2 h (fun v783 h =>
  ((callK Tryz.prog .bool F.commit_bit #[.int .i64 player2] (fun (v784 : Bool) h =>
  stillAggK (sizeOfT Tryz.prog T.api_Tag) h nonce_2 v5 ∧
  if v784 = true then
  ((callK Tryz.prog .bool F.commit_bit #[.int .i64 side3] (fun (v785 : Bool) h =>
  stillAggK (sizeOfT Tryz.prog T.api_Tag) h nonce_2 v5 ∧
  q0q v670 v4 v783 v763 h (fun v786 h =>
  commit_Coin.tail m0 v785 v5 v3 R v786 h)) h) ∧
  (q0q v670 v4 v783 v763 h (fun v789 h =>
  callK Tryz.prog .bool F.commit_bit #[.int .i64 side3] (fun (v790 : Bool) h =>
  stillAggK (sizeOfT Tryz.prog T.api_Tag) h nonce_2 v5 ∧
  commit_Coin.tail m0 v790 v5 v3 R v789 h) h)))
  else
  q0q v670 v4 v783 v763 h (fun v793 h =>
  commit_Coin.tail m0 false v5 v3 R v793 h)) h) ∧
  (q0q v670 v4 v783 v763 h (fun v796 h =>
  callK Tryz.prog .bool F.commit_bit #[.int .i64 player2] (fun (v797 : Bool) h =>
  stillAggK (sizeOfT Tryz.prog T.api_Tag) h nonce_2 v5 ∧
  if v797 = true then
  callK Tryz.prog .bool F.commit_bit #[.int .i64 side3] (fun (v798 : Bool) h =>
  stillAggK (sizeOfT Tryz.prog T.api_Tag) h nonce_2 v5 ∧
  commit_Coin.tail m0 v798 v5 v3 R v796 h) h
  else
  commit_Coin.tail m0 false v5 v3 R v796 h) h)))))))))))) h) ∧
  (((q0b player2 h (fun v803 h =>
  ((callK Tryz.prog .bool F.commit_bit #[.int .i64 player2] (fun (v804 : Bool) h =>
  stillAggK (sizeOfT Tryz.prog T.api_Tag) h nonce_2 v5 ∧
  if v804 = true then
  ((callK Tryz.prog .bool F.commit_bit #[.int .i64 side3] (fun (v805 : Bool) h =>
  stillAggK (sizeOfT Tryz.prog T.api_Tag) h nonce_2 v5 ∧
  ((q0v v475 (fun v806 h =>
  q0b side3 h (fun v807 h =>
  q0q v806 v4 v803 v807 h (fun v808 h =>
  commit_Coin.tail m0 v805 v5 v3 R v808 h))) h) ∧
  (q0b side3 h (fun v811 h =>
  q0v v475 (fun v812 h =>
  q0q v812 v4 v803 v811 h (fun v813 h =>
  commit_Coin.tail m0 v805 v5 v3 R v813 h)) h)))) h) ∧
  (((q0v v475 (fun v816 h =>
  ((callK Tryz.prog .bool F.commit_bit #[.int .i64 side3] (fun (v817 : Bool) h =>
  stillAggK (sizeOfT Tryz.prog T.api_Tag) h nonce_2 v5 ∧
  q0b side3 h (fun v818 h =>
  q0q v816 v4 v803 v818 h (fun v819 h =>
  commit_Coin.tail m0 v817 v5 v3 R v819 h))) h) ∧
  (q0b side3 h (fun v822 h =>
  ((callK Tryz.prog .bool F.commit_bit #[.int .i64 side3] (fun (v823 : Bool) h =>
  stillAggK (sizeOfT Tryz.prog T.api_Tag) h nonce_2 v5 ∧
  q0q v816 v4 v803 v822 h (fun v824 h =>
  commit_Coin.tail m0 v823 v5 v3 R v824 h)) h) ∧
  (q0q v816 v4 v803 v822 h (fun v827 h =>
  callK Tryz.prog .bool F.commit_bit #[.int .i64 side3] (fun (v828 : Bool) h =>
  stillAggK (sizeOfT Tryz.prog T.api_Tag) h nonce_2 v5 ∧
  commit_Coin.tail m0 v828 v5 v3 R v827 h) h))))))) h) ∧
  (q0b side3 h (fun v831 h =>
  ((callK Tryz.prog .bool F.commit_bit #[.int .i64 side3] (fun (v832 : Bool) h =>
  stillAggK (sizeOfT Tryz.prog T.api_Tag) h nonce_2 v5 ∧
  q0v v475 (fun v833 h =>
  q0q v833 v4 v803 v831 h (fun v834 h =>
  commit_Coin.tail m0 v832 v5 v3 R v834 h)) h) h) ∧
  (q0v v475 (fun v837 h =>
  ((callK Tryz.prog .bool F.commit_bit #[.int .i64 side3] (fun (v838 : Bool) h =>
  stillAggK (sizeOfT Tryz.prog T.api_Tag) h nonce_2 v5 ∧
  q0q v837 v4 v803 v831 h (fun v839 h =>
  commit_Coin.tail m0 v838 v5 v3 R v839 h)) h) ∧
  (q0q v837 v4 v803 v831 h (fun v842 h =>
  callK Tryz.prog .bool F.commit_bit #[.int .i64 side3] (fun (v843 : Bool) h =>
  stillAggK (sizeOfT Tryz.prog T.api_Tag) h nonce_2 v5 ∧
  commit_Coin.tail m0 v843 v5 v3 R v842 h) h)))) h)))))))
  else
  ((q0v v475 (fun v846 h =>
  q0b side3 h (fun v847 h =>
  q0q v846 v4 v803 v847 h (fun v848 h =>
  commit_Coin.tail m0 false v5 v3 R v848 h))) h) ∧
  (q0b side3 h (fun v851 h =>
  q0v v475 (fun v852 h =>
  q0q v852 v4 v803 v851 h (fun v853 h =>
  commit_Coin.tail m0 false v5 v3 R v853 h)) h)))) h) ∧
  (((q0v v475 (fun v856 h =>
  ((callK Tryz.prog .bool F.commit_bit #[.int .i64 player2] (fun (v857 : Bool) h =>
  stillAggK (sizeOfT Tryz.prog T.api_Tag) h nonce_2 v5 ∧
  if v857 = true then
  ((callK Tryz.prog .bool F.commit_bit #[.int .i64 side3] (fun (v858 : Bool) h =>
  stillAggK (sizeOfT Tryz.prog T.api_Tag) h nonce_2 v5 ∧
  q0b side3 h (fun v859 h =>
  q0q v856 v4 v803 v859 h (fun v860 h =>
  commit_Coin.tail m0 v858 v5 v3 R v860 h))) h) ∧
  (q0b side3 h (fun v863 h =>
  ((callK Tryz.prog .bool F.commit_bit #[.int .i64 side3] (fun (v864 : Bool) h =>
  stillAggK (sizeOfT Tryz.prog T.api_Tag) h nonce_2 v5 ∧
  q0q v856 v4 v803 v863 h (fun v865 h =>
  commit_Coin.tail m0 v864 v5 v3 R v865 h)) h) ∧
  (q0q v856 v4 v803 v863 h (fun v868 h =>
  callK Tryz.prog .bool F.commit_bit #[.int .i64 side3] (fun (v869 : Bool) h =>
  stillAggK (sizeOfT Tryz.prog T.api_Tag) h nonce_2 v5 ∧
  commit_Coin.tail m0 v869 v5 v3 R v868 h) h))))))
  else
  q0b side3 h (fun v872 h =>
  q0q v856 v4 v803 v872 h (fun v873 h =>
  commit_Coin.tail m0 false v5 v3 R v873 h))) h) ∧
  (q0b side3 h (fun v876 h =>
  ((callK Tryz.prog .bool F.commit_bit #[.int .i64 player2] (fun (v877 : Bool) h =>
  stillAggK (sizeOfT Tryz.prog T.api_Tag) h nonce_2 v5 ∧
  if v877 = true then
  ((callK Tryz.prog .bool F.commit_bit #[.int .i64 side3] (fun (v878 : Bool) h =>
  stillAggK (sizeOfT Tryz.prog T.api_Tag) h nonce_2 v5 ∧
  q0q v856 v4 v803 v876 h (fun v879 h =>
  commit_Coin.tail m0 v878 v5 v3 R v879 h)) h) ∧
  (q0q v856 v4 v803 v876 h (fun v882 h =>
  callK Tryz.prog .bool F.commit_bit #[.int .i64 side3] (fun (v883 : Bool) h =>
  stillAggK (sizeOfT Tryz.prog T.api_Tag) h nonce_2 v5 ∧
  commit_Coin.tail m0 v883 v5 v3 R v882 h) h)))
  else
  q0q v856 v4 v803 v876 h (fun v886 h =>
  commit_Coin.tail m0 false v5 v3 R v886 h)) h) ∧
  (q0q v856 v4 v803 v876 h (fun v889 h =>
  callK Tryz.prog .bool F.commit_bit #[.int .i64 player2] (fun (v890 : Bool) h =>
  stillAggK (sizeOfT Tryz.prog T.api_Tag) h nonce_2 v5 ∧
  if v890 = true then
  callK Tryz.prog .bool F.commit_bit #[.int .i64 side3] (fun (v891 : Bool) h =>
  stillAggK (sizeOfT Tryz.prog T.api_Tag) h nonce_2 v5 ∧
  commit_Coin.tail m0 v891 v5 v3 R v889 h) h
  else
  commit_Coin.tail m0 false v5 v3 R v889 h) h))))))) h) ∧
  (q0b side3 h (fun v896 h =>
  ((callK Tryz.prog .bool F.commit_bit #[.int .i64 player2] (fun (v897 : Bool) h =>
  stillAggK (sizeOfT Tryz.prog T.api_Tag) h nonce_2 v5 ∧
  if v897 = true then
  ((callK Tryz.prog .bool F.commit_bit #[.int .i64 side3] (fun (v898 : Bool) h =>
  stillAggK (sizeOfT Tryz.prog T.api_Tag) h nonce_2 v5 ∧
  q0v v475 (fun v899 h =>
  q0q v899 v4 v803 v896 h (fun v900 h =>
  commit_Coin.tail m0 v898 v5 v3 R v900 h)) h) h) ∧
  (q0v v475 (fun v903 h =>
  ((callK Tryz.prog .bool F.commit_bit #[.int .i64 side3] (fun (v904 : Bool) h =>
  stillAggK (sizeOfT Tryz.prog T.api_Tag) h nonce_2 v5 ∧
  q0q v903 v4 v803 v896 h (fun v905 h =>
  commit_Coin.tail m0 v904 v5 v3 R v905 h)) h) ∧
  (q0q v903 v4 v803 v896 h (fun v908 h =>
  callK Tryz.prog .bool F.commit_bit #[.int .i64 side3] (fun (v909 : Bool) h =>
  stillAggK (sizeOfT Tryz.prog T.api_Tag) h nonce_2 v5 ∧
  commit_Coin.tail m0 v909 v5 v3 R v908 h) h)))) h))
  else
  q0v v475 (fun v912 h =>
  q0q v912 v4 v803 v896 h (fun v913 h =>
  commit_Coin.tail m0 false v5 v3 R v913 h)) h) h) ∧
  (q0v v475 (fun v916 h =>
  ((callK Tryz.prog .bool F.commit_bit #[.int .i64 player2] (fun (v917 : Bool) h =>
  stillAggK (sizeOfT Tryz.prog T.api_Tag) h nonce_2 v5 ∧
  if v917 = true then
  ((callK Tryz.prog .bool F.commit_bit #[.int .i64 side3] (fun (v918 : Bool) h =>
  stillAggK (sizeOfT Tryz.prog T.api_Tag) h nonce_2 v5 ∧
  q0q v916 v4 v803 v896 h (fun v919 h =>
  commit_Coin.tail m0 v918 v5 v3 R v919 h)) h) ∧
  (q0q v916 v4 v803 v896 h (fun v922 h =>
  callK Tryz.prog .bool F.commit_bit #[.int .i64 side3] (fun (v923 : Bool) h =>
  stillAggK (sizeOfT Tryz.prog T.api_Tag) h nonce_2 v5 ∧
  commit_Coin.tail m0 v923 v5 v3 R v922 h) h)))
  else
  q0q v916 v4 v803 v896 h (fun v926 h =>
  commit_Coin.tail m0 false v5 v3 R v926 h)) h) ∧
  (q0q v916 v4 v803 v896 h (fun v929 h =>
  callK Tryz.prog .bool F.commit_bit #[.int .i64 player2] (fun (v930 : Bool) h =>
  stillAggK (sizeOfT Tryz.prog T.api_Tag) h nonce_2 v5 ∧
  if v930 = true then
  callK Tryz.prog .bool F.commit_bit #[.int .i64 side3] (fun (v931 : Bool) h =>
  stillAggK (sizeOfT Tryz.prog T.api_Tag) h nonce_2 v5 ∧
  commit_Coin.tail m0 v931 v5 v3 R v929 h) h
  else
  commit_Coin.tail m0 false v5 v3 R v929 h) h)))) h))))))))) ∧
  (q0b side3 h (fun v936 h =>
  ((callK Tryz.prog .bool F.commit_bit #[.int .i64 player2] (fun (v937 : Bool) h =>
  stillAggK (sizeOfT Tryz.prog T.api_Tag) h nonce_2 v5 ∧
  if v937 = true then
  ((callK Tryz.prog .bool F.commit_bit #[.int .i64 side3] (fun (v938 : Bool) h =>
  stillAggK (sizeOfT Tryz.prog T.api_Tag) h nonce_2 v5 ∧
  ((q0v v475 (fun v939 h =>
  q0b player2 h (fun v940 h =>
  q0q v939 v4 v940 v936 h (fun v941 h =>
  commit_Coin.tail m0 v938 v5 v3 R v941 h))) h) ∧
  (q0b player2 h (fun v944 h =>
  q0v v475 (fun v945 h =>
  q0q v945 v4 v944 v936 h (fun v946 h =>
  commit_Coin.tail m0 v938 v5 v3 R v946 h)) h)))) h) ∧
  (((q0v v475 (fun v949 h =>
  ((callK Tryz.prog .bool F.commit_bit #[.int .i64 side3] (fun (v950 : Bool) h =>
  stillAggK (sizeOfT Tryz.prog T.api_Tag) h nonce_2 v5 ∧
  q0b player2 h (fun v951 h =>
  q0q v949 v4 v951 v936 h (fun v952 h =>
  commit_Coin.tail m0 v950 v5 v3 R v952 h))) h) ∧
  (q0b player2 h (fun v955 h =>
  ((callK Tryz.prog .bool F.commit_bit #[.int .i64 side3] (fun (v956 : Bool) h =>
  stillAggK (sizeOfT Tryz.prog T.api_Tag) h nonce_2 v5 ∧
  q0q v949 v4 v955 v936 h (fun v957 h =>
  commit_Coin.tail m0 v956 v5 v3 R v957 h)) h) ∧
  (q0q v949 v4 v955 v936 h (fun v960 h =>
  callK Tryz.prog .bool F.commit_bit #[.int .i64 side3] (fun (v961 : Bool) h =>
  stillAggK (sizeOfT Tryz.prog T.api_Tag) h nonce_2 v5 ∧
  commit_Coin.tail m0 v961 v5 v3 R v960 h) h))))))) h) ∧
  (q0b player2 h (fun v964 h =>
  ((callK Tryz.prog .bool F.commit_bit #[.int .i64 side3] (fun (v965 : Bool) h =>
  stillAggK (sizeOfT Tryz.prog T.api_Tag) h nonce_2 v5 ∧
  q0v v475 (fun v966 h =>
  q0q v966 v4 v964 v936 h (fun v967 h =>
  commit_Coin.tail m0 v965 v5 v3 R v967 h)) h) h) ∧
  (q0v v475 (fun v970 h =>
  ((callK Tryz.prog .bool F.commit_bit #[.int .i64 side3] (fun (v971 : Bool) h =>
  stillAggK (sizeOfT Tryz.prog T.api_Tag) h nonce_2 v5 ∧
  q0q v970 v4 v964 v936 h (fun v972 h =>
  commit_Coin.tail m0 v971 v5 v3 R v972 h)) h) ∧
  (q0q v970 v4 v964 v936 h (fun v975 h =>
  callK Tryz.prog .bool F.commit_bit #[.int .i64 side3] (fun (v976 : Bool) h =>
  stillAggK (sizeOfT Tryz.prog T.api_Tag) h nonce_2 v5 ∧
  commit_Coin.tail m0 v976 v5 v3 R v975 h) h)))) h)))))))
  else
  ((q0v v475 (fun v979 h =>
  q0b player2 h (fun v980 h =>
  q0q v979 v4 v980 v936 h (fun v981 h =>
  commit_Coin.tail m0 false v5 v3 R v981 h))) h) ∧
  (q0b player2 h (fun v984 h =>
  q0v v475 (fun v985 h =>
  q0q v985 v4 v984 v936 h (fun v986 h =>
  commit_Coin.tail m0 false v5 v3 R v986 h)) h)))) h) ∧
  (((q0v v475 (fun v989 h =>
  ((callK Tryz.prog .bool F.commit_bit #[.int .i64 player2] (fun (v990 : Bool) h =>
  stillAggK (sizeOfT Tryz.prog T.api_Tag) h nonce_2 v5 ∧
  if v990 = true then
  ((callK Tryz.prog .bool F.commit_bit #[.int .i64 side3] (fun (v991 : Bool) h =>
  stillAggK (sizeOfT Tryz.prog T.api_Tag) h nonce_2 v5 ∧
  q0b player2 h (fun v992 h =>
  q0q v989 v4 v992 v936 h (fun v993 h =>
  commit_Coin.tail m0 v991 v5 v3 R v993 h))) h) ∧
  (q0b player2 h (fun v996 h =>
  ((callK Tryz.prog .bool F.commit_bit #[.int .i64 side3] (fun (v997 : Bool) h =>
  stillAggK (sizeOfT Tryz.prog T.api_Tag) h nonce_2 v5 ∧
  q0q v989 v4 v996 v936 h (fun v998 h =>
  commit_Coin.tail m0 v997 v5 v3 R v998 h)) h) ∧
  (q0q v989 v4 v996 v936 h (fun v1001 h =>
  callK Tryz.prog .bool F.commit_bit #[.int .i64 side3] (fun (v1002 : Bool) h =>
  stillAggK (sizeOfT Tryz.prog T.api_Tag) h nonce_2 v5 ∧
  commit_Coin.tail m0 v1002 v5 v3 R v1001 h) h))))))
  else
  q0b player2 h (fun v1005 h =>
  q0q v989 v4 v1005 v936 h (fun v1006 h =>
  commit_Coin.tail m0 false v5 v3 R v1006 h))) h) ∧
  (q0b player2 h (fun v1009 h =>
  ((callK Tryz.prog .bool F.commit_bit #[.int .i64 player2] (fun (v1010 : Bool) h =>
  stillAggK (sizeOfT Tryz.prog T.api_Tag) h nonce_2 v5 ∧
  if v1010 = true then
  ((callK Tryz.prog .bool F.commit_bit #[.int .i64 side3] (fun (v1011 : Bool) h =>
  stillAggK (sizeOfT Tryz.prog T.api_Tag) h nonce_2 v5 ∧
  q0q v989 v4 v1009 v936 h (fun v1012 h =>
  commit_Coin.tail m0 v1011 v5 v3 R v1012 h)) h) ∧
  (q0q v989 v4 v1009 v936 h (fun v1015 h =>
  callK Tryz.prog .bool F.commit_bit #[.int .i64 side3] (fun (v1016 : Bool) h =>
  stillAggK (sizeOfT Tryz.prog T.api_Tag) h nonce_2 v5 ∧
  commit_Coin.tail m0 v1016 v5 v3 R v1015 h) h)))
  else
  q0q v989 v4 v1009 v936 h (fun v1019 h =>
  commit_Coin.tail m0 false v5 v3 R v1019 h)) h) ∧
  (q0q v989 v4 v1009 v936 h (fun v1022 h =>
  callK Tryz.prog .bool F.commit_bit #[.int .i64 player2] (fun (v1023 : Bool) h =>
  stillAggK (sizeOfT Tryz.prog T.api_Tag) h nonce_2 v5 ∧
  if v1023 = true then
  callK Tryz.prog .bool F.commit_bit #[.int .i64 side3] (fun (v1024 : Bool) h =>
  stillAggK (sizeOfT Tryz.prog T.api_Tag) h nonce_2 v5 ∧
  commit_Coin.tail m0 v1024 v5 v3 R v1022 h) h
  else
  commit_Coin.tail m0 false v5 v3 R v1022 h) h))))))) h) ∧
  (q0b player2 h (fun v1029 h =>
  ((callK Tryz.prog .bool F.commit_bit #[.int .i64 player2] (fun (v1030 : Bool) h =>
  stillAggK (sizeOfT Tryz.prog T.api_Tag) h nonce_2 v5 ∧
  if v1030 = true then
  ((callK Tryz.prog .bool F.commit_bit #[.int .i64 side3] (fun (v1031 : Bool) h =>
  stillAggK (sizeOfT Tryz.prog T.api_Tag) h nonce_2 v5 ∧
  q0v v475 (fun v1032 h =>
  q0q v1032 v4 v1029 v936 h (fun v1033 h =>
  commit_Coin.tail m0 v1031 v5 v3 R v1033 h)) h) h) ∧
  (q0v v475 (fun v1036 h =>
  ((callK Tryz.prog .bool F.commit_bit #[.int .i64 side3] (fun (v1037 : Bool) h =>
  stillAggK (sizeOfT Tryz.prog T.api_Tag) h nonce_2 v5 ∧
  q0q v1036 v4 v1029 v936 h (fun v1038 h =>
  commit_Coin.tail m0 v1037 v5 v3 R v1038 h)) h) ∧
  (q0q v1036 v4 v1029 v936 h (fun v1041 h =>
  callK Tryz.prog .bool F.commit_bit #[.int .i64 side3] (fun (v1042 : Bool) h =>
  stillAggK (sizeOfT Tryz.prog T.api_Tag) h nonce_2 v5 ∧
  commit_Coin.tail m0 v1042 v5 v3 R v1041 h) h)))) h))
  else
  q0v v475 (fun v1045 h =>
  q0q v1045 v4 v1029 v936 h (fun v1046 h =>
  commit_Coin.tail m0 false v5 v3 R v1046 h)) h) h) ∧
  (q0v v475 (fun v1049 h =>
  ((callK Tryz.prog .bool F.commit_bit #[.int .i64 player2] (fun (v1050 : Bool) h =>
  stillAggK (sizeOfT Tryz.prog T.api_Tag) h nonce_2 v5 ∧
  if v1050 = true then
  ((callK Tryz.prog .bool F.commit_bit #[.int .i64 side3] (fun (v1051 : Bool) h =>
  stillAggK (sizeOfT Tryz.prog T.api_Tag) h nonce_2 v5 ∧
  q0q v1049 v4 v1029 v936 h (fun v1052 h =>
  commit_Coin.tail m0 v1051 v5 v3 R v1052 h)) h) ∧
  (q0q v1049 v4 v1029 v936 h (fun v1055 h =>
  callK Tryz.prog .bool F.commit_bit #[.int .i64 side3] (fun (v1056 : Bool) h =>
  stillAggK (sizeOfT Tryz.prog T.api_Tag) h nonce_2 v5 ∧
  commit_Coin.tail m0 v1056 v5 v3 R v1055 h) h)))
  else
  q0q v1049 v4 v1029 v936 h (fun v1059 h =>
  commit_Coin.tail m0 false v5 v3 R v1059 h)) h) ∧
  (q0q v1049 v4 v1029 v936 h (fun v1062 h =>
  callK Tryz.prog .bool F.commit_bit #[.int .i64 player2] (fun (v1063 : Bool) h =>
  stillAggK (sizeOfT Tryz.prog T.api_Tag) h nonce_2 v5 ∧
  if v1063 = true then
  callK Tryz.prog .bool F.commit_bit #[.int .i64 side3] (fun (v1064 : Bool) h =>
  stillAggK (sizeOfT Tryz.prog T.api_Tag) h nonce_2 v5 ∧
  commit_Coin.tail m0 v1064 v5 v3 R v1062 h) h
  else
  commit_Coin.tail m0 false v5 v3 R v1062 h) h)))) h)))))))))))))))) ∧
  (((q0b player2 h (fun v1069 h =>
  ((callK Tryz.prog .bool F.commit_bit #[.int .i64 player2] (fun (v1070 : Bool) h =>
  stillAggK (sizeOfT Tryz.prog T.api_Tag) h nonce_2 v5 ∧
  if v1070 = true then
  ((callK Tryz.prog .bool F.commit_bit #[.int .i64 side3] (fun (v1071 : Bool) h =>
  stillAggK (sizeOfT Tryz.prog T.api_Tag) h nonce_2 v5 ∧
  ((newSlK h 4 #[.int .u8 99, .int .u8 111, .int .u8 105, .int .u8 110] T.uint8 (fun v1072 h =>
  ((q0v v1072 (fun v1073 h =>
  q0b side3 h (fun v1074 h =>
  q0q v1073 v4 v1069 v1074 h (fun v1075 h =>
  commit_Coin.tail m0 v1071 v5 v3 R v1075 h))) h) ∧
  (q0b side3 h (fun v1078 h =>
  q0v v1072 (fun v1079 h =>
  q0q v1079 v4 v1069 v1078 h (fun v1080 h =>
  commit_Coin.tail m0 v1071 v5 v3 R v1080 h)) h))))) ∧
  (q0b side3 h (fun v1083 h =>
  newSlK h 4 #[.int .u8 99, .int .u8 111, .int .u8 105, .int .u8 110] T.uint8 (fun v1084 h =>
  q0v v1084 (fun v1085 h =>
  q0q v1085 v4 v1069 v1083 h (fun v1086 h =>
  commit_Coin.tail m0 v1071 v5 v3 R v1086 h)) h))))) h) ∧
  (((newSlK h 4 #[.int .u8 99, .int .u8 111, .int .u8 105, .int .u8 110] T.uint8 (fun v1089 h =>
  ((callK Tryz.prog .bool F.commit_bit #[.int .i64 side3] (fun (v1090 : Bool) h =>
  stillAggK (sizeOfT Tryz.prog T.api_Tag) h nonce_2 v5 ∧
  ((q0v v1089 (fun v1091 h =>
  q0b side3 h (fun v1092 h =>
  q0q v1091 v4 v1069 v1092 h (fun v1093 h =>
  commit_Coin.tail m0 v1090 v5 v3 R v1093 h))) h) ∧
  (q0b side3 h (fun v1096 h =>
  q0v v1089 (fun v1097 h =>
  q0q v1097 v4 v1069 v1096 h (fun v1098 h =>
  commit_Coin.tail m0 v1090 v5 v3 R v1098 h)) h)))) h) ∧
  (((q0v v1089 (fun v1101 h =>
  ((callK Tryz.prog .bool F.commit_bit #[.int .i64 side3] (fun (v1102 : Bool) h =>
  stillAggK (sizeOfT Tryz.prog T.api_Tag) h nonce_2 v5 ∧
  q0b side3 h (fun v1103 h =>
  q0q v1101 v4 v1069 v1103 h (fun v1104 h =>
  commit_Coin.tail m0 v1102 v5 v3 R v1104 h))) h) ∧
  (q0b side3 h (fun v1107 h =>
  ((callK Tryz.prog .bool F.commit_bit #[.int .i64 side3] (fun (v1108 : Bool) h =>
  stillAggK (sizeOfT Tryz.prog T.api_Tag) h nonce_2 v5 ∧
  q0q v1101 v4 v1069 v1107 h (fun v1109 h =>
  commit_Coin.tail m0 v1108 v5 v3 R v1109 h)) h) ∧
  (q0q v1101 v4 v1069 v1107 h (fun v1112 h =>
  callK Tryz.prog .bool F.commit_bit #[.int .i64 side3] (fun (v1113 : Bool) h =>
  stillAggK (sizeOfT Tryz.prog T.api_Tag) h nonce_2 v5 ∧
  commit_Coin.tail m0 v1113 v5 v3 R v1112 h) h))))))) h) ∧
  (q0b side3 h (fun v1116 h =>
  ((callK Tryz.prog .bool F.commit_bit #[.int .i64 side3] (fun (v1117 : Bool) h =>
  stillAggK (sizeOfT Tryz.prog T.api_Tag) h nonce_2 v5 ∧
  q0v v1089 (fun v1118 h =>
  q0q v1118 v4 v1069 v1116 h (fun v1119 h =>
  commit_Coin.tail m0 v1117 v5 v3 R v1119 h)) h) h) ∧
  (q0v v1089 (fun v1122 h =>
  ((callK Tryz.prog .bool F.commit_bit #[.int .i64 side3] (fun (v1123 : Bool) h =>
  stillAggK (sizeOfT Tryz.prog T.api_Tag) h nonce_2 v5 ∧
  q0q v1122 v4 v1069 v1116 h (fun v1124 h =>
  commit_Coin.tail m0 v1123 v5 v3 R v1124 h)) h) ∧
  (q0q v1122 v4 v1069 v1116 h (fun v1127 h =>
  callK Tryz.prog .bool F.commit_bit #[.int .i64 side3] (fun (v1128 : Bool) h =>
  stillAggK (sizeOfT Tryz.prog T.api_Tag) h nonce_2 v5 ∧
  commit_Coin.tail m0 v1128 v5 v3 R v1127 h) h)))) h))))))))) ∧
  (q0b side3 h (fun v1131 h =>
  ((callK Tryz.prog .bool F.commit_bit #[.int .i64 side3] (fun (v1132 : Bool) h =>
  stillAggK (sizeOfT Tryz.prog T.api_Tag) h nonce_2 v5 ∧
  newSlK h 4 #[.int .u8 99, .int .u8 111, .int .u8 105, .int .u8 110] T.uint8 (fun v1133 h =>
  q0v v1133 (fun v1134 h =>
  q0q v1134 v4 v1069 v1131 h (fun v1135 h =>
  commit_Coin.tail m0 v1132 v5 v3 R v1135 h)) h)) h) ∧
  (newSlK h 4 #[.int .u8 99, .int .u8 111, .int .u8 105, .int .u8 110] T.uint8 (fun v1138 h =>
  ((callK Tryz.prog .bool F.commit_bit #[.int .i64 side3] (fun (v1139 : Bool) h =>
  stillAggK (sizeOfT Tryz.prog T.api_Tag) h nonce_2 v5 ∧
  q0v v1138 (fun v1140 h =>
  q0q v1140 v4 v1069 v1131 h (fun v1141 h =>
  commit_Coin.tail m0 v1139 v5 v3 R v1141 h)) h) h) ∧
  (q0v v1138 (fun v1144 h =>
  ((callK Tryz.prog .bool F.commit_bit #[.int .i64 side3] (fun (v1145 : Bool) h =>
  stillAggK (sizeOfT Tryz.prog T.api_Tag) h nonce_2 v5 ∧
  q0q v1144 v4 v1069 v1131 h (fun v1146 h =>
  commit_Coin.tail m0 v1145 v5 v3 R v1146 h)) h) ∧
  (q0q v1144 v4 v1069 v1131 h (fun v1149 h =>
  callK Tryz.prog .bool F.commit_bit #[.int .i64 side3] (fun (v1150 : Bool) h =>
  stillAggK (sizeOfT Tryz.prog T.api_Tag) h nonce_2 v5 ∧
  commit_Coin.tail m0 v1150 v5 v3 R v1149 h) h)))) h))))))))))
  else
  ((newSlK h 4 #[.int .u8 99, .int .u8 111, .int .u8 105, .int .u8 110] T.uint8 (fun v1153 h =>
  ((q0v v1153 (fun v1154 h =>
  q0b side3 h (fun v1155 h =>
  q0q v1154 v4 v1069 v1155 h (fun v1156 h =>
  commit_Coin.tail m0 false v5 v3 R v1156 h))) h) ∧
  (q0b side3 h (fun v1159 h =>
  q0v v1153 (fun v1160 h =>
  q0q v1160 v4 v1069 v1159 h (fun v1161 h =>
  commit_Coin.tail m0 false v5 v3 R v1161 h)) h))))) ∧
  (q0b side3 h (fun v1164 h =>
  newSlK h 4 #[.int .u8 99, .int .u8 111, .int .u8 105, .int .u8 110] T.uint8 (fun v1165 h =>
  q0v v1165 (fun v1166 h =>
  q0q v1166 v4 v1069 v1164 h (fun v1167 h =>
  commit_Coin.tail m0 false v5 v3 R v1167 h)) h))))) h) ∧
  (((newSlK h 4 #[.int .u8 99, .int .u8 111, .int .u8 105, .int .u8 110] T.uint8 (fun v1170 h =>
  ((callK Tryz.prog .bool F.commit_bit #[.int .i64 player2] (fun (v1171 : Bool) h =>
  stillAggK (sizeOfT Tryz.prog T.api_Tag) h nonce_2 v5 ∧
  if v1171 = true then
  ((callK Tryz.prog .bool F.commit_bit #[.int .i64 side3] (fun (v1172 : Bool) h =>
  stillAggK (sizeOfT Tryz.prog T.api_Tag) h nonce_2 v5 ∧
  ((q0v v1170 (fun v1173 h =>
  q0b side3 h (fun v1174 h =>
  q0q v1173 v4 v1069 v1174 h (fun v1175 h =>
  commit_Coin.tail m0 v1172 v5 v3 R v1175 h))) h) ∧
  (q0b side3 h (fun v1178 h =>
  q0v v1170 (fun v1179 h =>
  q0q v1179 v4 v1069 v1178 h (fun v1180 h =>
  commit_Coin.tail m0 v1172 v5 v3 R v1180 h)) h)))) h) ∧
  (((q0v v1170 (fun v1183 h =>
  ((callK Tryz.prog .bool F.commit_bit #[.int .i64 side3] (fun (v1184 : Bool) h =>
  stillAggK (sizeOfT Tryz.prog T.api_Tag) h nonce_2 v5 ∧
  q0b side3 h (fun v1185 h =>
  q0q v1183 v4 v1069 v1185 h (fun v1186 h =>
  commit_Coin.tail m0 v1184 v5 v3 R v1186 h))) h) ∧
  (q0b side3 h (fun v1189 h =>
  ((callK Tryz.prog .bool F.commit_bit #[.int .i64 side3] (fun (v1190 : Bool) h =>
  stillAggK (sizeOfT Tryz.prog T.api_Tag) h nonce_2 v5 ∧
  q0q v1183 v4 v1069 v1189 h (fun v1191 h =>
  commit_Coin.tail m0 v1190 v5 v3 R v1191 h)) h) ∧
  (q0q v1183 v4 v1069 v1189 h (fun v1194 h =>
  callK Tryz.prog .bool F.commit_bit #[.int .i64 side3] (fun (v1195 : Bool) h =>
  stillAggK (sizeOfT Tryz.prog T.api_Tag) h nonce_2 v5 ∧
  commit_Coin.tail m0 v1195 v5 v3 R v1194 h) h))))))) h) ∧
  (q0b side3 h (fun v1198 h =>
  ((callK Tryz.prog .bool F.commit_bit #[.int .i64 side3] (fun (v1199 : Bool) h =>
  stillAggK (sizeOfT Tryz.prog T.api_Tag) h nonce_2 v5 ∧
  q0v v1170 (fun v1200 h =>
  q0q v1200 v4 v1069 v1198 h (fun v1201 h =>
  commit_Coin.tail m0 v1199 v5 v3 R v1201 h)) h) h) ∧
  (q0v v1170 (fun v1204 h =>
  ((callK Tryz.prog .bool F.commit_bit #[.int .i64 side3] (fun (v1205 : Bool) h =>
  stillAggK (sizeOfT Tryz.prog T.api_Tag) h nonce_2 v5 ∧
  q0q v1204 v4 v1069 v1198 h (fun v1206 h =>
  commit_Coin.tail m0 v1205 v5 v3 R v1206 h)) h) ∧
  (q0q v1204 v4 v1069 v1198 h (fun v1209 h =>
  callK Tryz.prog .bool F.commit_bit #[.int .i64 side3] (fun (v1210 : Bool) h =>
  stillAggK (sizeOfT Tryz.prog T.api_Tag) h nonce_2 v5 ∧
  commit_Coin.tail m0 v1210 v5 v3 R v1209 h) h)))) h)))))))
  else
  ((q0v v1170 (fun v1213 h =>
  q0b side3 h (fun v1214 h =>
  q0q v1213 v4 v1069 v1214 h (fun v1215 h =>
  commit_Coin.tail m0 false v5 v3 R v1215 h))) h) ∧
  (q0b side3 h (fun v1218 h =>
  q0v v1170 (fun v1219 h =>
  q0q v1219 v4 v1069 v1218 h (fun v1220 h =>
  commit_Coin.tail m0 false v5 v3 R v1220 h)) h)))) h) ∧
  (((q0v v1170 (fun v1223 h =>
  ((callK Tryz.prog .bool F.commit_bit #[.int .i64 player2] (fun (v1224 : Bool) h =>
  stillAggK (sizeOfT Tryz.prog T.api_Tag) h nonce_2 v5 ∧
  if v1224 = true then
  ((callK Tryz.prog .bool F.commit_bit #[.int .i64 side3] (fun (v1225 : Bool) h =>
  stillAggK (sizeOfT Tryz.prog T.api_Tag) h nonce_2 v5 ∧
  q0b side3 h (fun v1226 h =>
  q0q v1223 v4 v1069 v1226 h (fun v1227 h =>
  commit_Coin.tail m0 v1225 v5 v3 R v1227 h))) h) ∧
  (q0b side3 h (fun v1230 h =>
  ((callK Tryz.prog .bool F.commit_bit #[.int .i64 side3] (fun (v1231 : Bool) h =>
  stillAggK (sizeOfT Tryz.prog T.api_Tag) h nonce_2 v5 ∧
  q0q v1223 v4 v1069 v1230 h (fun v1232 h =>
  commit_Coin.tail m0 v1231 v5 v3 R v1232 h)) h) ∧
  (q0q v1223 v4 v1069 v1230 h (fun v1235 h =>
  callK Tryz.prog .bool F.commit_bit #[.int .i64 side3] (fun (v1236 : Bool) h =>
  stillAggK (sizeOfT Tryz.prog T.api_Tag) h nonce_2 v5 ∧
  commit_Coin.tail m0 v1236 v5 v3 R v1235 h) h))))))
  else
  q0b side3 h (fun v1239 h =>
  q0q v1223 v4 v1069 v1239 h (fun v1240 h =>
  commit_Coin.tail m0 false v5 v3 R v1240 h))) h) ∧
  (q0b side3 h (fun v1243 h =>
  ((callK Tryz.prog .bool F.commit_bit #[.int .i64 player2] (fun (v1244 : Bool) h =>
  stillAggK (sizeOfT Tryz.prog T.api_Tag) h nonce_2 v5 ∧
  if v1244 = true then
  ((callK Tryz.prog .bool F.commit_bit #[.int .i64 side3] (fun (v1245 : Bool) h =>
  stillAggK (sizeOfT Tryz.prog T.api_Tag) h nonce_2 v5 ∧
  q0q v1223 v4 v1069 v1243 h (fun v1246 h =>
  commit_Coin.tail m0 v1245 v5 v3 R v1246 h)) h) ∧
  (q0q v1223 v4 v1069 v1243 h (fun v1249 h =>
  callK Tryz.prog .bool F.commit_bit #[.int .i64 side3] (fun (v1250 : Bool) h =>
  stillAggK (sizeOfT Tryz.prog T.api_Tag) h nonce_2 v5 ∧
  commit_Coin.tail m0 v1250 v5 v3 R v1249 h) h)))
  else
  q0q v1223 v4 v1069 v1243 h (fun v1253 h =>
  commit_Coin.tail m0 false v5 v3 R v1253 h)) h) ∧
  (q0q v1223 v4 v1069 v1243 h (fun v1256 h =>
  callK Tryz.prog .bool F.commit_bit #[.int .i64 player2] (fun (v1257 : Bool) h =>
  stillAggK (sizeOfT Tryz.prog T.api_Tag) h nonce_2 v5 ∧
  if v1257 = true then
  callK Tryz.prog .bool F.commit_bit #[.int .i64 side3] (fun (v1258 : Bool) h =>
  stillAggK (sizeOfT Tryz.prog T.api_Tag) h nonce_2 v5 ∧
  commit_Coin.tail m0 v1258 v5 v3 R v1256 h) h
  else
  commit_Coin.tail m0 false v5 v3 R v1256 h) h))))))) h) ∧
  (q0b side3 h (fun v1263 h =>
  ((callK Tryz.prog .bool F.commit_bit #[.int .i64 player2] (fun (v1264 : Bool) h =>
  stillAggK (sizeOfT Tryz.prog T.api_Tag) h nonce_2 v5 ∧
  if v1264 = true then
  ((callK Tryz.prog .bool F.commit_bit #[.int .i64 side3] (fun (v1265 : Bool) h =>
  stillAggK (sizeOfT Tryz.prog T.api_Tag) h nonce_2 v5 ∧
  q0v v1170 (fun v1266 h =>
  q0q v1266 v4 v1069 v1263 h (fun v1267 h =>
  commit_Coin.tail m0 v1265 v5 v3 R v1267 h)) h) h) ∧
  (q0v v1170 (fun v1270 h =>
  ((callK Tryz.prog .bool F.commit_bit #[.int .i64 side3] (fun (v1271 : Bool) h =>
  stillAggK (sizeOfT Tryz.prog T.api_Tag) h nonce_2 v5 ∧
  q0q v1270 v4 v1069 v1263 h (fun v1272 h =>
  commit_Coin.tail m0 v1271 v5 v3 R v1272 h)) h) ∧
  (q0q v1270 v4 v1069 v1263 h (fun v1275 h =>
  callK Tryz.prog .bool F.commit_bit #[.int .i64 side3] (fun (v1276 : Bool) h =>
  stillAggK (sizeOfT Tryz.prog T.api_Tag) h nonce_2 v5 ∧
  commit_Coin.tail m0 v1276 v5 v3 R v1275 h) h)))) h))
  else
  q0v v1170 (fun v1279 h =>
  q0q v1279 v4 v1069 v1263 h (fun v1280 h =>
  commit_Coin.tail m0 false v5 v3 R v1280 h)) h) h) ∧
  (q0v v1170 (fun v1283 h =>
  ((callK Tryz.prog .bool F.commit_bit #[.int .i64 player2] (fun (v1284 : Bool) h =>
  stillAggK (sizeOfT Tryz.prog T.api_Tag) h nonce_2 v5 ∧
  if v1284 = true then
  ((callK Tryz.prog .bool F.commit_bit #[.int .i64 side3] (fun (v1285 : Bool) h =>
  stillAggK (sizeOfT Tryz.prog T.api_Tag) h nonce_2 v5 ∧
  q0q v1283 v4 v1069 v1263 h (fun v1286 h =>
  commit_Coin.tail m0 v1285 v5 v3 R v1286 h)) h) ∧
  (q0q v1283 v4 v1069 v1263 h (fun v1289 h =>
  callK Tryz.prog .bool F.commit_bit #[.int .i64 side3] (fun (v1290 : Bool) h =>
  stillAggK (sizeOfT Tryz.prog T.api_Tag) h nonce_2 v5 ∧
  commit_Coin.tail m0 v1290 v5 v3 R v1289 h) h)))
  else
  q0q v1283 v4 v1069 v1263 h (fun v1293 h =>
  commit_Coin.tail m0 false v5 v3 R v1293 h)) h) ∧
  (q0q v1283 v4 v1069 v1263 h (fun v1296 h =>
  callK Tryz.prog .bool F.commit_bit #[.int .i64 player2] (fun (v1297 : Bool) h =>
  stillAggK (sizeOfT Tryz.prog T.api_Tag) h nonce_2 v5 ∧
  if v1297 = true then
  callK Tryz.prog .bool F.commit_bit #[.int .i64 side3] (fun (v1298 : Bool) h =>
  stillAggK (sizeOfT Tryz.prog T.api_Tag) h nonce_2 v5 ∧
  commit_Coin.tail m0 v1298 v5 v3 R v1296 h) h
  else
  commit_Coin.tail m0 false v5 v3 R v1296 h) h)))) h))))))))) ∧
  (q0b side3 h (fun v1303 h =>
  ((callK Tryz.prog .bool F.commit_bit #[.int .i64 player2] (fun (v1304 : Bool) h =>
  stillAggK (sizeOfT Tryz.prog T.api_Tag) h nonce_2 v5 ∧
  if v1304 = true then
  ((callK Tryz.prog .bool F.commit_bit #[.int .i64 side3] (fun (v1305 : Bool) h =>
  stillAggK (sizeOfT Tryz.prog T.api_Tag) h nonce_2 v5 ∧
  newSlK h 4 #[.int .u8 99, .int .u8 111, .int .u8 105, .int .u8 110] T.uint8 (fun v1306 h =>
  q0v v1306 (fun v1307 h =>
  q0q v1307 v4 v1069 v1303 h (fun v1308 h =>
  commit_Coin.tail m0 v1305 v5 v3 R v1308 h)) h)) h) ∧
  (newSlK h 4 #[.int .u8 99, .int .u8 111, .int .u8 105, .int .u8 110] T.uint8 (fun v1311 h =>
  ((callK Tryz.prog .bool F.commit_bit #[.int .i64 side3] (fun (v1312 : Bool) h =>
  stillAggK (sizeOfT Tryz.prog T.api_Tag) h nonce_2 v5 ∧
  q0v v1311 (fun v1313 h =>
  q0q v1313 v4 v1069 v1303 h (fun v1314 h =>
  commit_Coin.tail m0 v1312 v5 v3 R v1314 h)) h) h) ∧
  (q0v v1311 (fun v1317 h =>
  ((callK Tryz.prog .bool F.commit_bit #[.int .i64 side3] (fun (v1318 : Bool) h =>
  stillAggK (sizeOfT Tryz.prog T.api_Tag) h nonce_2 v5 ∧
  q0q v1317 v4 v1069 v1303 h (fun v1319 h =>
  commit_Coin.tail m0 v1318 v5 v3 R v1319 h)) h) ∧
  (q0q v1317 v4 v1069 v1303 h (fun v1322 h =>
  callK Tryz.prog .bool F.commit_bit #[.int .i64 side3] (fun (v1323 : Bool) h =>
  stillAggK (sizeOfT Tryz.prog T.api_Tag) h nonce_2 v5 ∧
  commit_Coin.tail m0 v1323 v5 v3 R v1322 h) h)))) h)))))
  else
  newSlK h 4 #[.int .u8 99, .int .u8 111, .int .u8 105, .int .u8 110] T.uint8 (fun v1326 h =>
  q0v v1326 (fun v1327 h =>
  q0q v1327 v4 v1069 v1303 h (fun v1328 h =>
  commit_Coin.tail m0 false v5 v3 R v1328 h)) h)) h) ∧
  (newSlK h 4 #[.int .u8 99, .int .u8 111, .int .u8 105, .int .u8 110] T.uint8 (fun v1331 h =>
  ((callK Tryz.prog .bool F.commit_bit #[.int .i64 player2] (fun (v1332 : Bool) h =>
  stillAggK (sizeOfT Tryz.prog T.api_Tag) h nonce_2 v5 ∧
  if v1332 = true then
  ((callK Tryz.prog .bool F.commit_bit #[.int .i64 side3] (fun (v1333 : Bool) h =>
  stillAggK (sizeOfT Tryz.prog T.api_Tag) h nonce_2 v5 ∧
  q0v v1331 (fun v1334 h =>
  q0q v1334 v4 v1069 v1303 h (fun v1335 h =>
  commit_Coin.tail m0 v1333 v5 v3 R v1335 h)) h) h) ∧
  (q0v v1331 (fun v1338 h =>
  ((callK Tryz.prog .bool F.commit_bit #[.int .i64 side3] (fun (v1339 : Bool) h =>
  stillAggK (sizeOfT Tryz.prog T.api_Tag) h nonce_2 v5 ∧
  q0q v1338 v4 v1069 v1303 h (fun v1340 h =>
  commit_Coin.tail m0 v1339 v5 v3 R v1340 h)) h) ∧
  (q0q v1338 v4 v1069 v1303 h (fun v1343 h =>
  callK Tryz.prog .bool F.commit_bit #[.int .i64 side3] (fun (v1344 : Bool) h =>
  stillAggK (sizeOfT Tryz.prog T.api_Tag) h nonce_2 v5 ∧
  commit_Coin.tail m0 v1344 v5 v3 R v1343 h) h)))) h))
  else
  q0v v1331 (fun v1347 h =>
  q0q v1347 v4 v1069 v1303 h (fun v1348 h =>
  commit_Coin.tail m0 false v5 v3 R v1348 h)) h) h) ∧
  (q0v v1331 (fun v1351 h =>
  ((callK Tryz.prog .bool F.commit_bit #[.int .i64 player2] (fun (v1352 : Bool) h =>
  stillAggK (sizeOfT Tryz.prog T.api_Tag) h nonce_2 v5 ∧
  if v1352 = true then
  ((callK Tryz.prog .bool F.commit_bit #[.int .i64 side3] (fun (v1353 : Bool) h =>
  stillAggK (sizeOfT Tryz.prog T.api_Tag) h nonce_2 v5 ∧
  q0q v1351 v4 v1069 v1303 h (fun v1354 h =>
  commit_Coin.tail m0 v1353 v5 v3 R v1354 h)) h) ∧
  (q0q v1351 v4 v1069 v1303 h (fun v1357 h =>
  callK Tryz.prog .bool F.commit_bit #[.int .i64 side3] (fun (v1358 : Bool) h =>
  stillAggK (sizeOfT Tryz.prog T.api_Tag) h nonce_2 v5 ∧
  commit_Coin.tail m0 v1358 v5 v3 R v1357 h) h)))
  else
  q0q v1351 v4 v1069 v1303 h (fun v1361 h =>
  commit_Coin.tail m0 false v5 v3 R v1361 h)) h) ∧
  (q0q v1351 v4 v1069 v1303 h (fun v1364 h =>
  callK Tryz.prog .bool F.commit_bit #[.int .i64 player2] (fun (v1365 : Bool) h =>
  stillAggK (sizeOfT Tryz.prog T.api_Tag) h nonce_2 v5 ∧
  if v1365 = true then
  callK Tryz.prog .bool F.commit_bit #[.int .i64 side3] (fun (v1366 : Bool) h =>
  stillAggK (sizeOfT Tryz.prog T.api_Tag) h nonce_2 v5 ∧
  commit_Coin.tail m0 v1366 v5 v3 R v1364 h) h
  else
  commit_Coin.tail m0 false v5 v3 R v1364 h) h)))) h)))))))))))) ∧
  (q0b side3 h (fun v1371 h =>
  ((callK Tryz.prog .bool F.commit_bit #[.int .i64 player2] (fun (v1372 : Bool) h =>
  stillAggK (sizeOfT Tryz.prog T.api_Tag) h nonce_2 v5 ∧
  if v1372 = true then
  ((callK Tryz.prog .bool F.commit_bit #[.int .i64 side3] (fun (v1373 : Bool) h =>
  stillAggK (sizeOfT Tryz.prog T.api_Tag) h nonce_2 v5 ∧
  ((newSlK h 4 #[.int .u8 99, .int .u8 111, .int .u8 105, .int .u8 110] T.uint8 (fun v1374 h =>
  ((q0v v1374 (fun v1375 h =>
  q0b player2 h (fun v1376 h =>
  q0q v1375 v4 v1376 v1371 h (fun v1377 h =>
  commit_Coin.tail m0 v1373 v5 v3 R v1377 h))) h) ∧
  (q0b player2 h (fun v1380 h =>
  q0v v1374 (fun v1381 h =>
  q0q v1381 v4 v1380 v1371 h (fun v1382 h =>
  commit_Coin.tail m0 v1373 v5 v3 R v1382 h)) h))))) ∧
  (q0b player2 h (fun v1385 h =>
  newSlK h 4 #[.int .u8 99, .int .u8 111, .int .u8 105, .int .u8 110] T.uint8 (fun v1386 h =>
  q0v v1386 (fun v1387 h =>
  q0q v1387 v4 v1385 v1371 h (fun v1388 h =>
  commit_Coin.tail m0 v1373 v5 v3 R v1388 h)) h))))) h) ∧
  (((newSlK h 4 #[.int .u8 99, .int .u8 111, .int .u8 105, .int .u8 110] T.uint8 (fun v1391 h =>
  ((callK Tryz.prog .bool F.commit_bit #[.int .i64 side3] (fun (v1392 : Bool) h =>
  stillAggK (sizeOfT Tryz.prog T.api_Tag) h nonce_2 v5 ∧
  ((q0v v1391 (fun v1393 h =>
  q0b player2 h (fun v1394 h =>
  q0q v1393 v4 v1394 v1371 h (fun v1395 h =>
  commit_Coin.tail m0 v1392 v5 v3 R v1395 h))) h) ∧
  (q0b player2 h (fun v1398 h =>
  q0v v1391 (fun v1399 h =>
  q0q v1399 v4 v1398 v1371 h (fun v1400 h =>
  commit_Coin.tail m0 v1392 v5 v3 R v1400 h)) h)))) h) ∧
  (((q0v v1391 (fun v1403 h =>
  ((callK Tryz.prog .bool F.commit_bit #[.int .i64 side3] (fun (v1404 : Bool) h =>
  stillAggK (sizeOfT Tryz.prog T.api_Tag) h nonce_2 v5 ∧
  q0b player2 h (fun v1405 h =>
  q0q v1403 v4 v1405 v1371 h (fun v1406 h =>
  commit_Coin.tail m0 v1404 v5 v3 R v1406 h))) h) ∧
  (q0b player2 h (fun v1409 h =>
  ((callK Tryz.prog .bool F.commit_bit #[.int .i64 side3] (fun (v1410 : Bool) h =>
  stillAggK (sizeOfT Tryz.prog T.api_Tag) h nonce_2 v5 ∧
  q0q v1403 v4 v1409 v1371 h (fun v1411 h =>
  commit_Coin.tail m0 v1410 v5 v3 R v1411 h)) h) ∧
  (q0q v1403 v4 v1409 v1371 h (fun v1414 h =>
  callK Tryz.prog .bool F.commit_bit #[.int .i64 side3] (fun (v1415 : Bool) h =>
  stillAggK (sizeOfT Tryz.prog T.api_Tag) h nonce_2 v5 ∧
  commit_Coin.tail m0 v1415 v5 v3 R v1414 h) h))))))) h) ∧
  (q0b player2 h (fun v1418 h =>
  ((callK Tryz.prog .bool F.commit_bit #[.int .i64 side3] (fun (v1419 : Bool) h =>
  stillAggK (sizeOfT Tryz.prog T.api_Tag) h nonce_2 v5 ∧
  q0v v1391 (fun v1420 h =>
  q0q v1420 v4 v1418 v1371 h (fun v1421 h =>
  commit_Coin.tail m0 v1419 v5 v3 R v1421 h)) h) h) ∧
  (q0v v1391 (fun v1424 h =>
  ((callK Tryz.prog .bool F.commit_bit #[.int .i64 side3] (fun (v1425 : Bool) h =>
  stillAggK (sizeOfT Tryz.prog T.api_Tag) h nonce_2 v5 ∧
  q0q v1424 v4 v1418 v1371 h (fun v1426 h =>
  commit_Coin.tail m0 v1425 v5 v3 R v1426 h)) h) ∧
  (q0q v1424 v4 v1418 v1371 h (fun v1429 h =>
  callK Tryz.prog .bool F.commit_bit #[.int .i64 side3] (fun (v1430 : Bool) h =>
  stillAggK (sizeOfT Tryz.prog T.api_Tag) h nonce_2 v5 ∧
  commit_Coin.tail m0 v1430 v5 v3 R v1429 h) h)))) h))))))))) ∧
  (q0b player2 h (fun v1433 h =>
  ((callK Tryz.prog .bool F.commit_bit #[.int .i64 side3] (fun (v1434 : Bool) h =>
  stillAggK (sizeOfT Tryz.prog T.api_Tag) h nonce_2 v5 ∧
  newSlK h 4 #[.int .u8 99, .int .u8 111, .int .u8 105, .int .u8 110] T.uint8 (fun v1435 h =>
  q0v v1435 (fun v1436 h =>
  q0q v1436 v4 v1433 v1371 h (fun v1437 h =>
  commit_Coin.tail m0 v1434 v5 v3 R v1437 h)) h)) h) ∧
  (newSlK h 4 #[.int .u8 99, .int .u8 111, .int .u8 105, .int .u8 110] T.uint8 (fun v1440 h =>
  ((callK Tryz.prog .bool F.commit_bit #[.int .i64 side3] (fun (v1441 : Bool) h =>
  stillAggK (sizeOfT Tryz.prog T.api_Tag) h nonce_2 v5 ∧
  q0v v1440 (fun v1442 h =>
  q0q v1442 v4 v1433 v1371 h (fun v1443 h =>
  commit_Coin.tail m0 v1441 v5 v3 R v1443 h)) h) h) ∧
  (q0v v1440 (fun v1446 h =>
  ((callK Tryz.prog .bool F.commit_bit #[.int .i64 side3] (fun (v1447 : Bool) h =>
  stillAggK (sizeOfT Tryz.prog T.api_Tag) h nonce_2 v5 ∧
  q0q v1446 v4 v1433 v1371 h (fun v1448 h =>
  commit_Coin.tail m0 v1447 v5 v3 R v1448 h)) h) ∧
  (q0q v1446 v4 v1433 v1371 h (fun v1451 h =>
  callK Tryz.prog .bool F.commit_bit #[.int .i64 side3] (fun (v1452 : Bool) h =>
  stillAggK (sizeOfT Tryz.prog T.api_Tag) h nonce_2 v5 ∧
  commit_Coin.tail m0 v1452 v5 v3 R v1451 h) h)))) h))))))))))
  else
  ((newSlK h 4 #[.int .u8 99, .int .u8 111, .int .u8 105, .int .u8 110] T.uint8 (fun v1455 h =>
  ((q0v v1455 (fun v1456 h =>
  q0b player2 h (fun v1457 h =>
  q0q v1456 v4 v1457 v1371 h (fun v1458 h =>
  commit_Coin.tail m0 false v5 v3 R v1458 h))) h) ∧
  (q0b player2 h (fun v1461 h =>
  q0v v1455 (fun v1462 h =>
  q0q v1462 v4 v1461 v1371 h (fun v1463 h =>
  commit_Coin.tail m0 false v5 v3 R v1463 h)) h))))) ∧
  (q0b player2 h (fun v1466 h =>
  newSlK h 4 #[.int .u8 99, .int .u8 111, .int .u8 105, .int .u8 110] T.uint8 (fun v1467 h =>
  q0v v1467 (fun v1468 h =>
  q0q v1468 v4 v1466 v1371 h (fun v1469 h =>
  commit_Coin.tail m0 false v5 v3 R v1469 h)) h))))) h) ∧
  (((newSlK h 4 #[.int .u8 99, .int .u8 111, .int .u8 105, .int .u8 110] T.uint8 (fun v1472 h =>
  ((callK Tryz.prog .bool F.commit_bit #[.int .i64 player2] (fun (v1473 : Bool) h =>
  stillAggK (sizeOfT Tryz.prog T.api_Tag) h nonce_2 v5 ∧
  if v1473 = true then
  ((callK Tryz.prog .bool F.commit_bit #[.int .i64 side3] (fun (v1474 : Bool) h =>
  stillAggK (sizeOfT Tryz.prog T.api_Tag) h nonce_2 v5 ∧
  ((q0v v1472 (fun v1475 h =>
  q0b player2 h (fun v1476 h =>
  q0q v1475 v4 v1476 v1371 h (fun v1477 h =>
  commit_Coin.tail m0 v1474 v5 v3 R v1477 h))) h) ∧
  (q0b player2 h (fun v1480 h =>
  q0v v1472 (fun v1481 h =>
  q0q v1481 v4 v1480 v1371 h (fun v1482 h =>
  commit_Coin.tail m0 v1474 v5 v3 R v1482 h)) h)))) h) ∧
  (((q0v v1472 (fun v1485 h =>
  ((callK Tryz.prog .bool F.commit_bit #[.int .i64 side3] (fun (v1486 : Bool) h =>
  stillAggK (sizeOfT Tryz.prog T.api_Tag) h nonce_2 v5 ∧
  q0b player2 h (fun v1487 h =>
  q0q v1485 v4 v1487 v1371 h (fun v1488 h =>
  commit_Coin.tail m0 v1486 v5 v3 R v1488 h))) h) ∧
  (q0b player2 h (fun v1491 h =>
  ((callK Tryz.prog .bool F.commit_bit #[.int .i64 side3] (fun (v1492 : Bool) h =>
  stillAggK (sizeOfT Tryz.prog T.api_Tag) h nonce_2 v5 ∧
  q0q v1485 v4 v1491 v1371 h (fun v1493 h =>
  commit_Coin.tail m0 v1492 v5 v3 R v1493 h)) h) ∧
  (q0q v1485 v4 v1491 v1371 h (fun v1496 h =>
  callK Tryz.prog .bool F.commit_bit #[.int .i64 side3] (fun (v1497 : Bool) h =>
  stillAggK (sizeOfT Tryz.prog T.api_Tag) h nonce_2 v5 ∧
  commit_Coin.tail m0 v1497 v5 v3 R v1496 h) h))))))) h) ∧
  (q0b player2 h (fun v1500 h =>
  ((callK Tryz.prog .bool F.commit_bit #[.int .i64 side3] (fun (v1501 : Bool) h =>
  stillAggK (sizeOfT Tryz.prog T.api_Tag) h nonce_2 v5 ∧
  q0v v1472 (fun v1502 h =>
  q0q v1502 v4 v1500 v1371 h (fun v1503 h =>
  commit_Coin.tail m0 v1501 v5 v3 R v1503 h)) h) h) ∧
  (q0v v1472 (fun v1506 h =>
  ((callK Tryz.prog .bool F.commit_bit #[.int .i64 side3] (fun (v1507 : Bool) h =>
  stillAggK (sizeOfT Tryz.prog T.api_Tag) h nonce_2 v5 ∧
  q0q v1506 v4 v1500 v1371 h (fun v1508 h =>
  commit_Coin.tail m0 v1507 v5 v3 R v1508 h)) h) ∧
  (q0q v1506 v4 v1500 v1371 h (fun v1511 h =>
  callK Tryz.prog .bool F.commit_bit #[.int .i64 side3] (fun (v1512 : Bool) h =>
  stillAggK (sizeOfT Tryz.prog T.api_Tag) h nonce_2 v5 ∧
  commit_Coin.tail m0 v1512 v5 v3 R v1511 h) h)))) h)))))))
  else
  ((q0v v1472 (fun v1515 h =>
  q0b player2 h (fun v1516 h =>
  q0q v1515 v4 v1516 v1371 h (fun v1517 h =>
  commit_Coin.tail m0 false v5 v3 R v1517 h))) h) ∧
  (q0b player2 h (fun v1520 h =>
  q0v v1472 (fun v1521 h =>
  q0q v1521 v4 v1520 v1371 h (fun v1522 h =>
  commit_Coin.tail m0 false v5 v3 R v1522 h)) h)))) h) ∧
  (((q0v v1472 (fun v1525 h =>
  ((callK Tryz.prog .bool F.commit_bit #[.int .i64 player2] (fun (v1526 : Bool) h =>
  stillAggK (sizeOfT Tryz.prog T.api_Tag) h nonce_2 v5 ∧
  if v1526 = true then
  ((callK Tryz.prog .bool F.commit_bit #[.int .i64 side3] (fun (v1527 : Bool) h =>
  stillAggK (sizeOfT Tryz.prog T.api_Tag) h nonce_2 v5 ∧
  q0b player2 h (fun v1528 h =>
  q0q v1525 v4 v1528 v1371 h (fun v1529 h =>
  commit_Coin.tail m0 v1527 v5 v3 R v1529 h))) h) ∧
  (q0b player2 h (fun v1532 h =>
  ((callK Tryz.prog .bool F.commit_bit #[.int .i64 side3] (fun (v1533 : Bool) h =>
  stillAggK (sizeOfT Tryz.prog T.api_Tag) h nonce_2 v5 ∧
  q0q v1525 v4 v1532 v1371 h (fun v1534 h =>
  commit_Coin.tail m0 v1533 v5 v3 R v1534 h)) h) ∧
  (q0q v1525 v4 v1532 v1371 h (fun v1537 h =>
  callK Tryz.prog .bool F.commit_bit #[.int .i64 side3] (fun (v1538 : Bool) h =>
  stillAggK (sizeOfT Tryz.prog T.api_Tag) h nonce_2 v5 ∧
  commit_Coin.tail m0 v1538 v5 v3 R v1537 h) h))))))
  else
  q0b player2 h (fun v1541 h =>
  q0q v1525 v4 v1541 v1371 h (fun v1542 h =>
  commit_Coin.tail m0 false v5 v3 R v1542 h))) h) ∧
  (q0b player2 h (fun v1545 h =>
  ((callK Tryz.prog .bool F.commit_bit #[.int .i64 player2] (fun (v1546 : Bool) h =>
  stillAggK (sizeOfT Tryz.prog T.api_Tag) h nonce_2 v5 ∧
  if v1546 = true then
  ((callK Tryz.prog .bool F.commit_bit #[.int .i64 side3] (fun (v1547 : Bool) h =>
  stillAggK (sizeOfT Tryz.prog T.api_Tag) h nonce_2 v5 ∧
  q0q v1525 v4 v1545 v1371 h (fun v1548 h =>
  commit_Coin.tail m0 v1547 v5 v3 R v1548 h)) h) ∧
  (q0q v1525 v4 v1545 v1371 h (fun v1551 h =>
  callK Tryz.prog .bool F.commit_bit #[.int .i64 side3] (fun (v1552 : Bool) h =>
  stillAggK (sizeOfT Tryz.prog T.api_Tag) h nonce_2 v5 ∧
  commit_Coin.tail m0 v1552 v5 v3 R v1551 h) h)))
  else
  q0q v1525 v4 v1545 v1371 h (fun v1555 h =>
  commit_Coin.tail m0 false v5 v3 R v1555 h)) h) ∧
  (q0q v1525 v4 v1545 v1371 h (fun v1558 h =>
  callK Tryz.prog .bool F.commit_bit #[.int .i64 player2] (fun (v1559 : Bool) h =>
  stillAggK (sizeOfT Tryz.prog T.api_Tag) h nonce_2 v5 ∧
  if v1559 = true then
  callK Tryz.prog .bool F.commit_bit #[.int .i64 side3] (fun (v1560 : Bool) h =>
  stillAggK (sizeOfT Tryz.prog T.api_Tag) h nonce_2 v5 ∧
  commit_Coin.tail m0 v1560 v5 v3 R v1558 h) h
  else
  commit_Coin.tail m0 false v5 v3 R v1558 h) h))))))) h) ∧
  (q0b player2 h (fun v1565 h =>
  ((callK Tryz.prog .bool F.commit_bit #[.int .i64 player2] (fun (v1566 : Bool) h =>
  stillAggK (sizeOfT Tryz.prog T.api_Tag) h nonce_2 v5 ∧
  if v1566 = true then
  ((callK Tryz.prog .bool F.commit_bit #[.int .i64 side3] (fun (v1567 : Bool) h =>
  stillAggK (sizeOfT Tryz.prog T.api_Tag) h nonce_2 v5 ∧
  q0v v1472 (fun v1568 h =>
  q0q v1568 v4 v1565 v1371 h (fun v1569 h =>
  commit_Coin.tail m0 v1567 v5 v3 R v1569 h)) h) h) ∧
  (q0v v1472 (fun v1572 h =>
  ((callK Tryz.prog .bool F.commit_bit #[.int .i64 side3] (fun (v1573 : Bool) h =>
  stillAggK (sizeOfT Tryz.prog T.api_Tag) h nonce_2 v5 ∧
  q0q v1572 v4 v1565 v1371 h (fun v1574 h =>
  commit_Coin.tail m0 v1573 v5 v3 R v1574 h)) h) ∧
  (q0q v1572 v4 v1565 v1371 h (fun v1577 h =>
  callK Tryz.prog .bool F.commit_bit #[.int .i64 side3] (fun (v1578 : Bool) h =>
  stillAggK (sizeOfT Tryz.prog T.api_Tag) h nonce_2 v5 ∧
  commit_Coin.tail m0 v1578 v5 v3 R v1577 h) h)))) h))
  else
  q0v v1472 (fun v1581 h =>
  q0q v1581 v4 v1565 v1371 h (fun v1582 h =>
  commit_Coin.tail m0 false v5 v3 R v1582 h)) h) h) ∧
  (q0v v1472 (fun v1585 h =>
  ((callK Tryz.prog .bool F.commit_bit #[.int .i64 player2] (fun (v1586 : Bool) h =>
  stillAggK (sizeOfT Tryz.prog T.api_Tag) h nonce_2 v5 ∧
  if v1586 = true then
  ((callK Tryz.prog .bool F.commit_bit #[.int .i64 side3] (fun (v1587 : Bool) h =>
  stillAggK (sizeOfT Tryz.prog T.api_Tag) h nonce_2 v5 ∧
  q0q v1585 v4 v1565 v1371 h (fun v1588 h =>
  commit_Coin.tail m0 v1587 v5 v3 R v1588 h)) h) ∧
  (q0q v1585 v4 v1565 v1371 h (fun v1591 h =>
  callK Tryz.prog .bool F.commit_bit #[.int .i64 side3] (fun (v1592 : Bool) h =>
  stillAggK (sizeOfT Tryz.prog T.api_Tag) h nonce_2 v5 ∧
  commit_Coin.tail m0 v1592 v5 v3 R v1591 h) h)))
  else
  q0q v1585 v4 v1565 v1371 h (fun v1595 h =>
  commit_Coin.tail m0 false v5 v3 R v1595 h)) h) ∧
  (q0q v1585 v4 v1565 v1371 h (fun v1598 h =>
  callK Tryz.prog .bool F.commit_bit #[.int .i64 player2] (fun (v1599 : Bool) h =>
  stillAggK (sizeOfT Tryz.prog T.api_Tag) h nonce_2 v5 ∧
  if v1599 = true then
  callK Tryz.prog .bool F.commit_bit #[.int .i64 side3] (fun (v1600 : Bool) h =>
  stillAggK (sizeOfT Tryz.prog T.api_Tag) h nonce_2 v5 ∧
  commit_Coin.tail m0 v1600 v5 v3 R v1598 h) h
  else
  commit_Coin.tail m0 false v5 v3 R v1598 h) h)))) h))))))))) ∧
  (q0b player2 h (fun v1605 h =>
  ((callK Tryz.prog .bool F.commit_bit #[.int .i64 player2] (fun (v1606 : Bool) h =>
  stillAggK (sizeOfT Tryz.prog T.api_Tag) h nonce_2 v5 ∧
  if v1606 = true then
  ((callK Tryz.prog .bool F.commit_bit #[.int .i64 side3] (fun (v1607 : Bool) h =>
  stillAggK (sizeOfT Tryz.prog T.api_Tag) h nonce_2 v5 ∧
  newSlK h 4 #[.int .u8 99, .int .u8 111, .int .u8 105, .int .u8 110] T.uint8 (fun v1608 h =>
  q0v v1608 (fun v1609 h =>
  q0q v1609 v4 v1605 v1371 h (fun v1610 h =>
  commit_Coin.tail m0 v1607 v5 v3 R v1610 h)) h)) h) ∧
  (newSlK h 4 #[.int .u8 99, .int .u8 111, .int .u8 105, .int .u8 110] T.uint8 (fun v1613 h =>
  ((callK Tryz.prog .bool F.commit_bit #[.int .i64 side3] (fun (v1614 : Bool) h =>
  stillAggK (sizeOfT Tryz.prog T.api_Tag) h nonce_2 v5 ∧
  q0v v1613 (fun v1615 h =>
  q0q v1615 v4 v1605 v1371 h (fun v1616 h =>
  commit_Coin.tail m0 v1614 v5 v3 R v1616 h)) h) h) ∧
  (q0v v1613 (fun v1619 h =>
  ((callK Tryz.prog .bool F.commit_bit #[.int .i64 side3] (fun (v1620 : Bool) h =>
  stillAggK (sizeOfT Tryz.prog T.api_Tag) h nonce_2 v5 ∧
  q0q v1619 v4 v1605 v1371 h (fun v1621 h =>
  commit_Coin.tail m0 v1620 v5 v3 R v1621 h)) h) ∧
  (q0q v1619 v4 v1605 v1371 h (fun v1624 h =>
  callK Tryz.prog .bool F.commit_bit #[.int .i64 side3] (fun (v1625 : Bool) h =>
  stillAggK (sizeOfT Tryz.prog T.api_Tag) h nonce_2 v5 ∧
  commit_Coin.tail m0 v1625 v5 v3 R v1624 h) h)))) h)))))
  else
  newSlK h 4 #[.int .u8 99, .int .u8 111, .int .u8 105, .int .u8 110] T.uint8 (fun v1628 h =>
  q0v v1628 (fun v1629 h =>
  q0q v1629 v4 v1605 v1371 h (fun v1630 h =>
  commit_Coin.tail m0 false v5 v3 R v1630 h)) h)) h) ∧
  (newSlK h 4 #[.int .u8 99, .int .u8 111, .int .u8 105, .int .u8 110] T.uint8 (fun v1633 h =>
  ((callK Tryz.prog .bool F.commit_bit #[.int .i64 player2] (fun (v1634 : Bool) h =>
  stillAggK (sizeOfT Tryz.prog T.api_Tag) h nonce_2 v5 ∧
  if v1634 = true then
  ((callK Tryz.prog .bool F.commit_bit #[.int .i64 side3] (fun (v1635 : Bool) h =>
  stillAggK (sizeOfT Tryz.prog T.api_Tag) h nonce_2 v5 ∧
  q0v v1633 (fun v1636 h =>
  q0q v1636 v4 v1605 v1371 h (fun v1637 h =>
  commit_Coin.tail m0 v1635 v5 v3 R v1637 h)) h) h) ∧
  (q0v v1633 (fun v1640 h =>
  ((callK Tryz.prog .bool F.commit_bit #[.int .i64 side3] (fun (v1641 : Bool) h =>
  stillAggK (sizeOfT Tryz.prog T.api_Tag) h nonce_2 v5 ∧
  q0q v1640 v4 v1605 v1371 h (fun v1642 h =>
  commit_Coin.tail m0 v1641 v5 v3 R v1642 h)) h) ∧
  (q0q v1640 v4 v1605 v1371 h (fun v1645 h =>
  callK Tryz.prog .bool F.commit_bit #[.int .i64 side3] (fun (v1646 : Bool) h =>
  stillAggK (sizeOfT Tryz.prog T.api_Tag) h nonce_2 v5 ∧
  commit_Coin.tail m0 v1646 v5 v3 R v1645 h) h)))) h))
  else
  q0v v1633 (fun v1649 h =>
  q0q v1649 v4 v1605 v1371 h (fun v1650 h =>
  commit_Coin.tail m0 false v5 v3 R v1650 h)) h) h) ∧
  (q0v v1633 (fun v1653 h =>
  ((callK Tryz.prog .bool F.commit_bit #[.int .i64 player2] (fun (v1654 : Bool) h =>
  stillAggK (sizeOfT Tryz.prog T.api_Tag) h nonce_2 v5 ∧
  if v1654 = true then
  ((callK Tryz.prog .bool F.commit_bit #[.int .i64 side3] (fun (v1655 : Bool) h =>
  stillAggK (sizeOfT Tryz.prog T.api_Tag) h nonce_2 v5 ∧
  q0q v1653 v4 v1605 v1371 h (fun v1656 h =>
  commit_Coin.tail m0 v1655 v5 v3 R v1656 h)) h) ∧
  (q0q v1653 v4 v1605 v1371 h (fun v1659 h =>
  callK Tryz.prog .bool F.commit_bit #[.int .i64 side3] (fun (v1660 : Bool) h =>
  stillAggK (sizeOfT Tryz.prog T.api_Tag) h nonce_2 v5 ∧
  commit_Coin.tail m0 v1660 v5 v3 R v1659 h) h)))
  else
  q0q v1653 v4 v1605 v1371 h (fun v1663 h =>
  commit_Coin.tail m0 false v5 v3 R v1663 h)) h) ∧
  (q0q v1653 v4 v1605 v1371 h (fun v1666 h =>
  callK Tryz.prog .bool F.commit_bit #[.int .i64 player2] (fun (v1667 : Bool) h =>
  stillAggK (sizeOfT Tryz.prog T.api_Tag) h nonce_2 v5 ∧
  if v1667 = true then
  callK Tryz.prog .bool F.commit_bit #[.int .i64 side3] (fun (v1668 : Bool) h =>
  stillAggK (sizeOfT Tryz.prog T.api_Tag) h nonce_2 v5 ∧
  commit_Coin.tail m0 v1668 v5 v3 R v1666 h) h
  else
  commit_Coin.tail m0 false v5 v3 R v1666 h) h)))) h))))))))))))))))))))))
def commit_Coin.ann : Ann := (.seq .leaf (.seq (.any (.loc 0 (.loc 1 (.loc 10 (.loc 11 (.loc 12 (.loc 14 (.loc 15 (.st 7 8126464 (.alt 2 (.loc 3 (.locA 4 (.alt 5 (.loc 6 (.alt 8 (.alt 9 (.alt 13 (.last 16 (.last 17 (.last 18 (.loc 19 (.loc 20 (.last 21 (.loc 22 .done))))))) (.last 16 (.last 13 (.last 17 (.last 18 (.loc 19 (.loc 20 (.last 21 (.loc 22 .done))))))))) (.alt 13 (.alt 9 (.last 16 (.last 17 (.last 18 (.loc 19 (.loc 20 (.last 21 (.loc 22 .done))))))) (.last 16 (.last 9 (.last 17 (.last 18 (.loc 19 (.loc 20 (.last 21 (.loc 22 .done))))))))) (.last 16 (.alt 9 (.last 13 (.last 17 (.last 18 (.loc 19 (.loc 20 (.last 21 (.loc 22 .done))))))) (.last 13 (.last 9 (.last 17 (.last 18 (.loc 19 (.loc 20 (.last 21 (.loc 22 .done)))))))))))) (.alt 13 (.alt 8 (.alt 9 (.last 16 (.last 17 (.last 18 (.loc 19 (.loc 20 (.last 21 (.loc 22 .done))))))) (.last 16 (.last 9 (.last 17 (.last 18 (.loc 19 (.loc 20 (.last 21 (.loc 22 .done))))))))) (.last 16 (.last 8 (.last 9 (.last 17 (.last 18 (.loc 19 (.loc 20 (.last 21 (.loc 22 .done)))))))))) (.last 16 (.alt 8 (.alt 9 (.last 13 (.last 17 (.last 18 (.loc 19 (.loc 20 (.last 21 (.loc 22 .done))))))) (.last 13 (.last 9 (.last 17 (.last 18 (.loc 19 (.loc 20 (.last 21 (.loc 22 .done))))))))) (.last 13 (.last 8 (.last 9 (.last 17 (.last 18 (.loc 19 (.loc 20 (.last 21 (.loc 22 .done)))))))))))))) (.alt 8 (.alt 5 (.loc 6 (.alt 9 (.alt 13 (.last 16 (.last 17 (.last 18 (.loc 19 (.loc 20 (.last 21 (.loc 22 .done))))))) (.last 16 (.last 13 (.last 17 (.last 18 (.loc 19 (.loc 20 (.last 21 (.loc 22 .done))))))))) (.alt 13 (.alt 9 (.last 16 (.last 17 (.last 18 (.loc 19 (.loc 20 (.last 21 (.loc 22 .done))))))) (.last 16 (.last 9 (.last 17 (.last 18 (.loc 19 (.loc 20 (.last 21 (.loc 22 .done))))))))) (.last 16 (.alt 9 (.last 13 (.last 17 (.last 18 (.loc 19 (.loc 20 (.last 21 (.loc 22 .done))))))) (.last 13 (.last 9 (.last 17 (.last 18 (.loc 19 (.loc 20 (.last 21 (.loc 22 .done))))))))))))) (.alt 9 (.alt 5 (.loc 6 (.alt 13 (.last 16 (.last 17 (.last 18 (.loc 19 (.loc 20 (.last 21 (.loc 22 .done))))))) (.last 16 (.last 13 (.last 17 (.last 18 (.loc 19 (.loc 20 (.last 21 (.loc 22 .done)))))))))) (.alt 13 (.alt 5 (.loc 6 (.last 16 (.last 17 (.last 18 (.loc 19 (.loc 20 (.last 21 (.loc 22 .done)))))))) (.last 16 (.alt 5 (.loc 6 (.last 17 (.last 18 (.loc 19 (.loc 20 (.last 21 (.loc 22 .done))))))) (.last 17 (.last 5 (.loc 6 (.last 18 (.loc 19 (.loc 20 (.last 21 (.loc 22 .done))))))))))) (.last 16 (.alt 5 (.loc 6 (.last 13 (.last 17 (.last 18 (.loc 19 (.loc 20 (.last 21 (.loc 22 .done)))))))) (.last 13 (.alt 5 (.loc 6 (.last 17 (.last 18 (.loc 19 (.loc 20 (.last 21 (.loc 22 .done))))))) (.last 17 (.last 5 (.loc 6 (.last 18 (.loc 19 (.loc 20 (.last 21 (.loc 22 .done)))))))))))))) (.alt 13 (.alt 5 (.loc 6 (.alt 9 (.last 16 (.last 17 (.last 18 (.loc 19 (.loc 20 (.last 21 (.loc 22 .done))))))) (.last 16 (.last 9 (.last 17 (.last 18 (.loc 19 (.loc 20 (.last 21 (.loc 22 .done)))))))))) (.alt 9 (.alt 5 (.loc 6 (.last 16 (.last 17 (.last 18 (.loc 19 (.loc 20 (.last 21 (.loc 22 .done)))))))) (.last 16 (.alt 5 (.loc 6 (.last 17 (.last 18 (.loc 19 (.loc 20 (.last 21 (.loc 22 .done))))))) (.last 17 (.last 5 (.loc 6 (.last 18 (.loc 19 (.loc 20 (.last 21 (.loc 22 .done))))))))))) (.last 16 (.alt 5 (.loc 6 (.last 9 (.last 17 (.last 18 (.loc 19 (.loc 20 (.last 21 (.loc 22 .done)))))))) (.last 9 (.alt 5 (.loc 6 (.last 17 (.last 18 (.loc 19 (.loc 20 (.last 21 (.loc 22 .done))))))) (.last 17 (.last 5 (.loc 6 (.last 18 (.loc 19 (.loc 20 (.last 21 (.loc 22 .done)))))))))))))) (.last 16 (.alt 5 (.loc 6 (.alt 9 (.last 13 (.last 17 (.last 18 (.loc 19 (.loc 20 (.last 21 (.loc 22 .done))))))) (.last 13 (.last 9 (.last 17 (.last 18 (.loc 19 (.loc 20 (.last 21 (.loc 22 .done)))))))))) (.alt 9 (.alt 5 (.loc 6 (.last 13 (.last 17 (.last 18 (.loc 19 (.loc 20 (.last 21 (.loc 22 .done)))))))) (.last 13 (.alt 5 (.loc 6 (.last 17 (.last 18 (.loc 19 (.loc 20 (.last 21 (.loc 22 .done))))))) (.last 17 (.last 5 (.loc 6 (.last 18 (.loc 19 (.loc 20 (.last 21 (.loc 22 .done))))))))))) (.last 13 (.alt 5 (.loc 6 (.last 9 (.last 17 (.last 18 (.loc 19 (.loc 20 (.last 21 (.loc 22 .done)))))))) (.last 9 (.alt 5 (.loc 6 (.last 17 (.last 18 (.loc 19 (.loc 20 (.last 21 (.loc 22 .done))))))) (.last 17 (.last 5 (.loc 6 (.last 18 (.loc 19 (.loc 20 (.last 21 (.loc 22 .done)))))))))))))))))) (.alt 13 (.alt 5 (.loc 6 (.alt 8 (.alt 9 (.last 16 (.last 17 (.last 18 (.loc 19 (.loc 20 (.last 21 (.loc 22 .done))))))) (.last 16 (.last 9 (.last 17 (.last 18 (.loc 19 (.loc 20 (.last 21 (.loc 22 .done))))))))) (.last 16 (.last 8 (.last 9 (.last 17 (.last 18 (.loc 19 (.loc 20 (.last 21 (.loc 22 .done))))))))))) (.alt 8 (.alt 5 (.loc 6 (.alt 9 (.last 16 (.last 17 (.last 18 (.loc 19 (.loc 20 (.last 21 (.loc 22 .done))))))) (.last 16 (.last 9 (.last 17 (.last 18 (.loc 19 (.loc 20 (.last 21 (.loc 22 .done)))))))))) (.alt 9 (.alt 5 (.loc 6 (.last 16 (.last 17 (.last 18 (.loc 19 (.loc 20 (.last 21 (.loc 22 .done)))))))) (.last 16 (.alt 5 (.loc 6 (.last 17 (.last 18 (.loc 19 (.loc 20 (.last 21 (.loc 22 .done))))))) (.last 17 (.last 5 (.loc 6 (.last 18 (.loc 19 (.loc 20 (.last 21 (.loc 22 .done))))))))))) (.last 16 (.alt 5 (.loc 6 (.last 9 (.last 17 (.last 18 (.loc 19 (.loc 20 (.last 21 (.loc 22 .done)))))))) (.last 9 (.alt 5 (.loc 6 (.last 17 (.last 18 (.loc 19 (.loc 20 (.last 21 (.loc 22 .done))))))) (.last 17 (.last 5 (.loc 6 (.last 18 (.loc 19 (.loc 20 (.last 21 (.loc 22 .done)))))))))))))) (.last 16 (.alt 5 (.loc 6 (.last 8 (.last 9 (.last 17 (.last 18 (.loc 19 (.loc 20 (.last 21 (.loc 22 .done))))))))) (.last 8 (.alt 5 (.loc 6 (.last 9 (.last 17 (.last 18 (.loc 19 (.loc 20 (.last 21 (.loc 22 .done)))))))) (.last 9 (.alt 5 (.loc 6 (.last 17 (.last 18 (.loc 19 (.loc 20 (.last 21 (.loc 22 .done))))))) (.last 17 (.last 5 (.loc 6 (.last 18 (.loc 19 (.loc 20 (.last 21 (.loc 22 .done)))))))))))))))) (.last 16 (.alt 5 (.loc 6 (.alt 8 (.alt 9 (.last 13 (.last 17 (.last 18 (.loc 19 (.loc 20 (.last 21 (.loc 22 .done))))))) (.last 13 (.last 9 (.last 17 (.last 18 (.loc 19 (.loc 20 (.last 21 (.loc 22 .done))))))))) (.last 13 (.last 8 (.last 9 (.last 17 (.last 18 (.loc 19 (.loc 20 (.last 21 (.loc 22 .done))))))))))) (.alt 8 (.alt 5 (.loc 6 (.alt 9 (.last 13 (.last 17 (.last 18 (.loc 19 (.loc 20 (.last 21 (.loc 22 .done))))))) (.last 13 (.last 9 (.last 17 (.last 18 (.loc 19 (.loc 20 (.last 21 (.loc 22 .done)))))))))) (.alt 9 (.alt 5 (.loc 6 (.last 13 (.last 17 (.last 18 (.loc 19 (.loc 20 (.last 21 (.loc 22 .done)))))))) (.last 13 (.alt 5 (.loc 6 (.last 17 (.last 18 (.loc 19 (.loc 20 (.last 21 (.loc 22 .done))))))) (.last 17 (.last 5 (.loc 6 (.last 18 (.loc 19 (.loc 20 (.last 21 (.loc 22 .done))))))))))) (.last 13 (.alt 5 (.loc 6 (.last 9 (.last 17 (.last 18 (.loc 19 (.loc 20 (.last 21 (.loc 22 .done)))))))) (.last 9 (.alt 5 (.loc 6 (.last 17 (.last 18 (.loc 19 (.loc 20 (.last 21 (.loc 22 .done))))))) (.last 17 (.last 5 (.loc 6 (.last 18 (.loc 19 (.loc 20 (.last 21 (.loc 22 .done)))))))))))))) (.last 13 (.alt 5 (.loc 6 (.last 8 (.last 9 (.last 17 (.last 18 (.loc 19 (.loc 20 (.last 21 (.loc 22 .done))))))))) (.last 8 (.alt 5 (.loc 6 (.last 9 (.last 17 (.last 18 (.loc 19 (.loc 20 (.last 21 (.loc 22 .done)))))))) (.last 9 (.alt 5 (.loc 6 (.last 17 (.last 18 (.loc 19 (.loc 20 (.last 21 (.loc 22 .done))))))) (.last 17 (.last 5 (.loc 6 (.last 18 (.loc 19 (.loc 20 (.last 21 (.loc 22 .done)))))))))))))))))))) (.loc 5 (.loc 6 (.alt 8 (.alt 9 (.alt 13 (.last 16 (.last 17 (.last 18 (.loc 19 (.loc 20 (.last 21 (.loc 22 .done))))))) (.last 16 (.last 13 (.last 17 (.last 18 (.loc 19 (.loc 20 (.last 21 (.loc 22 .done))))))))) (.alt 13 (.alt 9 (.last 16 (.last 17 (.last 18 (.loc 19 (.loc 20 (.last 21 (.loc 22 .done))))))) (.last 16 (.last 9 (.last 17 (.last 18 (.loc 19 (.loc 20 (.last 21 (.loc 22 .done))))))))) (.last 16 (.alt 9 (.last 13 (.last 17 (.last 18 (.loc 19 (.loc 20 (.last 21 (.loc 22 .done))))))) (.last 13 (.last 9 (.last 17 (.last 18 (.loc 19 (.loc 20 (.last 21 (.loc 22 .done)))))))))))) (.alt 13 (.alt 8 (.alt 9 (.last 16 (.last 17 (.last 18 (.loc 19 (.loc 20 (.last 21 (.loc 22 .done))))))) (.last 16 (.last 9 (.last 17 (.last 18 (.loc 19 (.loc 20 (.last 21 (.loc 22 .done))))))))) (.last 16 (.last 8 (.last 9 (.last 17 (.last 18 (.loc 19 (.loc 20 (.last 21 (.loc 22 .done)))))))))) (.last 16 (.alt 8 (.alt 9 (.last 13 (.last 17 (.last 18 (.loc 19 (.loc 20 (.last 21 (.loc 22 .done))))))) (.last 13 (.last 9 (.last 17 (.last 18 (.loc 19 (.loc 20 (.last 21 (.loc 22 .done))))))))) (.last 13 (.last 8 (.last 9 (.last 17 (.last 18 (.loc 19 (.loc 20 (.last 21 (.loc 22 .done))))))))))))))))) (.alt 8 (.alt 2 (.loc 3 (.locA 4 (.alt 5 (.loc 6 (.alt 9 (.alt 13 (.last 16 (.last 17 (.last 18 (.loc 19 (.loc 20 (.last 21 (.loc 22 .done))))))) (.last 16 (.last 13 (.last 17 (.last 18 (.loc 19 (.loc 20 (.last 21 (.loc 22 .done))))))))) (.alt 13 (.alt 9 (.last 16 (.last 17 (.last 18 (.loc 19 (.loc 20 (.last 21 (.loc 22 .done))))))) (.last 16 (.last 9 (.last 17 (.last 18 (.loc 19 (.loc 20 (.last 21 (.loc 22 .done))))))))) (.last 16 (.alt 9 (.last 13 (.last 17 (.last 18 (.loc 19 (.loc 20 (.last 21 (.loc 22 .done))))))) (.last 13 (.last 9 (.last 17 (.last 18 (.loc 19 (.loc 20 (.last 21 (.loc 22 .done))))))))))))) (.alt 9 (.alt 5 (.loc 6 (.alt 13 (.last 16 (.last 17 (.last 18 (.loc 19 (.loc 20 (.last 21 (.loc 22 .done))))))) (.last 16 (.last 13 (.last 17 (.last 18 (.loc 19 (.loc 20 (.last 21 (.loc 22 .done)))))))))) (.alt 13 (.alt 5 (.loc 6 (.last 16 (.last 17 (.last 18 (.loc 19 (.loc 20 (.last 21 (.loc 22 .done)))))))) (.last 16 (.alt 5 (.loc 6 (.last 17 (.last 18 (.loc 19 (.loc 20 (.last 21 (.loc 22 .done))))))) (.last 17 (.last 5 (.loc 6 (.last 18 (.loc 19 (.loc 20 (.last 21 (.loc 22 .done))))))))))) (.last 16 (.alt 5 (.loc 6 (.last 13 (.last 17 (.last 18 (.loc 19 (.loc 20 (.last 21 (.loc 22 .done)))))))) (.last 13 (.alt 5 (.loc 6 (.last 17 (.last 18 (.loc 19 (.loc 20 (.last 21 (.loc 22 .done))))))) (.last 17 (.last 5 (.loc 6 (.last 18 (.loc 19 (.loc 20 (.last 21 (.loc 22 .done)))))))))))))) (.alt 13 (.alt 5 (.loc 6 (.alt 9 (.last 16 (.last 17 (.last 18 (.loc 19 (.loc 20 (.last 21 (.loc 22 .done))))))) (.last 16 (.last 9 (.last 17 (.last 18 (.loc 19 (.loc 20 (.last 21 (.loc 22 .done)))))))))) (.alt 9 (.alt 5 (.loc 6 (.last 16 (.last 17 (.last 18 (.loc 19 (.loc 20 (.last 21 (.loc 22 .done)))))))) (.last 16 (.alt 5 (.loc 6 (.last 17 (.last 18 (.loc 19 (.loc 20 (.last 21 (.loc 22 .done))))))) (.last 17 (.last 5 (.loc 6 (.last 18 (.loc 19 (.loc 20 (.last 21 (.loc 22 .done))))))))))) (.last 16 (.alt 5 (.loc 6 (.last 9 (.last 17 (.last 18 (.loc 19 (.loc 20 (.last 21 (.loc 22 .done)))))))) (.last 9 (.alt 5 (.loc 6 (.last 17 (.last 18 (.loc 19 (.loc 20 (.last 21 (.loc 22 .done))))))) (.last 17 (.last 5 (.loc 6 (.last 18 (.loc 19 (.loc 20 (.last 21 (.loc 22 .done)))))))))))))) (.last 16 (.alt 5 (.loc 6 (.alt 9 (.last 13 (.last 17 (.last 18 (.loc 19 (.loc 20 (.last 21 (.loc 22 .done))))))) (.last 13 (.last 9 (.last 17 (.last 18 (.loc 19 (.loc 20 (.last 21 (.loc 22 .done)))))))))) (.alt 9 (.alt 5 (.loc 6 (.last 13 (.last 17 (.last 18 (.loc 19 (.loc 20 (.last 21 (.loc 22 .done)))))))) (.last 13 (.alt 5 (.loc 6 (.last 17 (.last 18 (.loc 19 (.loc 20 (.last 21 (.loc 22 .done))))))) (.last 17 (.last 5 (.loc 6 (.last 18 (.loc 19 (.loc 20 (.last 21 (.loc 22 .done))))))))))) (.last 13 (.alt 5 (.loc 6 (.last 9 (.last 17 (.last 18 (.loc 19 (.loc 20 (.last 21 (.loc 22 .done)))))))) (.last 9 (.alt 5 (.loc 6 (.last 17 (.last 18 (.loc 19 (.loc 20 (.last 21 (.loc 22 .done))))))) (.last 17 (.last 5 (.loc 6 (.last 18 (.loc 19 (.loc 20 (.last 21 (.loc 22 .done)))))))))))))))))) (.loc 5 (.loc 6 (.alt 9 (.alt 13 (.last 16 (.last 17 (.last 18 (.loc 19 (.loc 20 (.last 21 (.loc 22 .done))))))) (.last 16 (.last 13 (.last 17 (.last 18 (.loc 19 (.loc 20 (.last 21 (.loc 22 .done))))))))) (.alt 13 (.alt 9 (.last 16 (.last 17 (.last 18 (.loc 19 (.loc 20 (.last 21 (.loc 22 .done))))))) (.last 16 (.last 9 (.last 17 (.last 18 (.loc 19 (.loc 20 (.last 21 (.loc 22 .done))))))))) (.last 16 (.alt 9 (.last 13 (.last 17 (.last 18 (.loc 19 (.loc 20 (.last 21 (.loc 22 .done))))))) (.last 13 (.last 9 (.last 17 (.last 18 (.loc 19 (.loc 20 (.last 21 (.loc 22 .done)))))))))))))))) (.alt 9 (.alt 2 (.loc 3 (.locA 4 (.alt 5 (.loc 6 (.alt 13 (.last 16 (.last 17 (.last 18 (.loc 19 (.loc 20 (.last 21 (.loc 22 .done))))))) (.last 16 (.last 13 (.last 17 (.last 18 (.loc 19 (.loc 20 (.last 21 (.loc 22 .done)))))))))) (.alt 13 (.alt 5 (.loc 6 (.last 16 (.last 17 (.last 18 (.loc 19 (.loc 20 (.last 21 (.loc 22 .done)))))))) (.last 16 (.alt 5 (.loc 6 (.last 17 (.last 18 (.loc 19 (.loc 20 (.last 21 (.loc 22 .done))))))) (.last 17 (.last 5 (.loc 6 (.last 18 (.loc 19 (.loc 20 (.last 21 (.loc 22 .done))))))))))) (.last 16 (.alt 5 (.loc 6 (.last 13 (.last 17 (.last 18 (.loc 19 (.loc 20 (.last 21 (.loc 22 .done)))))))) (.last 13 (.alt 5 (.loc 6 (.last 17 (.last 18 (.loc 19 (.loc 20 (.last 21 (.loc 22 .done))))))) (.last 17 (.last 5 (.loc 6 (.last 18 (.loc 19 (.loc 20 (.last 21 (.loc 22 .done)))))))))))))) (.loc 5 (.loc 6 (.alt 13 (.last 16 (.last 17 (.last 18 (.loc 19 (.loc 20 (.last 21 (.loc 22 .done))))))) (.last 16 (.last 13 (.last 17 (.last 18 (.loc 19 (.loc 20 (.last 21 (.loc 22 .done))))))))))))) (.alt 13 (.alt 2 (.loc 3 (.locA 4 (.alt 5 (.loc 6 (.last 16 (.last 17 (.last 18 (.loc 19 (.loc 20 (.last 21 (.loc 22 .done)))))))) (.last 16 (.alt 5 (.loc 6 (.last 17 (.last 18 (.loc 19 (.loc 20 (.last 21 (.loc 22 .done))))))) (.last 17 (.last 5 (.loc 6 (.last 18 (.loc 19 (.loc 20 (.last 21 (.loc 22 .done))))))))))) (.loc 5 (.loc 6 (.last 16 (.last 17 (.last 18 (.loc 19 (.loc 20 (.last 21 (.loc 22 .done))))))))))) (.last 16 (.alt 2 (.loc 3 (.locA 4 (.alt 5 (.loc 6 (.last 17 (.last 18 (.loc 19 (.loc 20 (.last 21 (.loc 22 .done))))))) (.last 17 (.last 5 (.loc 6 (.last 18 (.loc 19 (.loc 20 (.last 21 (.loc 22 .done))))))))) (.loc 5 (.loc 6 (.last 17 (.last 18 (.loc 19 (.loc 20 (.last 21 (.loc 22 .done)))))))))) (.last 17 (.last 2 (.loc 3 (.locA 4 (.last 5 (.loc 6 (.last 18 (.loc 19 (.loc 20 (.last 21 (.loc 22 .done))))))) (.loc 5 (.loc 6 (.last 18 (.loc 19 (.loc 20 (.last 21 (.loc 22 .done)))))))))))))) (.last 16 (.alt 2 (.loc 3 (.locA 4 (.alt 5 (.loc 6 (.last 13 (.last 17 (.last 18 (.loc 19 (.loc 20 (.last 21 (.loc 22 .done)))))))) (.last 13 (.alt 5 (.loc 6 (.last 17 (.last 18 (.loc 19 (.loc 20 (.last 21 (.loc 22 .done))))))) (.last 17 (.last 5 (.loc 6 (.last 18 (.loc 19 (.loc 20 (.last 21 (.loc 22 .done))))))))))) (.loc 5 (.loc 6 (.last 13 (.last 17 (.last 18 (.loc 19 (.loc 20 (.last 21 (.loc 22 .done))))))))))) (.last 13 (.alt 2 (.loc 3 (.locA 4 (.alt 5 (.loc 6 (.last 17 (.last 18 (.loc 19 (.loc 20 (.last 21 (.loc 22 .done))))))) (.last 17 (.last 5 (.loc 6 (.last 18 (.loc 19 (.loc 20 (.last 21 (.loc 22 .done))))))))) (.loc 5 (.loc 6 (.last 17 (.last 18 (.loc 19 (.loc 20 (.last 21 (.loc 22 .done)))))))))) (.last 17 (.last 2 (.loc 3 (.locA 4 (.last 5 (.loc 6 (.last 18 (.loc 19 (.loc 20 (.last 21 (.loc 22 .done))))))) (.loc 5 (.loc 6 (.last 18 (.loc 19 (.loc 20 (.last 21 (.loc 22 .done))))))))))))))))) (.alt 13 (.alt 2 (.loc 3 (.locA 4 (.alt 5 (.loc 6 (.alt 9 (.last 16 (.last 17 (.last 18 (.loc 19 (.loc 20 (.last 21 (.loc 22 .done))))))) (.last 16 (.last 9 (.last 17 (.last 18 (.loc 19 (.loc 20 (.last 21 (.loc 22 .done)))))))))) (.alt 9 (.alt 5 (.loc 6 (.last 16 (.last 17 (.last 18 (.loc 19 (.loc 20 (.last 21 (.loc 22 .done)))))))) (.last 16 (.alt 5 (.loc 6 (.last 17 (.last 18 (.loc 19 (.loc 20 (.last 21 (.loc 22 .done))))))) (.last 17 (.last 5 (.loc 6 (.last 18 (.loc 19 (.loc 20 (.last 21 (.loc 22 .done))))))))))) (.last 16 (.alt 5 (.loc 6 (.last 9 (.last 17 (.last 18 (.loc 19 (.loc 20 (.last 21 (.loc 22 .done)))))))) (.last 9 (.alt 5 (.loc 6 (.last 17 (.last 18 (.loc 19 (.loc 20 (.last 21 (.loc 22 .done))))))) (.last 17 (.last 5 (.loc 6 (.last 18 (.loc 19 (.loc 20 (.last 21 (.loc 22 .done)))))))))))))) (.loc 5 (.loc 6 (.alt 9 (.last 16 (.last 17 (.last 18 (.loc 19 (.loc 20 (.last 21 (.loc 22 .done))))))) (.last 16 (.last 9 (.last 17 (.last 18 (.loc 19 (.loc 20 (.last 21 (.loc 22 .done))))))))))))) (.alt 9 (.alt 2 (.loc 3 (.locA 4 (.alt 5 (.loc 6 (.last 16 (.last 17 (.last 18 (.loc 19 (.loc 20 (.last 21 (.loc 22 .done)))))))) (.last 16 (.alt 5 (.loc 6 (.last 17 (.last 18 (.loc 19 (.loc 20 (.last 21 (.loc 22 .done))))))) (.last 17 (.last 5 (.loc 6 (.last 18 (.loc 19 (.loc 20 (.last 21 (.loc 22 .done))))))))))) (.loc 5 (.loc 6 (.last 16 (.last 17 (.last 18 (.loc 19 (.loc 20 (.last 21 (.loc 22 .done))))))))))) (.last 16 (.alt 2 (.loc 3 (.locA 4 (.alt 5 (.loc 6 (.last 17 (.last 18 (.loc 19 (.loc 20 (.last 21 (.loc 22 .done))))))) (.last 17 (.last 5 (.loc 6 (.last 18 (.loc 19 (.loc 20 (.last 21 (.loc 22 .done))))))))) (.loc 5 (.loc 6 (.last 17 (.last 18 (.loc 19 (.loc 20 (.last 21 (.loc 22 .done)))))))))) (.last 17 (.last 2 (.loc 3 (.locA 4 (.last 5 (.loc 6 (.last 18 (.loc 19 (.loc 20 (.last 21 (.loc 22 .done))))))) (.loc 5 (.loc 6 (.last 18 (.loc 19 (.loc 20 (.last 21 (.loc 22 .done)))))))))))))) (.last 16 (.alt 2 (.loc 3 (.locA 4 (.alt 5 (.loc 6 (.last 9 (.last 17 (.last 18 (.loc 19 (.loc 20 (.last 21 (.loc 22 .done)))))))) (.last 9 (.alt 5 (.loc 6 (.last 17 (.last 18 (.loc 19 (.loc 20 (.last 21 (.loc 22 .done))))))) (.last 17 (.last 5 (.loc 6 (.last 18 (.loc 19 (.loc 20 (.last 21 (.loc 22 .done))))))))))) (.loc 5 (.loc 6 (.last 9 (.last 17 (.last 18 (.loc 19 (.loc 20 (.last 21 (.loc 22 .done))))))))))) (.last 9 (.alt 2 (.loc 3 (.locA 4 (.alt 5 (.loc 6 (.last 17 (.last 18 (.loc 19 (.loc 20 (.last 21 (.loc 22 .done))))))) (.last 17 (.last 5 (.loc 6 (.last 18 (.loc 19 (.loc 20 (.last 21 (.loc 22 .done))))))))) (.loc 5 (.loc 6 (.last 17 (.last 18 (.loc 19 (.loc 20 (.last 21 (.loc 22 .done)))))))))) (.last 17 (.last 2 (.loc 3 (.locA 4 (.last 5 (.loc 6 (.last 18 (.loc 19 (.loc 20 (.last 21 (.loc 22 .done))))))) (.loc 5 (.loc 6 (.last 18 (.loc 19 (.loc 20 (.last 21 (.loc 22 .done))))))))))))))))) (.last 16 (.alt 2 (.loc 3 (.locA 4 (.alt 5 (.loc 6 (.alt 9 (.last 13 (.last 17 (.last 18 (.loc 19 (.loc 20 (.last 21 (.loc 22 .done))))))) (.last 13 (.last 9 (.last 17 (.last 18 (.loc 19 (.loc 20 (.last 21 (.loc 22 .done)))))))))) (.alt 9 (.alt 5 (.loc 6 (.last 13 (.last 17 (.last 18 (.loc 19 (.loc 20 (.last 21 (.loc 22 .done)))))))) (.last 13 (.alt 5 (.loc 6 (.last 17 (.last 18 (.loc 19 (.loc 20 (.last 21 (.loc 22 .done))))))) (.last 17 (.last 5 (.loc 6 (.last 18 (.loc 19 (.loc 20 (.last 21 (.loc 22 .done))))))))))) (.last 13 (.alt 5 (.loc 6 (.last 9 (.last 17 (.last 18 (.loc 19 (.loc 20 (.last 21 (.loc 22 .done)))))))) (.last 9 (.alt 5 (.loc 6 (.last 17 (.last 18 (.loc 19 (.loc 20 (.last 21 (.loc 22 .done))))))) (.last 17 (.last 5 (.loc 6 (.last 18 (.loc 19 (.loc 20 (.last 21 (.loc 22 .done)))))))))))))) (.loc 5 (.loc 6 (.alt 9 (.last 13 (.last 17 (.last 18 (.loc 19 (.loc 20 (.last 21 (.loc 22 .done))))))) (.last 13 (.last 9 (.last 17 (.last 18 (.loc 19 (.loc 20 (.last 21 (.loc 22 .done))))))))))))) (.alt 9 (.alt 2 (.loc 3 (.locA 4 (.alt 5 (.loc 6 (.last 13 (.last 17 (.last 18 (.loc 19 (.loc 20 (.last 21 (.loc 22 .done)))))))) (.last 13 (.alt 5 (.loc 6 (.last 17 (.last 18 (.loc 19 (.loc 20 (.last 21 (.loc 22 .done))))))) (.last 17 (.last 5 (.loc 6 (.last 18 (.loc 19 (.loc 20 (.last 21 (.loc 22 .done))))))))))) (.loc 5 (.loc 6 (.last 13 (.last 17 (.last 18 (.loc 19 (.loc 20 (.last 21 (.loc 22 .done))))))))))) (.last 13 (.alt 2 (.loc 3 (.locA 4 (.alt 5 (.loc 6 (.last 17 (.last 18 (.loc 19 (.loc 20 (.last 21 (.loc 22 .done))))))) (.last 17 (.last 5 (.loc 6 (.last 18 (.loc 19 (.loc 20 (.last 21 (.loc 22 .done))))))))) (.loc 5 (.loc 6 (.last 17 (.last 18 (.loc 19 (.loc 20 (.last 21 (.loc 22 .done)))))))))) (.last 17 (.last 2 (.loc 3 (.locA 4 (.last 5 (.loc 6 (.last 18 (.loc 19 (.loc 20 (.last 21 (.loc 22 .done))))))) (.loc 5 (.loc 6 (.last 18 (.loc 19 (.loc 20 (.last 21 (.loc 22 .done)))))))))))))) (.last 13 (.alt 2 (.loc 3 (.locA 4 (.alt 5 (.loc 6 (.last 9 (.last 17 (.last 18 (.loc 19 (.loc 20 (.last 21 (.loc 22 .done)))))))) (.last 9 (.alt 5 (.loc 6 (.last 17 (.last 18 (.loc 19 (.loc 20 (.last 21 (.loc 22 .done))))))) (.last 17 (.last 5 (.loc 6 (.last 18 (.loc 19 (.loc 20 (.last 21 (.loc 22 .done))))))))))) (.loc 5 (.loc 6 (.last 9 (.last 17 (.last 18 (.loc 19 (.loc 20 (.last 21 (.loc 22 .done))))))))))) (.last 9 (.alt 2 (.loc 3 (.locA 4 (.alt 5 (.loc 6 (.last 17 (.last 18 (.loc 19 (.loc 20 (.last 21 (.loc 22 .done))))))) (.last 17 (.last 5 (.loc 6 (.last 18 (.loc 19 (.loc 20 (.last 21 (.loc 22 .done))))))))) (.loc 5 (.loc 6 (.last 17 (.last 18 (.loc 19 (.loc 20 (.last 21 (.loc 22 .done)))))))))) (.last 17 (.last 2 (.loc 3 (.locA 4 (.last 5 (.loc 6 (.last 18 (.loc 19 (.loc 20 (.last 21 (.loc 22 .done))))))) (.loc 5 (.loc 6 (.last 18 (.loc 19 (.loc 20 (.last 21 (.loc 22 .done))))))))))))))))))))) (.alt 13 (.alt 2 (.loc 3 (.locA 4 (.alt 5 (.loc 6 (.alt 8 (.alt 9 (.last 16 (.last 17 (.last 18 (.loc 19 (.loc 20 (.last 21 (.loc 22 .done))))))) (.last 16 (.last 9 (.last 17 (.last 18 (.loc 19 (.loc 20 (.last 21 (.loc 22 .done))))))))) (.last 16 (.last 8 (.last 9 (.last 17 (.last 18 (.loc 19 (.loc 20 (.last 21 (.loc 22 .done))))))))))) (.alt 8 (.alt 5 (.loc 6 (.alt 9 (.last 16 (.last 17 (.last 18 (.loc 19 (.loc 20 (.last 21 (.loc 22 .done))))))) (.last 16 (.last 9 (.last 17 (.last 18 (.loc 19 (.loc 20 (.last 21 (.loc 22 .done)))))))))) (.alt 9 (.alt 5 (.loc 6 (.last 16 (.last 17 (.last 18 (.loc 19 (.loc 20 (.last 21 (.loc 22 .done)))))))) (.last 16 (.alt 5 (.loc 6 (.last 17 (.last 18 (.loc 19 (.loc 20 (.last 21 (.loc 22 .done))))))) (.last 17 (.last 5 (.loc 6 (.last 18 (.loc 19 (.loc 20 (.last 21 (.loc 22 .done))))))))))) (.last 16 (.alt 5 (.loc 6 (.last 9 (.last 17 (.last 18 (.loc 19 (.loc 20 (.last 21 (.loc 22 .done)))))))) (.last 9 (.alt 5 (.loc 6 (.last 17 (.last 18 (.loc 19 (.loc 20 (.last 21 (.loc 22 .done))))))) (.last 17 (.last 5 (.loc 6 (.last 18 (.loc 19 (.loc 20 (.last 21 (.loc 22 .done)))))))))))))) (.last 16 (.alt 5 (.loc 6 (.last 8 (.last 9 (.last 17 (.last 18 (.loc 19 (.loc 20 (.last 21 (.loc 22 .done))))))))) (.last 8 (.alt 5 (.loc 6 (.last 9 (.last 17 (.last 18 (.loc 19 (.loc 20 (.last 21 (.loc 22 .done)))))))) (.last 9 (.alt 5 (.loc 6 (.last 17 (.last 18 (.loc 19 (.loc 20 (.last 21 (.loc 22 .done))))))) (.last 17 (.last 5 (.loc 6 (.last 18 (.loc 19 (.loc 20 (.last 21 (.loc 22 .done)))))))))))))))) (.loc 5 (.loc 6 (.alt 8 (.alt 9 (.last 16 (.last 17 (.last 18 (.loc 19 (.loc 20 (.last 21 (.loc 22 .done))))))) (.last 16 (.last 9 (.last 17 (.last 18 (.loc 19 (.loc 20 (.last 21 (.loc 22 .done))))))))) (.last 16 (.last 8 (.last 9 (.last 17 (.last 18 (.loc 19 (.loc 20 (.last 21 (.loc 22 .done)))))))))))))) (.alt 8 (.alt 2 (.loc 3 (.locA 4 (.alt 5 (.loc 6 (.alt 9 (.last 16 (.last 17 (.last 18 (.loc 19 (.loc 20 (.last 21 (.loc 22 .done))))))) (.last 16 (.last 9 (.last 17 (.last 18 (.loc 19 (.loc 20 (.last 21 (.loc 22 .done)))))))))) (.alt 9 (.alt 5 (.loc 6 (.last 16 (.last 17 (.last 18 (.loc 19 (.loc 20 (.last 21 (.loc 22 .done)))))))) (.last 16 (.alt 5 (.loc 6 (.last 17 (.last 18 (.loc 19 (.loc 20 (.last 21 (.loc 22 .done))))))) (.last 17 (.last 5 (.loc 6 (.last 18 (.loc 19 (.loc 20 (.last 21 (.loc 22 .done))))))))))) (.last 16 (.alt 5 (.loc 6 (.last 9 (.last 17 (.last 18 (.loc 19 (.loc 20 (.last 21 (.loc 22 .done)))))))) (.last 9 (.alt 5 (.loc 6 (.last 17 (.last 18 (.loc 19 (.loc 20 (.last 21 (.loc 22 .done))))))) (.last 17 (.last 5 (.loc 6 (.last 18 (.loc 19 (.loc 20 (.last 21 (.loc 22 .done)))))))))))))) (.loc 5 (.loc 6 (.alt 9 (.last 16 (.last 17 (.last 18 (.loc 19 (.loc 20 (.last 21 (.loc 22 .done))))))) (.last 16 (.last 9 (.last 17 (.last 18 (.loc 19 (.loc 20 (.last 21 (.loc 22 .done))))))))))))) (.alt 9 (.alt 2 (.loc 3 (.locA 4 (.alt 5 (.loc 6 (.last 16 (.last 17 (.last 18 (.loc 19 (.loc 20 (.last 21 (.loc 22 .done)))))))) (.last 16 (.alt 5 (.loc 6 (.last 17 (.last 18 (.loc 19 (.loc 20 (.last 21 (.loc 22 .done))))))) (.last 17 (.last 5 (.loc 6 (.last 18 (.loc 19 (.loc 20 (.last 21 (.loc 22 .done))))))))))) (.loc 5 (.loc 6 (.last 16 (.last 17 (.last 18 (.loc 19 (.loc 20 (.last 21 (.loc 22 .done))))))))))) (.last 16 (.alt 2 (.loc 3 (.locA 4 (.alt 5 (.loc 6 (.last 17 (.last 18 (.loc 19 (.loc 20 (.last 21 (.loc 22 .done))))))) (.last 17 (.last 5 (.loc 6 (.last 18 (.loc 19 (.loc 20 (.last 21 (.loc 22 .done))))))))) (.loc 5 (.loc 6 (.last 17 (.last 18 (.loc 19 (.loc 20 (.last 21 (.loc 22 .done)))))))))) (.last 17 (.last 2 (.loc 3 (.locA 4 (.last 5 (.loc 6 (.last 18 (.loc 19 (.loc 20 (.last 21 (.loc 22 .done))))))) (.loc 5 (.loc 6 (.last 18 (.loc 19 (.loc 20 (.last 21 (.loc 22 .done)))))))))))))) (.last 16 (.alt 2 (.loc 3 (.locA 4 (.alt 5 (.loc 6 (.last 9 (.last 17 (.last 18 (.loc 19 (.loc 20 (.last 21 (.loc 22 .done)))))))) (.last 9 (.alt 5 (.loc 6 (.last 17 (.last 18 (.loc 19 (.loc 20 (.last 21 (.loc 22 .done))))))) (.last 17 (.last 5 (.loc 6 (.last 18 (.loc 19 (.loc 20 (.last 21 (.loc 22 .done))))))))))) (.loc 5 (.loc 6 (.last 9 (.last 17 (.last 18 (.loc 19 (.loc 20 (.last 21 (.loc 22 .done))))))))))) (.last 9 (.alt 2 (.loc 3 (.locA 4 (.alt 5 (.loc 6 (.last 17 (.last 18 (.loc 19 (.loc 20 (.last 21 (.loc 22 .done))))))) (.last 17 (.last 5 (.loc 6 (.last 18 (.loc 19 (.loc 20 (.last 21 (.loc 22 .done))))))))) (.loc 5 (.loc 6 (.last 17 (.last 18 (.loc 19 (.loc 20 (.last 21 (.loc 22 .done)))))))))) (.last 17 (.last 2 (.loc 3 (.locA 4 (.last 5 (.loc 6 (.last 18 (.loc 19 (.loc 20 (.last 21 (.loc 22 .done))))))) (.loc 5 (.loc 6 (.last 18 (.loc 19 (.loc 20 (.last 21 (.loc 22 .done))))))))))))))))) (.last 16 (.alt 2 (.loc 3 (.locA 4 (.alt 5 (.loc 6 (.last 8 (.last 9 (.last 17 (.last 18 (.loc 19 (.loc 20 (.last 21 (.loc 22 .done))))))))) (.last 8 (.alt 5 (.loc 6 (.last 9 (.last 17 (.last 18 (.loc 19 (.loc 20 (.last 21 (.loc 22 .done)))))))) (.last 9 (.alt 5 (.loc 6 (.last 17 (.last 18 (.loc 19 (.loc 20 (.last 21 (.loc 22 .done))))))) (.last 17 (.last 5 (.loc 6 (.last 18 (.loc 19 (.loc 20 (.last 21 (.loc 22 .done))))))))))))) (.loc 5 (.loc 6 (.last 8 (.last 9 (.last 17 (.last 18 (.loc 19 (.loc 20 (.last 21 (.loc 22 .done)))))))))))) (.last 8 (.alt 2 (.loc 3 (.locA 4 (.alt 5 (.loc 6 (.last 9 (.last 17 (.last 18 (.loc 19 (.loc 20 (.last 21 (.loc 22 .done)))))))) (.last 9 (.alt 5 (.loc 6 (.last 17 (.last 18 (.loc 19 (.loc 20 (.last 21 (.loc 22 .done))))))) (.last 17 (.last 5 (.loc 6 (.last 18 (.loc 19 (.loc 20 (.last 21 (.loc 22 .done))))))))))) (.loc 5 (.loc 6 (.last 9 (.last 17 (.last 18 (.loc 19 (.loc 20 (.last 21 (.loc 22 .done))))))))))) (.last 9 (.alt 2 (.loc 3 (.locA 4 (.alt 5 (.loc 6 (.last 17 (.last 18 (.loc 19 (.loc 20 (.last 21 (.loc 22 .done))))))) (.last 17 (.last 5 (.loc 6 (.last 18 (.loc 19 (.loc 20 (.last 21 (.loc 22 .done))))))))) (.loc 5 (.loc 6 (.last 17 (.last 18 (.loc 19 (.loc 20 (.last 21 (.loc 22 .done)))))))))) (.last 17 (.last 2 (.loc 3 (.locA 4 (.last 5 (.loc 6 (.last 18 (.loc 19 (.loc 20 (.last 21 (.loc 22 .done))))))) (.loc 5 (.loc 6 (.last 18 (.loc 19 (.loc 20 (.last 21 (.loc 22 .done))))))))))))))))))) (.last 16 (.alt 2 (.loc 3 (.locA 4 (.alt 5 (.loc 6 (.alt 8 (.alt 9 (.last 13 (.last 17 (.last 18 (.loc 19 (.loc 20 (.last 21 (.loc 22 .done))))))) (.last 13 (.last 9 (.last 17 (.last 18 (.loc 19 (.loc 20 (.last 21 (.loc 22 .done))))))))) (.last 13 (.last 8 (.last 9 (.last 17 (.last 18 (.loc 19 (.loc 20 (.last 21 (.loc 22 .done))))))))))) (.alt 8 (.alt 5 (.loc 6 (.alt 9 (.last 13 (.last 17 (.last 18 (.loc 19 (.loc 20 (.last 21 (.loc 22 .done))))))) (.last 13 (.last 9 (.last 17 (.last 18 (.loc 19 (.loc 20 (.last 21 (.loc 22 .done)))))))))) (.alt 9 (.alt 5 (.loc 6 (.last 13 (.last 17 (.last 18 (.loc 19 (.loc 20 (.last 21 (.loc 22 .done)))))))) (.last 13 (.alt 5 (.loc 6 (.last 17 (.last 18 (.loc 19 (.loc 20 (.last 21 (.loc 22 .done))))))) (.last 17 (.last 5 (.loc 6 (.last 18 (.loc 19 (.loc 20 (.last 21 (.loc 22 .done))))))))))) (.last 13 (.alt 5 (.loc 6 (.last 9 (.last 17 (.last 18 (.loc 19 (.loc 20 (.last 21 (.loc 22 .done)))))))) (.last 9 (.alt 5 (.loc 6 (.last 17 (.last 18 (.loc 19 (.loc 20 (.last 21 (.loc 22 .done))))))) (.last 17 (.last 5 (.loc 6 (.last 18 (.loc 19 (.loc 20 (.last 21 (.loc 22 .done)))))))))))))) (.last 13 (.alt 5 (.loc 6 (.last 8 (.last 9 (.last 17 (.last 18 (.loc 19 (.loc 20 (.last 21 (.loc 22 .done))))))))) (.last 8 (.alt 5 (.loc 6 (.last 9 (.last 17 (.last 18 (.loc 19 (.loc 20 (.last 21 (.loc 22 .done)))))))) (.last 9 (.alt 5 (.loc 6 (.last 17 (.last 18 (.loc 19 (.loc 20 (.last 21 (.loc 22 .done))))))) (.last 17 (.last 5 (.loc 6 (.last 18 (.loc 19 (.loc 20 (.last 21 (.loc 22 .done)))))))))))))))) (.loc 5 (.loc 6 (.alt 8 (.alt 9 (.last 13 (.last 17 (.last 18 (.loc 19 (.loc 20 (.last 21 (.loc 22 .done))))))) (.last 13 (.last 9 (.last 17 (.last 18 (.loc 19 (.loc 20 (.last 21 (.loc 22 .done))))))))) (.last 13 (.last 8 (.last 9 (.last 17 (.last 18 (.loc 19 (.loc 20 (.last 21 (.loc 22 .done)))))))))))))) (.alt 8 (.alt 2 (.loc 3 (.locA 4 (.alt 5 (.loc 6 (.alt 9 (.last 13 (.last 17 (.last 18 (.loc 19 (.loc 20 (.last 21 (.loc 22 .done))))))) (.last 13 (.last 9 (.last 17 (.last 18 (.loc 19 (.loc 20 (.last 21 (.loc 22 .done)))))))))) (.alt 9 (.alt 5 (.loc 6 (.last 13 (.last 17 (.last 18 (.loc 19 (.loc 20 (.last 21 (.loc 22 .done)))))))) (.last 13 (.alt 5 (.loc 6 (.last 17 (.last 18 (.loc 19 (.loc 20 (.last 21 (.loc 22 .done))))))) (.last 17 (.last 5 (.loc 6 (.last 18 (.loc 19 (.loc 20 (.last 21 (.loc 22 .done))))))))))) (.last 13 (.alt 5 (.loc 6 (.last 9 (.last 17 (.last 18 (.loc 19 (.loc 20 (.last 21 (.loc 22 .done)))))))) (.last 9 (.alt 5 (.loc 6 (.last 17 (.last 18 (.loc 19 (.loc 20 (.last 21 (.loc 22 .done))))))) (.last 17 (.last 5 (.loc 6 (.last 18 (.loc 19 (.loc 20 (.last 21 (.loc 22 .done)))))))))))))) (.loc 5 (.loc 6 (.alt 9 (.last 13 (.last 17 (.last 18 (.loc 19 (.loc 20 (.last 21 (.loc 22 .done))))))) (.last 13 (.last 9 (.last 17 (.last 18 (.loc 19 (.loc 20 (.last 21 (.loc 22 .done))))))))))))) (.alt 9 (.alt 2 (.loc 3 (.locA 4 (.alt 5 (.loc 6 (.last 13 (.last 17 (.last 18 (.loc 19 (.loc 20 (.last 21 (.loc 22 .done)))))))) (.last 13 (.alt 5 (.loc 6 (.last 17 (.last 18 (.loc 19 (.loc 20 (.last 21 (.loc 22 .done))))))) (.last 17 (.last 5 (.loc 6 (.last 18 (.loc 19 (.loc 20 (.last 21 (.loc 22 .done))))))))))) (.loc 5 (.loc 6 (.last 13 (.last 17 (.last 18 (.loc 19 (.loc 20 (.last 21 (.loc 22 .done))))))))))) (.last 13 (.alt 2 (.loc 3 (.locA 4 (.alt 5 (.loc 6 (.last 17 (.last 18 (.loc 19 (.loc 20 (.last 21 (.loc 22 .done))))))) (.last 17 (.last 5 (.loc 6 (.last 18 (.loc 19 (.loc 20 (.last 21 (.loc 22 .done))))))))) (.loc 5 (.loc 6 (.last 17 (.last 18 (.loc 19 (.loc 20 (.last 21 (.loc 22 .done)))))))))) (.last 17 (.last 2 (.loc 3 (.locA 4 (.last 5 (.loc 6 (.last 18 (.loc 19 (.loc 20 (.last 21 (.loc 22 .done))))))) (.loc 5 (.loc 6 (.last 18 (.loc 19 (.loc 20 (.last 21 (.loc 22 .done)))))))))))))) (.last 13 (.alt 2 (.loc 3 (.locA 4 (.alt 5 (.loc 6 (.last 9 (.last 17 (.last 18 (.loc 19 (.loc 20 (.last 21 (.loc 22 .done)))))))) (.last 9 (.alt 5 (.loc 6 (.last 17 (.last 18 (.loc 19 (.loc 20 (.last 21 (.loc 22 .done))))))) (.last 17 (.last 5 (.loc 6 (.last 18 (.loc 19 (.loc 20 (.last 21 (.loc 22 .done))))))))))) (.loc 5 (.loc 6 (.last 9 (.last 17 (.last 18 (.loc 19 (.loc 20 (.last 21 (.loc 22 .done))))))))))) (.last 9 (.alt 2 (.loc 3 (.locA 4 (.alt 5 (.loc 6 (.last 17 (.last 18 (.loc 19 (.loc 20 (.last 21 (.loc 22 .done))))))) (.last 17 (.last 5 (.loc 6 (.last 18 (.loc 19 (.loc 20 (.last 21 (.loc 22 .done))))))))) (.loc 5 (.loc 6 (.last 17 (.last 18 (.loc 19 (.loc 20 (.last 21 (.loc 22 .done)))))))))) (.last 17 (.last 2 (.loc 3 (.locA 4 (.last 5 (.loc 6 (.last 18 (.loc 19 (.loc 20 (.last 21 (.loc 22 .done))))))) (.loc 5 (.loc 6 (.last 18 (.loc 19 (.loc 20 (.last 21 (.loc 22 .done))))))))))))))))) (.last 13 (.alt 2 (.loc 3 (.locA 4 (.alt 5 (.loc 6 (.last 8 (.last 9 (.last 17 (.last 18 (.loc 19 (.loc 20 (.last 21 (.loc 22 .done))))))))) (.last 8 (.alt 5 (.loc 6 (.last 9 (.last 17 (.last 18 (.loc 19 (.loc 20 (.last 21 (.loc 22 .done)))))))) (.last 9 (.alt 5 (.loc 6 (.last 17 (.last 18 (.loc 19 (.loc 20 (.last 21 (.loc 22 .done))))))) (.last 17 (.last 5 (.loc 6 (.last 18 (.loc 19 (.loc 20 (.last 21 (.loc 22 .done))))))))))))) (.loc 5 (.loc 6 (.last 8 (.last 9 (.last 17 (.last 18 (.loc 19 (.loc 20 (.last 21 (.loc 22 .done)))))))))))) (.last 8 (.alt 2 (.loc 3 (.locA 4 (.alt 5 (.loc 6 (.last 9 (.last 17 (.last 18 (.loc 19 (.loc 20 (.last 21 (.loc 22 .done)))))))) (.last 9 (.alt 5 (.loc 6 (.last 17 (.last 18 (.loc 19 (.loc 20 (.last 21 (.loc 22 .done))))))) (.last 17 (.last 5 (.loc 6 (.last 18 (.loc 19 (.loc 20 (.last 21 (.loc 22 .done))))))))))) (.loc 5 (.loc 6 (.last 9 (.last 17 (.last 18 (.loc 19 (.loc 20 (.last 21 (.loc 22 .done))))))))))) (.last 9 (.alt 2 (.loc 3 (.locA 4 (.alt 5 (.loc 6 (.last 17 (.last 18 (.loc 19 (.loc 20 (.last 21 (.loc 22 .done))))))) (.last 17 (.last 5 (.loc 6 (.last 18 (.loc 19 (.loc 20 (.last 21 (.loc 22 .done))))))))) (.loc 5 (.loc 6 (.last 17 (.last 18 (.loc 19 (.loc 20 (.last 21 (.loc 22 .done)))))))))) (.last 17 (.last 2 (.loc 3 (.locA 4 (.last 5 (.loc 6 (.last 18 (.loc 19 (.loc 20 (.last 21 (.loc 22 .done))))))) (.loc 5 (.loc 6 (.last 18 (.loc 19 (.loc 20 (.last 21 (.loc 22 .done)))))))))))))))))))))))))))))))) .leaf))
theorem commit_Coin.eq (m0 : Option Addr) (game1 : Array Value) (player2 : Int) (side3 : Int) (nonce4 : Array Value) (R : Value → Heap → Prop) (h : Heap) : commit_Coin.body m0 game1 player2 side3 nonce4 R h = evFn Tryz.prog Tryz.f10 commit_Coin.ann [.pointer m0, .agg game1, .int .i64 player2, .int .i64 side3, .agg nonce4] R h := by kernel_rfl
theorem commit_Coin.calls {m0 : Option Addr} {game1 : Array Value} {player2 : Int} {side3 : Int} {nonce4 : Array Value} {R : Value → Heap → Prop} {h : Heap} (H : commit_Coin.body m0 game1 player2 side3 nonce4 R h) : HC Tryz.prog F.commit_Coin #[.pointer m0, .agg game1, .int .i64 player2, .int .i64 side3, .agg nonce4] R h :=
  evFn_sound mixed Tryz.func10 (by kernel_rfl) (commit_Coin.eq m0 game1 player2 side3 nonce4 R h ▸ H)

/-! zugzwang/zugzwangref22.Coin -/
abbrev ref22_Coin.tail (m : Option Addr) (a : Array Value) (z : Option Addr) (R : Value → Heap → Prop) (s : Sl) (h : Heap) : Prop :=
  callK Tryz.prog (Kd.pair .agg (.int .i64)) F.ref22_Cover #[.pointer m, .agg a, .slice s.a s.n s.c] (fun (v : Array Value × Int) h =>
  storeAggK (sizeOfT Tryz.prog T.api_Tag) h z v.1 (fun h =>
  quietK Tryz.prog .agg (Instr.loadAt T.api_Tag (.pointer z)) (fun r =>
  R (.tuple #[.agg r, .int .i64 v.2]) h) h)) h
abbrev q1b (n : Int) (h : Heap) (K : Sl → Heap → Prop) : Prop := newSlK h 1 #[.int .u8 (IntKind.u8.wrap n)] T.uint8 K
abbrev q1q (a b c d : Sl) (h : Heap) (K : Sl → Heap → Prop) : Prop := newSlK h 4 #[.slice a.a a.n a.c, .slice b.a b.n b.c, .slice c.a c.n c.c, .slice d.a d.n d.c] T.sl_uint8 K
abbrev q1v (s : Sl) (K : Sl → Heap → Prop) (h : Heap) : Prop := opK Tryz.prog .slice (convert T.sl_uint8 T.sl_uint8 (.slice s.a s.n s.c)) K h
def ref22_Coin.body (m0 : Option Addr) (game1 : Array Value) (player2 : Int) (bit3 : Int) (nonce4 : Array Value) (R : Value → Heap → Prop) (h : Heap) : Prop :=
  newK h game1 T.api_Tag (fun (game_1 : Option Addr) h =>
  newK h nonce4 T.api_Tag (fun (nonce_2 : Option Addr) h =>
  newK h (zerosOf Tryz.prog T.api_Tag) T.api_Tag (fun (v3 : Option Addr) h =>
  if (decide (player2 < 0)) = true then
  buildK Tryz.prog (Instr.build T.api_Tag #[]) (fun (v4 : Array Value) =>
  storeAggK (sizeOfT Tryz.prog T.api_Tag) h v3 v4 (fun h =>
  quietK Tryz.prog .agg (Instr.loadAt T.api_Tag (.pointer v3)) (fun r5 =>
  R (.tuple #[.agg r5, .int .i64 2]) h) h))
  else
  if (decide (player2 > 1)) = true then
  buildK Tryz.prog (Instr.build T.api_Tag #[]) (fun (v6 : Array Value) =>
  storeAggK (sizeOfT Tryz.prog T.api_Tag) h v3 v6 (fun h =>
  quietK Tryz.prog .agg (Instr.loadAt T.api_Tag (.pointer v3)) (fun r7 =>
  R (.tuple #[.agg r7, .int .i64 2]) h) h))
  else
  if (decide (bit3 < 0)) = true then
  buildK Tryz.prog (Instr.build T.api_Tag #[]) (fun (v8 : Array Value) =>
  storeAggK (sizeOfT Tryz.prog T.api_Tag) h v3 v8 (fun h =>
  quietK Tryz.prog .agg (Instr.loadAt T.api_Tag (.pointer v3)) (fun r9 =>
  R (.tuple #[.agg r9, .int .i64 2]) h) h))
  else
  if (decide (bit3 > 1)) = true then
  buildK Tryz.prog (Instr.build T.api_Tag #[]) (fun (v10 : Array Value) =>
  storeAggK (sizeOfT Tryz.prog T.api_Tag) h v3 v10 (fun h =>
  quietK Tryz.prog .agg (Instr.loadAt T.api_Tag (.pointer v3)) (fun r11 =>
  R (.tuple #[.agg r11, .int .i64 2]) h) h))
  else
  loadAggK (sizeOfT Tryz.prog T.api_Tag) h nonce_2 (fun (v12 : Array Value) =>
  loadAggK (sizeOfT Tryz.prog T.api_Tag) h game_1 (fun (v13 : Array Value) =>
  ((newSlK h 4 #[.int .u8 99, .int .u8 111, .int .u8 105, .int .u8 110] T.uint8 (fun v14 h =>
  ((q1v v14 (fun v15 h =>
  ((callK Tryz.prog .slice F.ref22_raw #[.agg v13] (fun (v16 : Sl) h =>
  stillAggK (sizeOfT Tryz.prog T.api_Tag) h nonce_2 v12 ∧
  ((q1b player2 h (fun v17 h =>
  q1b bit3 h (fun v18 h =>
  q1q v15 v16 v17 v18 h (fun v19 h =>
  ref22_Coin.tail m0 v12 v3 R v19 h)))) ∧
  (q1b bit3 h (fun v22 h =>
  q1b player2 h (fun v23 h =>
  q1q v15 v16 v23 v22 h (fun v24 h =>
  ref22_Coin.tail m0 v12 v3 R v24 h)))))) h) ∧
  (((q1b player2 h (fun v27 h =>
  ((callK Tryz.prog .slice F.ref22_raw #[.agg v13] (fun (v28 : Sl) h =>
  stillAggK (sizeOfT Tryz.prog T.api_Tag) h nonce_2 v12 ∧
  q1b bit3 h (fun v29 h =>
  q1q v15 v28 v27 v29 h (fun v30 h =>
  ref22_Coin.tail m0 v12 v3 R v30 h))) h) ∧
  (q1b bit3 h (fun v33 h =>
  callK Tryz.prog .slice F.ref22_raw #[.agg v13] (fun (v34 : Sl) h =>
  stillAggK (sizeOfT Tryz.prog T.api_Tag) h nonce_2 v12 ∧
  q1q v15 v34 v27 v33 h (fun v35 h =>
  ref22_Coin.tail m0 v12 v3 R v35 h)) h))))) ∧
  (q1b bit3 h (fun v38 h =>
  ((callK Tryz.prog .slice F.ref22_raw #[.agg v13] (fun (v39 : Sl) h =>
  stillAggK (sizeOfT Tryz.prog T.api_Tag) h nonce_2 v12 ∧
  q1b player2 h (fun v40 h =>
  q1q v15 v39 v40 v38 h (fun v41 h =>
  ref22_Coin.tail m0 v12 v3 R v41 h))) h) ∧
  (q1b player2 h (fun v44 h =>
  callK Tryz.prog .slice F.ref22_raw #[.agg v13] (fun (v45 : Sl) h =>
  stillAggK (sizeOfT Tryz.prog T.api_Tag) h nonce_2 v12 ∧
  q1q v15 v45 v44 v38 h (fun v46 h =>
  ref22_Coin.tail m0 v12 v3 R v46 h)) h))))))))) h) ∧
  (((callK Tryz.prog .slice F.ref22_raw #[.agg v13] (fun (v49 : Sl) h =>
  stillAggK (sizeOfT Tryz.prog T.api_Tag) h nonce_2 v12 ∧
  ((q1v v14 (fun v50 h =>
  ((q1b player2 h (fun v51 h =>
  q1b bit3 h (fun v52 h =>
  q1q v50 v49 v51 v52 h (fun v53 h =>
  ref22_Coin.tail m0 v12 v3 R v53 h)))) ∧
  (q1b bit3 h (fun v56 h =>
  q1b player2 h (fun v57 h =>
  q1q v50 v49 v57 v56 h (fun v58 h =>
  ref22_Coin.tail m0 v12 v3 R v58 h)))))) h) ∧
  (((q1b player2 h (fun v61 h =>
  ((q1v v14 (fun v62 h =>
  q1b bit3 h (fun v63 h =>
  q1q v62 v49 v61 v63 h (fun v64 h =>
  ref22_Coin.tail m0 v12 v3 R v64 h))) h) ∧
  (q1b bit3 h (fun v67 h =>
  q1v v14 (fun v68 h =>
  q1q v68 v49 v61 v67 h (fun v69 h =>
  ref22_Coin.tail m0 v12 v3 R v69 h)) h))))) ∧
  (q1b bit3 h (fun v72 h =>
  ((q1v v14 (fun v73 h =>
  q1b player2 h (fun v74 h =>
  q1q v73 v49 v74 v72 h (fun v75 h =>
  ref22_Coin.tail m0 v12 v3 R v75 h))) h) ∧
  (q1b player2 h (fun v78 h =>
  q1v v14 (fun v79 h =>
  q1q v79 v49 v78 v72 h (fun v80 h =>
  ref22_Coin.tail m0 v12 v3 R v80 h)) h))))))))) h) ∧
  (((q1b player2 h (fun v83 h =>
  ((q1v v14 (fun v84 h =>
  ((callK Tryz.prog .slice F.ref22_raw #[.agg v13] (fun (v85 : Sl) h =>
  stillAggK (sizeOfT Tryz.prog T.api_Tag) h nonce_2 v12 ∧
  q1b bit3 h (fun v86 h =>
  q1q v84 v85 v83 v86 h (fun v87 h =>
  ref22_Coin.tail m0 v12 v3 R v87 h))) h) ∧
  (q1b bit3 h (fun v90 h =>
  callK Tryz.prog .slice F.ref22_raw #[.agg v13] (fun (v91 : Sl) h =>
  stillAggK (sizeOfT Tryz.prog T.api_Tag) h nonce_2 v12 ∧
  q1q v84 v91 v83 v90 h (fun v92 h =>
  ref22_Coin.tail m0 v12 v3 R v92 h)) h)))) h) ∧
  (((callK Tryz.prog .slice F.ref22_raw #[.agg v13] (fun (v95 : Sl) h =>
  stillAggK (sizeOfT Tryz.prog T.api_Tag) h nonce_2 v12 ∧
  ((q1v v14 (fun v96 h =>
  q1b bit3 h (fun v97 h =>
  q1q v96 v95 v83 v97 h (fun v98 h =>
  ref22_Coin.tail m0 v12 v3 R v98 h))) h) ∧
  (q1b bit3 h (fun v101 h =>
  q1v v14 (fun v102 h =>
  q1q v102 v95 v83 v101 h (fun v103 h =>
  ref22_Coin.tail m0 v12 v3 R v103 h)) h)))) h) ∧
  (q1b bit3 h (fun v106 h =>
  ((q1v v14 (fun v107 h =>
  callK Tryz.prog .slice F.ref22_raw #[.agg v13] (fun (v108 : Sl) h =>
  stillAggK (sizeOfT Tryz.prog T.api_Tag) h nonce_2 v12 ∧
  q1q v107 v108 v83 v106 h (fun v109 h =>
  ref22_Coin.tail m0 v12 v3 R v109 h)) h) h) ∧
  (callK Tryz.prog .slice F.ref22_raw #[.agg v13] (fun (v112 : Sl) h =>
  stillAggK (sizeOfT Tryz.prog T.api_Tag) h nonce_2 v12 ∧
  q1v v14 (fun v113 h =>
  q1q v113 v112 v83 v106 h (fun v114 h =>
  ref22_Coin.tail m0 v12 v3 R v114 h)) h) h))))))))) ∧
  (q1b bit3 h (fun v117 h =>
  ((q1v v14 (fun v118 h =>
  ((callK Tryz.prog .slice F.ref22_raw #[.agg v13] (fun (v119 : Sl) h =>
  stillAggK (sizeOfT Tryz.prog T.api_Tag) h nonce_2 v12 ∧
  q1b player2 h (fun v120 h =>
  q1q v118 v119 v120 v117 h (fun v121 h =>
  ref22_Coin.tail m0 v12 v3 R v121 h))) h) ∧
  (q1b player2 h (fun v124 h =>
  callK Tryz.prog .slice F.ref22_raw #[.agg v13] (fun (v125 : Sl) h =>
  stillAggK (sizeOfT Tryz.prog T.api_Tag) h nonce_2 v12 ∧
  q1q v118 v125 v124 v117 h (fun v126 h =>
  ref22_Coin.tail m0 v12 v3 R v126 h)) h)))) h) ∧
  (((callK Tryz.prog .slice F.ref22_raw #[.agg v13] (fun (v129 : Sl) h =>
  stillAggK (sizeOfT Tryz.prog T.api_Tag) h nonce_2 v12 ∧
  ((q1v v14 (fun v130 h =>
  q1b player2 h (fun v131 h =>
  q1q v130 v129 v131 v117 h (fun v132 h =>
  ref22_Coin.tail m0 v12 v3 R v132 h))) h) ∧
  (q1b player2 h (fun v135 h =>
  q1v v14 (fun v136 h =>
  q1q v136 v129 v135 v117 h (fun v137 h =>
  ref22_Coin.tail m0 v12 v3 R v137 h)) h)))) h) ∧
  (q1b player2 h (fun v140 h =>
  ((q1v v14 (fun v141 h =>
  callK Tryz.prog .slice F.ref22_raw #[.agg v13] (fun (v142 : Sl) h =>
  stillAggK (sizeOfT Tryz.prog T.api_Tag) h nonce_2 v12 ∧
  q1q v141 v142 v140 v117 h (fun v143 h =>
  ref22_Coin.tail m0 v12 v3 R v143 h)) h) h) ∧
  (callK Tryz.prog .slice F.ref22_raw #[.agg v13] (fun (v146 : Sl) h =>
  stillAggK (sizeOfT Tryz.prog T.api_Tag) h nonce_2 v12 ∧
  q1v v14 (fun v147 h =>
  q1q v147 v146 v140 v117 h (fun v148 h =>
  ref22_Coin.tail m0 v12 v3 R v148 h)) h) h)))))))))))))))) ∧
  (((callK Tryz.prog .slice F.ref22_raw #[.agg v13] (fun (v151 : Sl) h =>
  stillAggK (sizeOfT Tryz.prog T.api_Tag) h nonce_2 v12 ∧
  ((newSlK h 4 #[.int .u8 99, .int .u8 111, .int .u8 105, .int .u8 110] T.uint8 (fun v152 h =>
  ((q1v v152 (fun v153 h =>
  ((q1b player2 h (fun v154 h =>
  q1b bit3 h (fun v155 h =>
  q1q v153 v151 v154 v155 h (fun v156 h =>
  ref22_Coin.tail m0 v12 v3 R v156 h)))) ∧
  (q1b bit3 h (fun v159 h =>
  q1b player2 h (fun v160 h =>
  q1q v153 v151 v160 v159 h (fun v161 h =>
  ref22_Coin.tail m0 v12 v3 R v161 h)))))) h) ∧
  (((q1b player2 h (fun v164 h =>
  ((q1v v152 (fun v165 h =>
  q1b bit3 h (fun v166 h =>
  q1q v165 v151 v164 v166 h (fun v167 h =>
  ref22_Coin.tail m0 v12 v3 R v167 h))) h) ∧
  (q1b bit3 h (fun v170 h =>
  q1v v152 (fun v171 h =>
  q1q v171 v151 v164 v170 h (fun v172 h =>
  ref22_Coin.tail m0 v12 v3 R v172 h)) h))))) ∧
  (q1b bit3 h (fun v175 h =>
  ((q1v v152 (fun v176 h =>
  q1b player2 h (fun v177 h =>
  q1q v176 v151 v177 v175 h (fun v178 h =>
  ref22_Coin.tail m0 v12 v3 R v178 h))) h) ∧
  (q1b player2 h (fun v181 h =>
  q1v v152 (fun v182 h =>
  q1q v182 v151 v181 v175 h (fun v183 h =>
  ref22_Coin.tail m0 v12 v3 R v183 h)) h)))))))))) ∧
  (((q1b player2 h (fun v186 h =>
  ((newSlK h 4 #[.int .u8 99, .int .u8 111, .int .u8 105, .int .u8 110] T.uint8 (fun v187 h =>
  ((q1v v187 (fun v188 h =>
  q1b bit3 h (fun v189 h =>
  q1q v188 v151 v186 v189 h (fun v190 h =>
  ref22_Coin.tail m0 v12 v3 R v190 h))) h) ∧
  (q1b bit3 h (fun v193 h =>
  q1v v187 (fun v194 h =>
  q1q v194 v151 v186 v193 h (fun v195 h =>
  ref22_Coin.tail m0 v12 v3 R v195 h)) h))))) ∧
  (q1b bit3 h (fun v198 h =>
  newSlK h 4 #[.int .u8 99, .int .u8 111, .int .u8 105, .int .u8 110] T.uint8 (fun v199 h =>
  q1v v199 (fun v200 h =>
  q1q v200 v151 v186 v198 h (fun v201 h =>
  ref22_Coin.tail m0 v12 v3 R v201 h)) h)))))) ∧
  (q1b bit3 h (fun v204 h =>
  ((newSlK h 4 #[.int .u8 99, .int .u8 111, .int .u8 105, .int .u8 110] T.uint8 (fun v205 h =>
  ((q1v v205 (fun v206 h =>
  q1b player2 h (fun v207 h =>
  q1q v206 v151 v207 v204 h (fun v208 h =>
  ref22_Coin.tail m0 v12 v3 R v208 h))) h) ∧
  (q1b player2 h (fun v211 h =>
  q1v v205 (fun v212 h =>
  q1q v212 v151 v211 v204 h (fun v213 h =>
  ref22_Coin.tail m0 v12 v3 R v213 h)) h))))) ∧
  (q1b player2 h (fun v216 h =>
  newSlK h 4 #[.int .u8 99, .int .u8 111, .int .u8 105, .int .u8 110] T.uint8 (fun v217 h =>
  q1v v217 (fun v218 h =>
  q1q v218 v151 v216 v204 h (fun v219 h =>
  ref22_Coin.tail m0 v12 v3 R v219 h)) h)))))))))) h) ∧
  (((q1b player2 h (fun v222 h =>
  ((newSlK h 4 #[.int .u8 99, .int .u8 111, .int .u8 105, .int .u8 110] T.uint8 (fun v223 h =>
  ((q1v v223 (fun v224 h =>
  ((callK Tryz.prog .slice F.ref22_raw #[.agg v13] (fun (v225 : Sl) h =>
  stillAggK (sizeOfT Tryz.prog T.api_Tag) h nonce_2 v12 ∧
  q1b bit3 h (fun v226 h =>
  q1q v224 v225 v222 v226 h (fun v227 h =>
  ref22_Coin.tail m0 v12 v3 R v227 h))) h) ∧
  (q1b bit3 h (fun v230 h =>
  callK Tryz.prog .slice F.ref22_raw #[.agg v13] (fun (v231 : Sl) h =>
  stillAggK (sizeOfT Tryz.prog T.api_Tag) h nonce_2 v12 ∧
  q1q v224 v231 v222 v230 h (fun v232 h =>
  ref22_Coin.tail m0 v12 v3 R v232 h)) h)))) h) ∧
  (((callK Tryz.prog .slice F.ref22_raw #[.agg v13] (fun (v235 : Sl) h =>
  stillAggK (sizeOfT Tryz.prog T.api_Tag) h nonce_2 v12 ∧
  ((q1v v223 (fun v236 h =>
  q1b bit3 h (fun v237 h =>
  q1q v236 v235 v222 v237 h (fun v238 h =>
  ref22_Coin.tail m0 v12 v3 R v238 h))) h) ∧
  (q1b bit3 h (fun v241 h =>
  q1v v223 (fun v242 h =>
  q1q v242 v235 v222 v241 h (fun v243 h =>
  ref22_Coin.tail m0 v12 v3 R v243 h)) h)))) h) ∧
  (q1b bit3 h (fun v246 h =>
  ((q1v v223 (fun v247 h =>
  callK Tryz.prog .slice F.ref22_raw #[.agg v13] (fun (v248 : Sl) h =>
  stillAggK (sizeOfT Tryz.prog T.api_Tag) h nonce_2 v12 ∧
  q1q v247 v248 v222 v246 h (fun v249 h =>
  ref22_Coin.tail m0 v12 v3 R v249 h)) h) h) ∧
  (callK Tryz.prog .slice F.ref22_raw #[.agg v13] (fun (v252 : Sl) h =>
  stillAggK (sizeOfT Tryz.prog T.api_Tag) h nonce_2 v12 ∧
  q1v v223 (fun v253 h =>
  q1q v253 v252 v222 v246 h (fun v254 h =>
  ref22_Coin.tail m0 v12 v3 R v254 h)) h) h))))))))) ∧
  (((callK Tryz.prog .slice F.ref22_raw #[.agg v13] (fun (v257 : Sl) h =>
  stillAggK (sizeOfT Tryz.prog T.api_Tag) h nonce_2 v12 ∧
  ((newSlK h 4 #[.int .u8 99, .int .u8 111, .int .u8 105, .int .u8 110] T.uint8 (fun v258 h =>
  ((q1v v258 (fun v259 h =>
  q1b bit3 h (fun v260 h =>
  q1q v259 v257 v222 v260 h (fun v261 h =>
  ref22_Coin.tail m0 v12 v3 R v261 h))) h) ∧
  (q1b bit3 h (fun v264 h =>
  q1v v258 (fun v265 h =>
  q1q v265 v257 v222 v264 h (fun v266 h =>
  ref22_Coin.tail m0 v12 v3 R v266 h)) h))))) ∧
  (q1b bit3 h (fun v269 h =>
  newSlK h 4 #[.int .u8 99, .int .u8 111, .int .u8 105, .int .u8 110] T.uint8 (fun v270 h =>
  q1v v270 (fun v271 h =>
  q1q v271 v257 v222 v269 h (fun v272 h =>
  ref22_Coin.tail m0 v12 v3 R v272 h)) h))))) h) ∧
  (q1b bit3 h (fun v275 h =>
  ((newSlK h 4 #[.int .u8 99, .int .u8 111, .int .u8 105, .int .u8 110] T.uint8 (fun v276 h =>
  ((q1v v276 (fun v277 h =>
  callK Tryz.prog .slice F.ref22_raw #[.agg v13] (fun (v278 : Sl) h =>
  stillAggK (sizeOfT Tryz.prog T.api_Tag) h nonce_2 v12 ∧
  q1q v277 v278 v222 v275 h (fun v279 h =>
  ref22_Coin.tail m0 v12 v3 R v279 h)) h) h) ∧
  (callK Tryz.prog .slice F.ref22_raw #[.agg v13] (fun (v282 : Sl) h =>
  stillAggK (sizeOfT Tryz.prog T.api_Tag) h nonce_2 v12 ∧
  q1v v276 (fun v283 h =>
  q1q v283 v282 v222 v275 h (fun v284 h =>
  ref22_Coin.tail m0 v12 v3 R v284 h)) h) h)))) ∧
  (callK Tryz.prog .slice F.ref22_raw #[.agg v13] (fun (v287 : Sl) h =>
  stillAggK (sizeOfT Tryz.prog T.api_Tag) h nonce_2 v12 ∧
  newSlK h 4 #[.int .u8 99, .int .u8 111, .int .u8 105, .int .u8 110] T.uint8 (fun v288 h =>
  q1v v288 (fun v289 h =>
  q1q v289 v287 v222 v275 h (fun v290 h =>
  ref22_Coin.tail m0 v12 v3 R v290 h)) h)) h))))))))) ∧
  (q1b bit3 h (fun v293 h =>
  ((newSlK h 4 #[.int .u8 99, .int .u8 111, .int .u8 105, .int .u8 110] T.uint8 (fun v294 h =>
  ((q1v v294 (fun v295 h =>
  ((callK Tryz.prog .slice F.ref22_raw #[.agg v13] (fun (v296 : Sl) h =>
  stillAggK (sizeOfT Tryz.prog T.api_Tag) h nonce_2 v12 ∧
  q1b player2 h (fun v297 h =>
  q1q v295 v296 v297 v293 h (fun v298 h =>
  ref22_Coin.tail m0 v12 v3 R v298 h))) h) ∧
  (q1b player2 h (fun v301 h =>
  callK Tryz.prog .slice F.ref22_raw #[.agg v13] (fun (v302 : Sl) h =>
  stillAggK (sizeOfT Tryz.prog T.api_Tag) h nonce_2 v12 ∧
  q1q v295 v302 v301 v293 h (fun v303 h =>
  ref22_Coin.tail m0 v12 v3 R v303 h)) h)))) h) ∧
  (((callK Tryz.prog .slice F.ref22_raw #[.agg v13] (fun (v306 : Sl) h =>
  stillAggK (sizeOfT Tryz.prog T.api_Tag) h nonce_2 v12 ∧
  ((q1v v294 (fun v307 h =>
  q1b player2 h (fun v308 h =>
  q1q v307 v306 v308 v293 h (fun v309 h =>
  ref22_Coin.tail m0 v12 v3 R v309 h))) h) ∧
  (q1b player2 h (fun v312 h =>
  q1v v294 (fun v313 h =>
  q1q v313 v306 v312 v293 h (fun v314 h =>
  ref22_Coin.tail m0 v12 v3 R v314 h)) h)))) h) ∧
  (q1b player2 h (fun v317 h =>
  ((q1v v294 (fun v318 h =>
  callK Tryz.prog .slice F.ref22_raw #[.agg v13] (fun (v319 : Sl) h =>
  stillAggK (sizeOfT Tryz.prog T.api_Tag) h nonce_2 v12 ∧
  q1q v318 v319 v317 v293 h (fun v320 h =>
  ref22_Coin.tail m0 v12 v3 R v320 h)) h) h) ∧
  (callK Tryz.prog .slice F.ref22_raw #[.agg v13] (fun (v323 : Sl) h =>
  stillAggK (sizeOfT Tryz.prog T.api_Tag) h nonce_2 v12 ∧
  q1v v294 (fun v324 h =>
  q1q v324 v323 v317 v293 h (fun v325 h =>
  ref22_Coin.tail m0 v12 v3 R v325 h)) h) h))))))))) ∧
  (((callK Tryz.prog .slice F.ref22_raw #[.agg v13] (fun (v328 : Sl) h =>
  stillAggK (sizeOfT Tryz.prog T.api_Tag) h nonce_2 v12 ∧
  ((newSlK h 4 #[.int .u8 99, .int .u8 111, .int .u8 105, .int .u8 110] T.uint8 (fun v329 h =>
  ((q1v v329 (fun v330 h =>
  q1b player2 h (fun v331 h =>
  q1q v330 v328 v331 v293 h (fun v332 h =>
  ref22_Coin.tail m0 v12 v3 R v332 h))) h) ∧
  (q1b player2 h (fun v335 h =>
  q1v v329 (fun v336 h =>
  q1q v336 v328 v335 v293 h (fun v337 h =>
  ref22_Coin.tail m0 v12 v3 R v337 h)) h))))) ∧
  (q1b player2 h (fun v340 h =>
  newSlK h 4 #[.int .u8 99, .int .u8 111, .int .u8 105, .int .u8 110] T.uint8 (fun v341 h =>
  q1v v341 (fun v342 h =>
  q1q v342 v328 v340 v293 h (fun v343 h =>
  ref22_Coin.tail m0 v12 v3 R v343 h)) h))))) h) ∧
  (q1b player2 h (fun v346 h =>
  ((newSlK h 4 #[.int .u8 99, .int .u8 111, .int .u8 105, .int .u8 110] T.uint8 (fun v347 h =>
  ((q1v v347 (fun v348 h =>
  callK Tryz.prog .slice F.ref22_raw #[.agg v13] (fun (v349 : Sl) h =>
  stillAggK (sizeOfT Tryz.prog T.api_Tag) h nonce_2 v12 ∧
  q1q v348 v349 v346 v293 h (fun v350 h =>
  ref22_Coin.tail m0 v12 v3 R v350 h)) h) h) ∧
  (callK Tryz.prog .slice F.ref22_raw #[.agg v13] (fun (v353 : Sl) h =>
  stillAggK (sizeOfT Tryz.prog T.api_Tag) h nonce_2 v12 ∧
  q1v v347 (fun v354 h =>
  q1q v354 v353 v346 v293 h (fun v355 h =>
  ref22_Coin.tail m0 v12 v3 R v355 h)) h) h)))) ∧
  (callK Tryz.prog .slice F.ref22_raw #[.agg v13] (fun (v358 : Sl) h =>
  stillAggK (sizeOfT Tryz.prog T.api_Tag) h nonce_2 v12 ∧
  newSlK h 4 #[.int .u8 99, .int .u8 111, .int .u8 105, .int .u8 110] T.uint8 (fun v359 h =>
  q1v v359 (fun v360 h =>
  q1q v360 v358 v346 v293 h (fun v361 h =>
  ref22_Coin.tail m0 v12 v3 R v361 h)) h)) h)))))))))))))))))))
def ref22_Coin.ann : Ann := (.seq .leaf (.seq (.seq .leaf (.cond (.seq .leaf .leaf) .leaf)) (.seq (.any (.loc 0 (.loc 6 (.loc 7 (.loc 9 (.loc 10 (.st 1 253952 (.st 4 258080 (.alt 2 (.alt 3 (.alt 5 (.alt 8 (.last 11 (.last 12 (.last 13 (.loc 14 (.loc 15 (.last 16 (.loc 17 .done))))))) (.last 11 (.last 8 (.last 12 (.last 13 (.loc 14 (.loc 15 (.last 16 (.loc 17 .done))))))))) (.alt 8 (.alt 5 (.last 11 (.last 12 (.last 13 (.loc 14 (.loc 15 (.last 16 (.loc 17 .done))))))) (.last 11 (.last 5 (.last 12 (.last 13 (.loc 14 (.loc 15 (.last 16 (.loc 17 .done))))))))) (.last 11 (.alt 5 (.last 8 (.last 12 (.last 13 (.loc 14 (.loc 15 (.last 16 (.loc 17 .done))))))) (.last 8 (.last 5 (.last 12 (.last 13 (.loc 14 (.loc 15 (.last 16 (.loc 17 .done)))))))))))) (.alt 5 (.alt 3 (.alt 8 (.last 11 (.last 12 (.last 13 (.loc 14 (.loc 15 (.last 16 (.loc 17 .done))))))) (.last 11 (.last 8 (.last 12 (.last 13 (.loc 14 (.loc 15 (.last 16 (.loc 17 .done))))))))) (.alt 8 (.alt 3 (.last 11 (.last 12 (.last 13 (.loc 14 (.loc 15 (.last 16 (.loc 17 .done))))))) (.last 11 (.last 3 (.last 12 (.last 13 (.loc 14 (.loc 15 (.last 16 (.loc 17 .done))))))))) (.last 11 (.alt 3 (.last 8 (.last 12 (.last 13 (.loc 14 (.loc 15 (.last 16 (.loc 17 .done))))))) (.last 8 (.last 3 (.last 12 (.last 13 (.loc 14 (.loc 15 (.last 16 (.loc 17 .done)))))))))))) (.alt 8 (.alt 3 (.alt 5 (.last 11 (.last 12 (.last 13 (.loc 14 (.loc 15 (.last 16 (.loc 17 .done))))))) (.last 11 (.last 5 (.last 12 (.last 13 (.loc 14 (.loc 15 (.last 16 (.loc 17 .done))))))))) (.alt 5 (.alt 3 (.last 11 (.last 12 (.last 13 (.loc 14 (.loc 15 (.last 16 (.loc 17 .done))))))) (.last 11 (.last 3 (.last 12 (.last 13 (.loc 14 (.loc 15 (.last 16 (.loc 17 .done))))))))) (.last 11 (.alt 3 (.last 5 (.last 12 (.last 13 (.loc 14 (.loc 15 (.last 16 (.loc 17 .done))))))) (.last 5 (.last 3 (.last 12 (.last 13 (.loc 14 (.loc 15 (.last 16 (.loc 17 .done)))))))))))) (.last 11 (.alt 3 (.alt 5 (.last 8 (.last 12 (.last 13 (.loc 14 (.loc 15 (.last 16 (.loc 17 .done))))))) (.last 8 (.last 5 (.last 12 (.last 13 (.loc 14 (.loc 15 (.last 16 (.loc 17 .done))))))))) (.alt 5 (.alt 3 (.last 8 (.last 12 (.last 13 (.loc 14 (.loc 15 (.last 16 (.loc 17 .done))))))) (.last 8 (.last 3 (.last 12 (.last 13 (.loc 14 (.loc 15 (.last 16 (.loc 17 .done))))))))) (.last 8 (.alt 3 (.last 5 (.last 12 (.last 13 (.loc 14 (.loc 15 (.last 16 (.loc 17 .done))))))) (.last 5 (.last 3 (.last 12 (.last 13 (.loc 14 (.loc 15 (.last 16 (.loc 17 .done)))))))))))))))) (.alt 5 (.alt 2 (.alt 3 (.alt 8 (.last 11 (.last 12 (.last 13 (.loc 14 (.loc 15 (.last 16 (.loc 17 .done))))))) (.last 11 (.last 8 (.last 12 (.last 13 (.loc 14 (.loc 15 (.last 16 (.loc 17 .done))))))))) (.alt 8 (.alt 3 (.last 11 (.last 12 (.last 13 (.loc 14 (.loc 15 (.last 16 (.loc 17 .done))))))) (.last 11 (.last 3 (.last 12 (.last 13 (.loc 14 (.loc 15 (.last 16 (.loc 17 .done))))))))) (.last 11 (.alt 3 (.last 8 (.last 12 (.last 13 (.loc 14 (.loc 15 (.last 16 (.loc 17 .done))))))) (.last 8 (.last 3 (.last 12 (.last 13 (.loc 14 (.loc 15 (.last 16 (.loc 17 .done)))))))))))) (.alt 8 (.alt 2 (.alt 3 (.last 11 (.last 12 (.last 13 (.loc 14 (.loc 15 (.last 16 (.loc 17 .done))))))) (.last 11 (.last 3 (.last 12 (.last 13 (.loc 14 (.loc 15 (.last 16 (.loc 17 .done))))))))) (.last 11 (.last 2 (.last 3 (.last 12 (.last 13 (.loc 14 (.loc 15 (.last 16 (.loc 17 .done)))))))))) (.last 11 (.alt 2 (.alt 3 (.last 8 (.last 12 (.last 13 (.loc 14 (.loc 15 (.last 16 (.loc 17 .done))))))) (.last 8 (.last 3 (.last 12 (.last 13 (.loc 14 (.loc 15 (.last 16 (.loc 17 .done))))))))) (.last 8 (.last 2 (.last 3 (.last 12 (.last 13 (.loc 14 (.loc 15 (.last 16 (.loc 17 .done))))))))))))) (.alt 8 (.alt 2 (.alt 3 (.alt 5 (.last 11 (.last 12 (.last 13 (.loc 14 (.loc 15 (.last 16 (.loc 17 .done))))))) (.last 11 (.last 5 (.last 12 (.last 13 (.loc 14 (.loc 15 (.last 16 (.loc 17 .done))))))))) (.alt 5 (.alt 3 (.last 11 (.last 12 (.last 13 (.loc 14 (.loc 15 (.last 16 (.loc 17 .done))))))) (.last 11 (.last 3 (.last 12 (.last 13 (.loc 14 (.loc 15 (.last 16 (.loc 17 .done))))))))) (.last 11 (.alt 3 (.last 5 (.last 12 (.last 13 (.loc 14 (.loc 15 (.last 16 (.loc 17 .done))))))) (.last 5 (.last 3 (.last 12 (.last 13 (.loc 14 (.loc 15 (.last 16 (.loc 17 .done)))))))))))) (.alt 5 (.alt 2 (.alt 3 (.last 11 (.last 12 (.last 13 (.loc 14 (.loc 15 (.last 16 (.loc 17 .done))))))) (.last 11 (.last 3 (.last 12 (.last 13 (.loc 14 (.loc 15 (.last 16 (.loc 17 .done))))))))) (.last 11 (.last 2 (.last 3 (.last 12 (.last 13 (.loc 14 (.loc 15 (.last 16 (.loc 17 .done)))))))))) (.last 11 (.alt 2 (.alt 3 (.last 5 (.last 12 (.last 13 (.loc 14 (.loc 15 (.last 16 (.loc 17 .done))))))) (.last 5 (.last 3 (.last 12 (.last 13 (.loc 14 (.loc 15 (.last 16 (.loc 17 .done))))))))) (.last 5 (.last 2 (.last 3 (.last 12 (.last 13 (.loc 14 (.loc 15 (.last 16 (.loc 17 .done))))))))))))) (.last 11 (.alt 2 (.alt 3 (.alt 5 (.last 8 (.last 12 (.last 13 (.loc 14 (.loc 15 (.last 16 (.loc 17 .done))))))) (.last 8 (.last 5 (.last 12 (.last 13 (.loc 14 (.loc 15 (.last 16 (.loc 17 .done))))))))) (.alt 5 (.alt 3 (.last 8 (.last 12 (.last 13 (.loc 14 (.loc 15 (.last 16 (.loc 17 .done))))))) (.last 8 (.last 3 (.last 12 (.last 13 (.loc 14 (.loc 15 (.last 16 (.loc 17 .done))))))))) (.last 8 (.alt 3 (.last 5 (.last 12 (.last 13 (.loc 14 (.loc 15 (.last 16 (.loc 17 .done))))))) (.last 5 (.last 3 (.last 12 (.last 13 (.loc 14 (.loc 15 (.last 16 (.loc 17 .done)))))))))))) (.alt 5 (.alt 2 (.alt 3 (.last 8 (.last 12 (.last 13 (.loc 14 (.loc 15 (.last 16 (.loc 17 .done))))))) (.last 8 (.last 3 (.last 12 (.last 13 (.loc 14 (.loc 15 (.last 16 (.loc 17 .done))))))))) (.last 8 (.last 2 (.last 3 (.last 12 (.last 13 (.loc 14 (.loc 15 (.last 16 (.loc 17 .done)))))))))) (.last 8 (.alt 2 (.alt 3 (.last 5 (.last 12 (.last 13 (.loc 14 (.loc 15 (.last 16 (.loc 17 .done))))))) (.last 5 (.last 3 (.last 12 (.last 13 (.loc 14 (.loc 15 (.last 16 (.loc 17 .done))))))))) (.last 5 (.last 2 (.last 3 (.last 12 (.last 13 (.loc 14 (.loc 15 (.last 16 (.loc 17 .done))))))))))))))))))))))))) .leaf)))
theorem ref22_Coin.eq (m0 : Option Addr) (game1 : Array Value) (player2 : Int) (bit3 : Int) (nonce4 : Array Value) (R : Value → Heap → Prop) (h : Heap) : ref22_Coin.body m0 game1 player2 bit3 nonce4 R h = evFn Tryz.prog Tryz.f11 ref22_Coin.ann [.pointer m0, .agg game1, .int .i64 player2, .int .i64 bit3, .agg nonce4] R h := by kernel_rfl
theorem ref22_Coin.calls {m0 : Option Addr} {game1 : Array Value} {player2 : Int} {bit3 : Int} {nonce4 : Array Value} {R : Value → Heap → Prop} {h : Heap} (H : ref22_Coin.body m0 game1 player2 bit3 nonce4 R h) : HC Tryz.prog F.ref22_Coin #[.pointer m0, .agg game1, .int .i64 player2, .int .i64 bit3, .agg nonce4] R h :=
  evFn_sound mixed Tryz.func11 (by kernel_rfl) (ref22_Coin.eq m0 game1 player2 bit3 nonce4 R h ▸ H)

/-! zugzwang/zugzwangref22.Move -/
abbrev ref22_Move.tail (m : Option Addr) (a : Array Value) (z : Option Addr) (R : Value → Heap → Prop) (s : Sl) (h : Heap) : Prop :=
  callK Tryz.prog (Kd.pair .agg (.int .i64)) F.ref22_Cover #[.pointer m, .agg a, .slice s.a s.n s.c] (fun (v : Array Value × Int) h =>
  storeAggK (sizeOfT Tryz.prog T.api_Tag) h z v.1 (fun h =>
  quietK Tryz.prog .agg (Instr.loadAt T.api_Tag (.pointer z)) (fun r =>
  R (.tuple #[.agg r, .int .i64 v.2]) h) h)) h
abbrev q2q (a b c d : Sl) (h : Heap) (K : Sl → Heap → Prop) : Prop := newSlK h 4 #[.slice a.a a.n a.c, .slice b.a b.n b.c, .slice c.a c.n c.c, .slice d.a d.n d.c] T.sl_uint8 K
abbrev q2v (s : Sl) (K : Sl → Heap → Prop) (h : Heap) : Prop := opK Tryz.prog .slice (convert T.sl_uint8 T.sl_uint8 (.slice s.a s.n s.c)) K h
def ref22_Move.body (m0 : Option Addr) (game1 : Array Value) (number2 : Int) (x3 : Array Value) (nonce4 : Array Value) (R : Value → Heap → Prop) (h : Heap) : Prop :=
  newK h game1 T.api_Tag (fun (game_1 : Option Addr) h =>
  newK h x3 T.api_Move (fun (x_2 : Option Addr) h =>
  newK h nonce4 T.api_Tag (fun (nonce_3 : Option Addr) h =>
  newK h (zerosOf Tryz.prog T.api_Tag) T.api_Tag (fun (v4 : Option Addr) h =>
  if (decide (number2 < 0)) = true then
  buildK Tryz.prog (Instr.build T.api_Tag #[]) (fun (v5 : Array Value) =>
  storeAggK (sizeOfT Tryz.prog T.api_Tag) h v4 v5 (fun h =>
  quietK Tryz.prog .agg (Instr.loadAt T.api_Tag (.pointer v4)) (fun r6 =>
  R (.tuple #[.agg r6, .int .i64 2]) h) h))
  else
  if (decide (number2 > 4294967295)) = true then
  buildK Tryz.prog (Instr.build T.api_Tag #[]) (fun (v7 : Array Value) =>
  storeAggK (sizeOfT Tryz.prog T.api_Tag) h v4 v7 (fun h =>
  quietK Tryz.prog .agg (Instr.loadAt T.api_Tag (.pointer v4)) (fun r8 =>
  R (.tuple #[.agg r8, .int .i64 2]) h) h))
  else
  loadAggK (sizeOfT Tryz.prog T.api_Move) h x_2 (fun (v9 : Array Value) =>
  buildK Tryz.prog (Instr.build T.api_Body #[(0, (.int .i64 1)), (1, (.agg v9))]) (fun (v10 : Array Value) =>
  callK Tryz.prog .bool F.ref18_Body #[.agg v10] (fun (v11 : Bool) h =>
  if (!v11) = true then
  buildK Tryz.prog (Instr.build T.api_Tag #[]) (fun (v12 : Array Value) =>
  storeAggK (sizeOfT Tryz.prog T.api_Tag) h v4 v12 (fun h =>
  quietK Tryz.prog .agg (Instr.loadAt T.api_Tag (.pointer v4)) (fun r13 =>
  R (.tuple #[.agg r13, .int .i64 2]) h) h))
  else
  fldK x_2 0 (fun (a_14 : Addr) =>
  fldK x_2 1 (fun (a_15 : Addr) =>
  fldK x_2 2 (fun (a_16 : Addr) =>
  loadAggK (sizeOfT Tryz.prog T.api_Tag) h nonce_3 (fun (v17 : Array Value) =>
  loadAggK (sizeOfT Tryz.prog T.api_Tag) h game_1 (fun (v18 : Array Value) =>
  loadK (.int .i64) h ((some a_14)) (fun (v19 : Int) =>
  loadK (.int .i64) h ((some a_15)) (fun (v20 : Int) =>
  loadK (.int .i64) h ((some a_16)) (fun (v21 : Int) =>
  ((newSlK h 4 #[.int .u8 109, .int .u8 111, .int .u8 118, .int .u8 101] T.uint8 (fun v22 h =>
  ((q2v v22 (fun v23 h =>
  ((callK Tryz.prog .slice F.ref22_raw #[.agg v18] (fun (v24 : Sl) h =>
  stillK (.int .i64) h ((some a_16)) v21 ∧
  stillK (.int .i64) h ((some a_15)) v20 ∧
  stillK (.int .i64) h ((some a_14)) v19 ∧
  stillAggK (sizeOfT Tryz.prog T.api_Tag) h nonce_3 v17 ∧
  ((callK Tryz.prog .slice F.ref17_Four #[.int .i64 number2] (fun (v25 : Sl) h =>
  stillK (.int .i64) h ((some a_16)) v21 ∧
  stillK (.int .i64) h ((some a_15)) v20 ∧
  stillK (.int .i64) h ((some a_14)) v19 ∧
  stillAggK (sizeOfT Tryz.prog T.api_Tag) h nonce_3 v17 ∧
  newSlK h 3 #[(.int .u8 (IntKind.u8.wrap v19)), (.int .u8 (IntKind.u8.wrap v20)), (.int .u8 (IntKind.u8.wrap v21))] T.uint8 (fun v26 h =>
  q2q v23 v24 v25 v26 h (fun v27 h =>
  ref22_Move.tail m0 v17 v4 R v27 h))) h) ∧
  (newSlK h 3 #[(.int .u8 (IntKind.u8.wrap v19)), (.int .u8 (IntKind.u8.wrap v20)), (.int .u8 (IntKind.u8.wrap v21))] T.uint8 (fun v30 h =>
  callK Tryz.prog .slice F.ref17_Four #[.int .i64 number2] (fun (v31 : Sl) h =>
  stillAggK (sizeOfT Tryz.prog T.api_Tag) h nonce_3 v17 ∧
  q2q v23 v24 v31 v30 h (fun v32 h =>
  ref22_Move.tail m0 v17 v4 R v32 h)) h)))) h) ∧
  (newSlK h 3 #[(.int .u8 (IntKind.u8.wrap v19)), (.int .u8 (IntKind.u8.wrap v20)), (.int .u8 (IntKind.u8.wrap v21))] T.uint8 (fun v35 h =>
  callK Tryz.prog .slice F.ref22_raw #[.agg v18] (fun (v36 : Sl) h =>
  stillAggK (sizeOfT Tryz.prog T.api_Tag) h nonce_3 v17 ∧
  callK Tryz.prog .slice F.ref17_Four #[.int .i64 number2] (fun (v37 : Sl) h =>
  stillAggK (sizeOfT Tryz.prog T.api_Tag) h nonce_3 v17 ∧
  q2q v23 v36 v37 v35 h (fun v38 h =>
  ref22_Move.tail m0 v17 v4 R v38 h)) h) h)))) h) ∧
  (((callK Tryz.prog .slice F.ref22_raw #[.agg v18] (fun (v41 : Sl) h =>
  stillK (.int .i64) h ((some a_16)) v21 ∧
  stillK (.int .i64) h ((some a_15)) v20 ∧
  stillK (.int .i64) h ((some a_14)) v19 ∧
  stillAggK (sizeOfT Tryz.prog T.api_Tag) h nonce_3 v17 ∧
  ((q2v v22 (fun v42 h =>
  ((callK Tryz.prog .slice F.ref17_Four #[.int .i64 number2] (fun (v43 : Sl) h =>
  stillK (.int .i64) h ((some a_16)) v21 ∧
  stillK (.int .i64) h ((some a_15)) v20 ∧
  stillK (.int .i64) h ((some a_14)) v19 ∧
  stillAggK (sizeOfT Tryz.prog T.api_Tag) h nonce_3 v17 ∧
  newSlK h 3 #[(.int .u8 (IntKind.u8.wrap v19)), (.int .u8 (IntKind.u8.wrap v20)), (.int .u8 (IntKind.u8.wrap v21))] T.uint8 (fun v44 h =>
  q2q v42 v41 v43 v44 h (fun v45 h =>
  ref22_Move.tail m0 v17 v4 R v45 h))) h) ∧
  (newSlK h 3 #[(.int .u8 (IntKind.u8.wrap v19)), (.int .u8 (IntKind.u8.wrap v20)), (.int .u8 (IntKind.u8.wrap v21))] T.uint8 (fun v48 h =>
  callK Tryz.prog .slice F.ref17_Four #[.int .i64 number2] (fun (v49 : Sl) h =>
  stillAggK (sizeOfT Tryz.prog T.api_Tag) h nonce_3 v17 ∧
  q2q v42 v41 v49 v48 h (fun v50 h =>
  ref22_Move.tail m0 v17 v4 R v50 h)) h)))) h) ∧
  (((callK Tryz.prog .slice F.ref17_Four #[.int .i64 number2] (fun (v53 : Sl) h =>
  stillK (.int .i64) h ((some a_16)) v21 ∧
  stillK (.int .i64) h ((some a_15)) v20 ∧
  stillK (.int .i64) h ((some a_14)) v19 ∧
  stillAggK (sizeOfT Tryz.prog T.api_Tag) h nonce_3 v17 ∧
  ((q2v v22 (fun v54 h =>
  newSlK h 3 #[(.int .u8 (IntKind.u8.wrap v19)), (.int .u8 (IntKind.u8.wrap v20)), (.int .u8 (IntKind.u8.wrap v21))] T.uint8 (fun v55 h =>
  q2q v54 v41 v53 v55 h (fun v56 h =>
  ref22_Move.tail m0 v17 v4 R v56 h))) h) ∧
  (newSlK h 3 #[(.int .u8 (IntKind.u8.wrap v19)), (.int .u8 (IntKind.u8.wrap v20)), (.int .u8 (IntKind.u8.wrap v21))] T.uint8 (fun v59 h =>
  q2v v22 (fun v60 h =>
  q2q v60 v41 v53 v59 h (fun v61 h =>
  ref22_Move.tail m0 v17 v4 R v61 h)) h)))) h) ∧
  (newSlK h 3 #[(.int .u8 (IntKind.u8.wrap v19)), (.int .u8 (IntKind.u8.wrap v20)), (.int .u8 (IntKind.u8.wrap v21))] T.uint8 (fun v64 h =>
  ((q2v v22 (fun v65 h =>
  callK Tryz.prog .slice F.ref17_Four #[.int .i64 number2] (fun (v66 : Sl) h =>
  stillAggK (sizeOfT Tryz.prog T.api_Tag) h nonce_3 v17 ∧
  q2q v65 v41 v66 v64 h (fun v67 h =>
  ref22_Move.tail m0 v17 v4 R v67 h)) h) h) ∧
  (callK Tryz.prog .slice F.ref17_Four #[.int .i64 number2] (fun (v70 : Sl) h =>
  stillAggK (sizeOfT Tryz.prog T.api_Tag) h nonce_3 v17 ∧
  q2v v22 (fun v71 h =>
  q2q v71 v41 v70 v64 h (fun v72 h =>
  ref22_Move.tail m0 v17 v4 R v72 h)) h) h)))))))) h) ∧
  (newSlK h 3 #[(.int .u8 (IntKind.u8.wrap v19)), (.int .u8 (IntKind.u8.wrap v20)), (.int .u8 (IntKind.u8.wrap v21))] T.uint8 (fun v75 h =>
  ((q2v v22 (fun v76 h =>
  callK Tryz.prog .slice F.ref22_raw #[.agg v18] (fun (v77 : Sl) h =>
  stillAggK (sizeOfT Tryz.prog T.api_Tag) h nonce_3 v17 ∧
  callK Tryz.prog .slice F.ref17_Four #[.int .i64 number2] (fun (v78 : Sl) h =>
  stillAggK (sizeOfT Tryz.prog T.api_Tag) h nonce_3 v17 ∧
  q2q v76 v77 v78 v75 h (fun v79 h =>
  ref22_Move.tail m0 v17 v4 R v79 h)) h) h) h) ∧
  (callK Tryz.prog .slice F.ref22_raw #[.agg v18] (fun (v82 : Sl) h =>
  stillAggK (sizeOfT Tryz.prog T.api_Tag) h nonce_3 v17 ∧
  ((q2v v22 (fun v83 h =>
  callK Tryz.prog .slice F.ref17_Four #[.int .i64 number2] (fun (v84 : Sl) h =>
  stillAggK (sizeOfT Tryz.prog T.api_Tag) h nonce_3 v17 ∧
  q2q v83 v82 v84 v75 h (fun v85 h =>
  ref22_Move.tail m0 v17 v4 R v85 h)) h) h) ∧
  (callK Tryz.prog .slice F.ref17_Four #[.int .i64 number2] (fun (v88 : Sl) h =>
  stillAggK (sizeOfT Tryz.prog T.api_Tag) h nonce_3 v17 ∧
  q2v v22 (fun v89 h =>
  q2q v89 v82 v88 v75 h (fun v90 h =>
  ref22_Move.tail m0 v17 v4 R v90 h)) h) h))) h))))))))) ∧
  (((callK Tryz.prog .slice F.ref22_raw #[.agg v18] (fun (v93 : Sl) h =>
  stillK (.int .i64) h ((some a_16)) v21 ∧
  stillK (.int .i64) h ((some a_15)) v20 ∧
  stillK (.int .i64) h ((some a_14)) v19 ∧
  stillAggK (sizeOfT Tryz.prog T.api_Tag) h nonce_3 v17 ∧
  ((newSlK h 4 #[.int .u8 109, .int .u8 111, .int .u8 118, .int .u8 101] T.uint8 (fun v94 h =>
  ((q2v v94 (fun v95 h =>
  ((callK Tryz.prog .slice F.ref17_Four #[.int .i64 number2] (fun (v96 : Sl) h =>
  stillK (.int .i64) h ((some a_16)) v21 ∧
  stillK (.int .i64) h ((some a_15)) v20 ∧
  stillK (.int .i64) h ((some a_14)) v19 ∧
  stillAggK (sizeOfT Tryz.prog T.api_Tag) h nonce_3 v17 ∧
  newSlK h 3 #[(.int .u8 (IntKind.u8.wrap v19)), (.int .u8 (IntKind.u8.wrap v20)), (.int .u8 (IntKind.u8.wrap v21))] T.uint8 (fun v97 h =>
  q2q v95 v93 v96 v97 h (fun v98 h =>
  ref22_Move.tail m0 v17 v4 R v98 h))) h) ∧
  (newSlK h 3 #[(.int .u8 (IntKind.u8.wrap v19)), (.int .u8 (IntKind.u8.wrap v20)), (.int .u8 (IntKind.u8.wrap v21))] T.uint8 (fun v101 h =>
  callK Tryz.prog .slice F.ref17_Four #[.int .i64 number2] (fun (v102 : Sl) h =>
  stillAggK (sizeOfT Tryz.prog T.api_Tag) h nonce_3 v17 ∧
  q2q v95 v93 v102 v101 h (fun v103 h =>
  ref22_Move.tail m0 v17 v4 R v103 h)) h)))) h) ∧
  (((callK Tryz.prog .slice F.ref17_Four #[.int .i64 number2] (fun (v106 : Sl) h =>
  stillK (.int .i64) h ((some a_16)) v21 ∧
  stillK (.int .i64) h ((some a_15)) v20 ∧
  stillK (.int .i64) h ((some a_14)) v19 ∧
  stillAggK (sizeOfT Tryz.prog T.api_Tag) h nonce_3 v17 ∧
  ((q2v v94 (fun v107 h =>
  newSlK h 3 #[(.int .u8 (IntKind.u8.wrap v19)), (.int .u8 (IntKind.u8.wrap v20)), (.int .u8 (IntKind.u8.wrap v21))] T.uint8 (fun v108 h =>
  q2q v107 v93 v106 v108 h (fun v109 h =>
  ref22_Move.tail m0 v17 v4 R v109 h))) h) ∧
  (newSlK h 3 #[(.int .u8 (IntKind.u8.wrap v19)), (.int .u8 (IntKind.u8.wrap v20)), (.int .u8 (IntKind.u8.wrap v21))] T.uint8 (fun v112 h =>
  q2v v94 (fun v113 h =>
  q2q v113 v93 v106 v112 h (fun v114 h =>
  ref22_Move.tail m0 v17 v4 R v114 h)) h)))) h) ∧
  (newSlK h 3 #[(.int .u8 (IntKind.u8.wrap v19)), (.int .u8 (IntKind.u8.wrap v20)), (.int .u8 (IntKind.u8.wrap v21))] T.uint8 (fun v117 h =>
  ((q2v v94 (fun v118 h =>
  callK Tryz.prog .slice F.ref17_Four #[.int .i64 number2] (fun (v119 : Sl) h =>
  stillAggK (sizeOfT Tryz.prog T.api_Tag) h nonce_3 v17 ∧
  q2q v118 v93 v119 v117 h (fun v120 h =>
  ref22_Move.tail m0 v17 v4 R v120 h)) h) h) ∧
  (callK Tryz.prog .slice F.ref17_Four #[.int .i64 number2] (fun (v123 : Sl) h =>
  stillAggK (sizeOfT Tryz.prog T.api_Tag) h nonce_3 v17 ∧
  q2v v94 (fun v124 h =>
  q2q v124 v93 v123 v117 h (fun v125 h =>
  ref22_Move.tail m0 v17 v4 R v125 h)) h) h))))))))) ∧
  (((callK Tryz.prog .slice F.ref17_Four #[.int .i64 number2] (fun (v128 : Sl) h =>
  stillK (.int .i64) h ((some a_16)) v21 ∧
  stillK (.int .i64) h ((some a_15)) v20 ∧
  stillK (.int .i64) h ((some a_14)) v19 ∧
  stillAggK (sizeOfT Tryz.prog T.api_Tag) h nonce_3 v17 ∧
  ((newSlK h 4 #[.int .u8 109, .int .u8 111, .int .u8 118, .int .u8 101] T.uint8 (fun v129 h =>
  ((q2v v129 (fun v130 h =>
  newSlK h 3 #[(.int .u8 (IntKind.u8.wrap v19)), (.int .u8 (IntKind.u8.wrap v20)), (.int .u8 (IntKind.u8.wrap v21))] T.uint8 (fun v131 h =>
  q2q v130 v93 v128 v131 h (fun v132 h =>
  ref22_Move.tail m0 v17 v4 R v132 h))) h) ∧
  (newSlK h 3 #[(.int .u8 (IntKind.u8.wrap v19)), (.int .u8 (IntKind.u8.wrap v20)), (.int .u8 (IntKind.u8.wrap v21))] T.uint8 (fun v135 h =>
  q2v v129 (fun v136 h =>
  q2q v136 v93 v128 v135 h (fun v137 h =>
  ref22_Move.tail m0 v17 v4 R v137 h)) h))))) ∧
  (newSlK h 3 #[(.int .u8 (IntKind.u8.wrap v19)), (.int .u8 (IntKind.u8.wrap v20)), (.int .u8 (IntKind.u8.wrap v21))] T.uint8 (fun v140 h =>
  newSlK h 4 #[.int .u8 109, .int .u8 111, .int .u8 118, .int .u8 101] T.uint8 (fun v141 h =>
  q2v v141 (fun v142 h =>
  q2q v142 v93 v128 v140 h (fun v143 h =>
  ref22_Move.tail m0 v17 v4 R v143 h)) h))))) h) ∧
  (newSlK h 3 #[(.int .u8 (IntKind.u8.wrap v19)), (.int .u8 (IntKind.u8.wrap v20)), (.int .u8 (IntKind.u8.wrap v21))] T.uint8 (fun v146 h =>
  ((newSlK h 4 #[.int .u8 109, .int .u8 111, .int .u8 118, .int .u8 101] T.uint8 (fun v147 h =>
  ((q2v v147 (fun v148 h =>
  callK Tryz.prog .slice F.ref17_Four #[.int .i64 number2] (fun (v149 : Sl) h =>
  stillAggK (sizeOfT Tryz.prog T.api_Tag) h nonce_3 v17 ∧
  q2q v148 v93 v149 v146 h (fun v150 h =>
  ref22_Move.tail m0 v17 v4 R v150 h)) h) h) ∧
  (callK Tryz.prog .slice F.ref17_Four #[.int .i64 number2] (fun (v153 : Sl) h =>
  stillAggK (sizeOfT Tryz.prog T.api_Tag) h nonce_3 v17 ∧
  q2v v147 (fun v154 h =>
  q2q v154 v93 v153 v146 h (fun v155 h =>
  ref22_Move.tail m0 v17 v4 R v155 h)) h) h)))) ∧
  (callK Tryz.prog .slice F.ref17_Four #[.int .i64 number2] (fun (v158 : Sl) h =>
  stillAggK (sizeOfT Tryz.prog T.api_Tag) h nonce_3 v17 ∧
  newSlK h 4 #[.int .u8 109, .int .u8 111, .int .u8 118, .int .u8 101] T.uint8 (fun v159 h =>
  q2v v159 (fun v160 h =>
  q2q v160 v93 v158 v146 h (fun v161 h =>
  ref22_Move.tail m0 v17 v4 R v161 h)) h)) h)))))))) h) ∧
  (newSlK h 3 #[(.int .u8 (IntKind.u8.wrap v19)), (.int .u8 (IntKind.u8.wrap v20)), (.int .u8 (IntKind.u8.wrap v21))] T.uint8 (fun v164 h =>
  ((newSlK h 4 #[.int .u8 109, .int .u8 111, .int .u8 118, .int .u8 101] T.uint8 (fun v165 h =>
  ((q2v v165 (fun v166 h =>
  callK Tryz.prog .slice F.ref22_raw #[.agg v18] (fun (v167 : Sl) h =>
  stillAggK (sizeOfT Tryz.prog T.api_Tag) h nonce_3 v17 ∧
  callK Tryz.prog .slice F.ref17_Four #[.int .i64 number2] (fun (v168 : Sl) h =>
  stillAggK (sizeOfT Tryz.prog T.api_Tag) h nonce_3 v17 ∧
  q2q v166 v167 v168 v164 h (fun v169 h =>
  ref22_Move.tail m0 v17 v4 R v169 h)) h) h) h) ∧
  (callK Tryz.prog .slice F.ref22_raw #[.agg v18] (fun (v172 : Sl) h =>
  stillAggK (sizeOfT Tryz.prog T.api_Tag) h nonce_3 v17 ∧
  ((q2v v165 (fun v173 h =>
  callK Tryz.prog .slice F.ref17_Four #[.int .i64 number2] (fun (v174 : Sl) h =>
  stillAggK (sizeOfT Tryz.prog T.api_Tag) h nonce_3 v17 ∧
  q2q v173 v172 v174 v164 h (fun v175 h =>
  ref22_Move.tail m0 v17 v4 R v175 h)) h) h) ∧
  (callK Tryz.prog .slice F.ref17_Four #[.int .i64 number2] (fun (v178 : Sl) h =>
  stillAggK (sizeOfT Tryz.prog T.api_Tag) h nonce_3 v17 ∧
  q2v v165 (fun v179 h =>
  q2q v179 v172 v178 v164 h (fun v180 h =>
  ref22_Move.tail m0 v17 v4 R v180 h)) h) h))) h)))) ∧
  (callK Tryz.prog .slice F.ref22_raw #[.agg v18] (fun (v183 : Sl) h =>
  stillAggK (sizeOfT Tryz.prog T.api_Tag) h nonce_3 v17 ∧
  ((newSlK h 4 #[.int .u8 109, .int .u8 111, .int .u8 118, .int .u8 101] T.uint8 (fun v184 h =>
  ((q2v v184 (fun v185 h =>
  callK Tryz.prog .slice F.ref17_Four #[.int .i64 number2] (fun (v186 : Sl) h =>
  stillAggK (sizeOfT Tryz.prog T.api_Tag) h nonce_3 v17 ∧
  q2q v185 v183 v186 v164 h (fun v187 h =>
  ref22_Move.tail m0 v17 v4 R v187 h)) h) h) ∧
  (callK Tryz.prog .slice F.ref17_Four #[.int .i64 number2] (fun (v190 : Sl) h =>
  stillAggK (sizeOfT Tryz.prog T.api_Tag) h nonce_3 v17 ∧
  q2v v184 (fun v191 h =>
  q2q v191 v183 v190 v164 h (fun v192 h =>
  ref22_Move.tail m0 v17 v4 R v192 h)) h) h)))) ∧
  (callK Tryz.prog .slice F.ref17_Four #[.int .i64 number2] (fun (v195 : Sl) h =>
  stillAggK (sizeOfT Tryz.prog T.api_Tag) h nonce_3 v17 ∧
  newSlK h 4 #[.int .u8 109, .int .u8 111, .int .u8 118, .int .u8 101] T.uint8 (fun v196 h =>
  q2v v196 (fun v197 h =>
  q2q v197 v183 v195 v164 h (fun v198 h =>
  ref22_Move.tail m0 v17 v4 R v198 h)) h)) h))) h)))))))))))))))) h))))))
def ref22_Move.ann : Ann := (.seq .leaf (.seq (.seq .leaf (.cond (.seq .leaf .leaf) .leaf)) (.seq (.any (.loc 0 (.loc 6 (.loc 8 (.loc 11 (.loc 14 (.st 1 16252928 (.st 4 16515232 (.st 9 16647168 (.loc 10 (.st 12 16654336 (.loc 13 (.st 15 16711680 (.loc 16 (.alt 2 (.alt 3 (.alt 5 (.alt 7 (.last 17 (.last 18 (.last 19 (.loc 20 (.loc 21 (.last 22 (.loc 23 .done))))))) (.last 17 (.last 7 (.last 18 (.last 19 (.loc 20 (.loc 21 (.last 22 (.loc 23 .done))))))))) (.last 17 (.last 5 (.last 7 (.last 18 (.last 19 (.loc 20 (.loc 21 (.last 22 (.loc 23 .done)))))))))) (.alt 5 (.alt 3 (.alt 7 (.last 17 (.last 18 (.last 19 (.loc 20 (.loc 21 (.last 22 (.loc 23 .done))))))) (.last 17 (.last 7 (.last 18 (.last 19 (.loc 20 (.loc 21 (.last 22 (.loc 23 .done))))))))) (.alt 7 (.alt 3 (.last 17 (.last 18 (.last 19 (.loc 20 (.loc 21 (.last 22 (.loc 23 .done))))))) (.last 17 (.last 3 (.last 18 (.last 19 (.loc 20 (.loc 21 (.last 22 (.loc 23 .done))))))))) (.last 17 (.alt 3 (.last 7 (.last 18 (.last 19 (.loc 20 (.loc 21 (.last 22 (.loc 23 .done))))))) (.last 7 (.last 3 (.last 18 (.last 19 (.loc 20 (.loc 21 (.last 22 (.loc 23 .done)))))))))))) (.last 17 (.alt 3 (.last 5 (.last 7 (.last 18 (.last 19 (.loc 20 (.loc 21 (.last 22 (.loc 23 .done)))))))) (.last 5 (.alt 3 (.last 7 (.last 18 (.last 19 (.loc 20 (.loc 21 (.last 22 (.loc 23 .done))))))) (.last 7 (.last 3 (.last 18 (.last 19 (.loc 20 (.loc 21 (.last 22 (.loc 23 .done)))))))))))))) (.alt 5 (.alt 2 (.alt 3 (.alt 7 (.last 17 (.last 18 (.last 19 (.loc 20 (.loc 21 (.last 22 (.loc 23 .done))))))) (.last 17 (.last 7 (.last 18 (.last 19 (.loc 20 (.loc 21 (.last 22 (.loc 23 .done))))))))) (.alt 7 (.alt 3 (.last 17 (.last 18 (.last 19 (.loc 20 (.loc 21 (.last 22 (.loc 23 .done))))))) (.last 17 (.last 3 (.last 18 (.last 19 (.loc 20 (.loc 21 (.last 22 (.loc 23 .done))))))))) (.last 17 (.alt 3 (.last 7 (.last 18 (.last 19 (.loc 20 (.loc 21 (.last 22 (.loc 23 .done))))))) (.last 7 (.last 3 (.last 18 (.last 19 (.loc 20 (.loc 21 (.last 22 (.loc 23 .done)))))))))))) (.alt 7 (.alt 2 (.alt 3 (.last 17 (.last 18 (.last 19 (.loc 20 (.loc 21 (.last 22 (.loc 23 .done))))))) (.last 17 (.last 3 (.last 18 (.last 19 (.loc 20 (.loc 21 (.last 22 (.loc 23 .done))))))))) (.last 17 (.last 2 (.last 3 (.last 18 (.last 19 (.loc 20 (.loc 21 (.last 22 (.loc 23 .done)))))))))) (.last 17 (.alt 2 (.alt 3 (.last 7 (.last 18 (.last 19 (.loc 20 (.loc 21 (.last 22 (.loc 23 .done))))))) (.last 7 (.last 3 (.last 18 (.last 19 (.loc 20 (.loc 21 (.last 22 (.loc 23 .done))))))))) (.last 7 (.last 2 (.last 3 (.last 18 (.last 19 (.loc 20 (.loc 21 (.last 22 (.loc 23 .done))))))))))))) (.last 17 (.alt 2 (.alt 3 (.last 5 (.last 7 (.last 18 (.last 19 (.loc 20 (.loc 21 (.last 22 (.loc 23 .done)))))))) (.last 5 (.alt 3 (.last 7 (.last 18 (.last 19 (.loc 20 (.loc 21 (.last 22 (.loc 23 .done))))))) (.last 7 (.last 3 (.last 18 (.last 19 (.loc 20 (.loc 21 (.last 22 (.loc 23 .done))))))))))) (.last 5 (.alt 2 (.alt 3 (.last 7 (.last 18 (.last 19 (.loc 20 (.loc 21 (.last 22 (.loc 23 .done))))))) (.last 7 (.last 3 (.last 18 (.last 19 (.loc 20 (.loc 21 (.last 22 (.loc 23 .done))))))))) (.last 7 (.last 2 (.last 3 (.last 18 (.last 19 (.loc 20 (.loc 21 (.last 22 (.loc 23 .done))))))))))))))))))))))))))))) .leaf)))
theorem ref22_Move.eq (m0 : Option Addr) (game1 : Array Value) (number2 : Int) (x3 : Array Value) (nonce4 : Array Value) (R : Value → Heap → Prop) (h : Heap) : ref22_Move.body m0 game1 number2 x3 nonce4 R h = evFn Tryz.prog Tryz.f13 ref22_Move.ann [.pointer m0, .agg game1, .int .i64 number2, .agg x3, .agg nonce4] R h := by kernel_rfl
theorem ref22_Move.calls {m0 : Option Addr} {game1 : Array Value} {number2 : Int} {x3 : Array Value} {nonce4 : Array Value} {R : Value → Heap → Prop} {h : Heap} (H : ref22_Move.body m0 game1 number2 x3 nonce4 R h) : HC Tryz.prog F.ref22_Move #[.pointer m0, .agg game1, .int .i64 number2, .agg x3, .agg nonce4] R h :=
  evFn_sound mixed Tryz.func13 (by kernel_rfl) (ref22_Move.eq m0 game1 number2 x3 nonce4 R h ▸ H)

/-! zugzwang/zugzwanglaw22.CommitSmall -/
def law22_CommitSmall.body  (R : Value → Heap → Prop) (h : Heap) : Prop :=
  newSlK h 12 #[(.int .i64 ((-9223372036854775808))), (.int .i64 ((-1))), .int .i64 0, .int .i64 1, .int .i64 2, .int .i64 63, .int .i64 64, .int .i64 255, .int .i64 256, .int .i64 4294967295, .int .i64 4294967296, .int .i64 9223372036854775807] T.int (fun v1 h =>
  loopW (fun X_3 (s_2 : Int) (h : Heap) =>
  if (decide (s_2 < ((v1.n : Int)))) = true then
  loopW (fun X_5 (s_4 : Int) (h : Heap) =>
  if (decide (s_4 < ((v1.n : Int)))) = true then
  buildK Tryz.prog (Instr.build T.api_Tag #[(0, (.int .u8 1))]) (fun (v6 : Array Value) =>
  buildK Tryz.prog (Instr.build T.api_Tag #[(0, (.int .u8 2))]) (fun (v7 : Array Value) =>
  idxK v1 s_2 (sizeOfT Tryz.prog T.int) (fun (a_8 : Addr) =>
  idxK v1 s_4 (sizeOfT Tryz.prog T.int) (fun (a_9 : Addr) =>
  idxK v1 s_4 (sizeOfT Tryz.prog T.int) (fun (a_10 : Addr) =>
  idxK v1 s_2 (sizeOfT Tryz.prog T.int) (fun (a_11 : Addr) =>
  buildK Tryz.prog (Instr.build T.api_Tag #[(0, (.int .u8 3))]) (fun (v12 : Array Value) =>
  loadK (.int .i64) h ((some a_8)) (fun (v13 : Int) =>
  loadK (.int .i64) h ((some a_9)) (fun (v14 : Int) =>
  loadK (.int .i64) h ((some a_10)) (fun (v15 : Int) =>
  loadK (.int .i64) h ((some a_11)) (fun (v16 : Int) =>
  buildK Tryz.prog (Instr.build T.api_Move #[(0, (.int .i64 v16)), (1, (.int .i64 5))]) (fun (v17 : Array Value) =>
  callK Tryz.prog .bool F.law22_tells #[.agg v6, .agg v7, .int .i64 v13, .int .i64 v14, .int .i64 v15, .agg v17, .agg v12] (fun (v18 : Bool) h =>
  if (!v18) = true then
  R (.bool false) h
  else
  buildK Tryz.prog (Instr.build T.api_Tag #[(0, (.int .u8 1))]) (fun (v19 : Array Value) =>
  buildK Tryz.prog (Instr.build T.api_Tag #[]) (fun (v20 : Array Value) =>
  idxK v1 s_4 (sizeOfT Tryz.prog T.int) (fun (a_21 : Addr) =>
  idxK v1 s_2 (sizeOfT Tryz.prog T.int) (fun (a_22 : Addr) =>
  idxK v1 s_4 (sizeOfT Tryz.prog T.int) (fun (a_23 : Addr) =>
  buildK Tryz.prog (Instr.build T.api_Tag #[]) (fun (v24 : Array Value) =>
  loadK (.int .i64) h ((some a_21)) (fun (v25 : Int) =>
  loadK (.int .i64) h ((some a_22)) (fun (v26 : Int) =>
  loadK (.int .i64) h ((some a_23)) (fun (v27 : Int) =>
  buildK Tryz.prog (Instr.build T.api_Move #[(0, (.int .i64 1)), (1, (.int .i64 v27))]) (fun (v28 : Array Value) =>
  callK Tryz.prog .bool F.law22_tells #[.agg v19, .agg v20, .int .i64 v25, .int .i64 0, .int .i64 v26, .agg v28, .agg v24] (fun (v29 : Bool) h =>
  if (!v29) = true then
  R (.bool false) h
  else
  buildK Tryz.prog (Instr.build T.api_Tag #[]) (fun (v30 : Array Value) =>
  buildK Tryz.prog (Instr.build T.api_Tag #[(0, (.int .u8 4))]) (fun (v31 : Array Value) =>
  idxK v1 s_2 (sizeOfT Tryz.prog T.int) (fun (a_32 : Addr) =>
  idxK v1 s_4 (sizeOfT Tryz.prog T.int) (fun (a_33 : Addr) =>
  buildK Tryz.prog (Instr.build T.api_Tag #[(31, (.int .u8 9))]) (fun (v34 : Array Value) =>
  loadK (.int .i64) h ((some a_32)) (fun (v35 : Int) =>
  loadK (.int .i64) h ((some a_33)) (fun (v36 : Int) =>
  buildK Tryz.prog (Instr.build T.api_Move #[(2, (.int .i64 v36))]) (fun (v37 : Array Value) =>
  callK Tryz.prog .bool F.law22_tells #[.agg v30, .agg v31, .int .i64 1, .int .i64 v35, .int .i64 7, .agg v37, .agg v34] (fun (v38 : Bool) h =>
  if (!v38) = true then
  R (.bool false) h
  else
  X_5 (IntKind.i64.wrap (s_4 + 1)) h) h))))))))) h))))))))))) h))))))))))))
  else
  X_3 (IntKind.i64.wrap (s_2 + 1)) h) 0 h
  else
  loopW (fun X_40 (s_39 : Int) (h : Heap) =>
  if (decide (s_39 < 3)) = true then
  joinW (fun (s_41 : Int) h =>
  if (!((s_41 == 3) == (decide (s_39 > 0)))) = true then
  R (.bool false) h
  else
  if (!((s_41 == 0) == (decide (s_39 ≤ 0)))) = true then
  R (.bool false) h
  else
  X_40 (IntKind.i64.wrap (s_39 + 1)) h)
  (fun J_42 =>
  buildK Tryz.prog (Instr.build T.api_Tag #[]) (fun (v43 : Array Value) =>
  ((callK Tryz.prog .ptr F.tags_New #[.bool true, .slice none 0 0] (fun (v44 : Option Addr) h =>
  ((opK Tryz.prog .slice (Instr.makeSlice T.sl_uint8 (.int .i64 (IntKind.i64.wrap (65500 + s_39))) (.int .i64 (IntKind.i64.wrap (65500 + s_39)))) (fun (v45 : Sl) h =>
  ((newSlK h 1 #[.slice v45.a v45.n v45.c] T.sl_uint8 (fun v46 h =>
  ((callK Tryz.prog (Kd.pair .agg (.int .i64)) F.commit_Cover #[.pointer v44, .agg v43, .slice v46.a v46.n v46.c] (fun (v47 : Array Value × Int) h =>
  newK h (zerosOf Tryz.prog T.api_Tag) T.api_Tag (fun (v48 : Option Addr) h =>
  storeAggK (sizeOfT Tryz.prog T.api_Tag) h v48 v47.1 (fun h =>
  J_42 v47.2 h))) h) ∧
  (newK h (zerosOf Tryz.prog T.api_Tag) T.api_Tag (fun (v49 : Option Addr) h =>
  callK Tryz.prog (Kd.pair .agg (.int .i64)) F.commit_Cover #[.pointer v44, .agg v43, .slice v46.a v46.n v46.c] (fun (v50 : Array Value × Int) h =>
  storeAggK (sizeOfT Tryz.prog T.api_Tag) h v49 v50.1 (fun h =>
  J_42 v50.2 h)) h))))) ∧
  (newK h (zerosOf Tryz.prog T.api_Tag) T.api_Tag (fun (v51 : Option Addr) h =>
  newSlK h 1 #[.slice v45.a v45.n v45.c] T.sl_uint8 (fun v52 h =>
  callK Tryz.prog (Kd.pair .agg (.int .i64)) F.commit_Cover #[.pointer v44, .agg v43, .slice v52.a v52.n v52.c] (fun (v53 : Array Value × Int) h =>
  storeAggK (sizeOfT Tryz.prog T.api_Tag) h v51 v53.1 (fun h =>
  J_42 v53.2 h)) h))))) h) ∧
  (newK h (zerosOf Tryz.prog T.api_Tag) T.api_Tag (fun (v54 : Option Addr) h =>
  opK Tryz.prog .slice (Instr.makeSlice T.sl_uint8 (.int .i64 (IntKind.i64.wrap (65500 + s_39))) (.int .i64 (IntKind.i64.wrap (65500 + s_39)))) (fun (v55 : Sl) h =>
  newSlK h 1 #[.slice v55.a v55.n v55.c] T.sl_uint8 (fun v56 h =>
  callK Tryz.prog (Kd.pair .agg (.int .i64)) F.commit_Cover #[.pointer v44, .agg v43, .slice v56.a v56.n v56.c] (fun (v57 : Array Value × Int) h =>
  storeAggK (sizeOfT Tryz.prog T.api_Tag) h v54 v57.1 (fun h =>
  J_42 v57.2 h)) h)) h)))) h) ∧
  (((opK Tryz.prog .slice (Instr.makeSlice T.sl_uint8 (.int .i64 (IntKind.i64.wrap (65500 + s_39))) (.int .i64 (IntKind.i64.wrap (65500 + s_39)))) (fun (v58 : Sl) h =>
  ((callK Tryz.prog .ptr F.tags_New #[.bool true, .slice none 0 0] (fun (v59 : Option Addr) h =>
  ((newSlK h 1 #[.slice v58.a v58.n v58.c] T.sl_uint8 (fun v60 h =>
  ((callK Tryz.prog (Kd.pair .agg (.int .i64)) F.commit_Cover #[.pointer v59, .agg v43, .slice v60.a v60.n v60.c] (fun (v61 : Array Value × Int) h =>
  newK h (zerosOf Tryz.prog T.api_Tag) T.api_Tag (fun (v62 : Option Addr) h =>
  storeAggK (sizeOfT Tryz.prog T.api_Tag) h v62 v61.1 (fun h =>
  J_42 v61.2 h))) h) ∧
  (newK h (zerosOf Tryz.prog T.api_Tag) T.api_Tag (fun (v63 : Option Addr) h =>
  callK Tryz.prog (Kd.pair .agg (.int .i64)) F.commit_Cover #[.pointer v59, .agg v43, .slice v60.a v60.n v60.c] (fun (v64 : Array Value × Int) h =>
  storeAggK (sizeOfT Tryz.prog T.api_Tag) h v63 v64.1 (fun h =>
  J_42 v64.2 h)) h))))) ∧
  (newK h (zerosOf Tryz.prog T.api_Tag) T.api_Tag (fun (v65 : Option Addr) h =>
  newSlK h 1 #[.slice v58.a v58.n v58.c] T.sl_uint8 (fun v66 h =>
  callK Tryz.prog (Kd.pair .agg (.int .i64)) F.commit_Cover #[.pointer v59, .agg v43, .slice v66.a v66.n v66.c] (fun (v67 : Array Value × Int) h =>
  storeAggK (sizeOfT Tryz.prog T.api_Tag) h v65 v67.1 (fun h =>
  J_42 v67.2 h)) h))))) h) ∧
  (((newSlK h 1 #[.slice v58.a v58.n v58.c] T.sl_uint8 (fun v68 h =>
  ((callK Tryz.prog .ptr F.tags_New #[.bool true, .slice none 0 0] (fun (v69 : Option Addr) h =>
  ((callK Tryz.prog (Kd.pair .agg (.int .i64)) F.commit_Cover #[.pointer v69, .agg v43, .slice v68.a v68.n v68.c] (fun (v70 : Array Value × Int) h =>
  newK h (zerosOf Tryz.prog T.api_Tag) T.api_Tag (fun (v71 : Option Addr) h =>
  storeAggK (sizeOfT Tryz.prog T.api_Tag) h v71 v70.1 (fun h =>
  J_42 v70.2 h))) h) ∧
  (newK h (zerosOf Tryz.prog T.api_Tag) T.api_Tag (fun (v72 : Option Addr) h =>
  callK Tryz.prog (Kd.pair .agg (.int .i64)) F.commit_Cover #[.pointer v69, .agg v43, .slice v68.a v68.n v68.c] (fun (v73 : Array Value × Int) h =>
  storeAggK (sizeOfT Tryz.prog T.api_Tag) h v72 v73.1 (fun h =>
  J_42 v73.2 h)) h)))) h) ∧
  (newK h (zerosOf Tryz.prog T.api_Tag) T.api_Tag (fun (v74 : Option Addr) h =>
  callK Tryz.prog .ptr F.tags_New #[.bool true, .slice none 0 0] (fun (v75 : Option Addr) h =>
  callK Tryz.prog (Kd.pair .agg (.int .i64)) F.commit_Cover #[.pointer v75, .agg v43, .slice v68.a v68.n v68.c] (fun (v76 : Array Value × Int) h =>
  storeAggK (sizeOfT Tryz.prog T.api_Tag) h v74 v76.1 (fun h =>
  J_42 v76.2 h)) h) h))))) ∧
  (newK h (zerosOf Tryz.prog T.api_Tag) T.api_Tag (fun (v77 : Option Addr) h =>
  ((callK Tryz.prog .ptr F.tags_New #[.bool true, .slice none 0 0] (fun (v78 : Option Addr) h =>
  newSlK h 1 #[.slice v58.a v58.n v58.c] T.sl_uint8 (fun v79 h =>
  callK Tryz.prog (Kd.pair .agg (.int .i64)) F.commit_Cover #[.pointer v78, .agg v43, .slice v79.a v79.n v79.c] (fun (v80 : Array Value × Int) h =>
  storeAggK (sizeOfT Tryz.prog T.api_Tag) h v77 v80.1 (fun h =>
  J_42 v80.2 h)) h)) h) ∧
  (newSlK h 1 #[.slice v58.a v58.n v58.c] T.sl_uint8 (fun v81 h =>
  callK Tryz.prog .ptr F.tags_New #[.bool true, .slice none 0 0] (fun (v82 : Option Addr) h =>
  callK Tryz.prog (Kd.pair .agg (.int .i64)) F.commit_Cover #[.pointer v82, .agg v43, .slice v81.a v81.n v81.c] (fun (v83 : Array Value × Int) h =>
  storeAggK (sizeOfT Tryz.prog T.api_Tag) h v77 v83.1 (fun h =>
  J_42 v83.2 h)) h) h))))))))) h) ∧
  (newK h (zerosOf Tryz.prog T.api_Tag) T.api_Tag (fun (v84 : Option Addr) h =>
  ((callK Tryz.prog .ptr F.tags_New #[.bool true, .slice none 0 0] (fun (v85 : Option Addr) h =>
  opK Tryz.prog .slice (Instr.makeSlice T.sl_uint8 (.int .i64 (IntKind.i64.wrap (65500 + s_39))) (.int .i64 (IntKind.i64.wrap (65500 + s_39)))) (fun (v86 : Sl) h =>
  newSlK h 1 #[.slice v86.a v86.n v86.c] T.sl_uint8 (fun v87 h =>
  callK Tryz.prog (Kd.pair .agg (.int .i64)) F.commit_Cover #[.pointer v85, .agg v43, .slice v87.a v87.n v87.c] (fun (v88 : Array Value × Int) h =>
  storeAggK (sizeOfT Tryz.prog T.api_Tag) h v84 v88.1 (fun h =>
  J_42 v88.2 h)) h)) h) h) ∧
  (opK Tryz.prog .slice (Instr.makeSlice T.sl_uint8 (.int .i64 (IntKind.i64.wrap (65500 + s_39))) (.int .i64 (IntKind.i64.wrap (65500 + s_39)))) (fun (v89 : Sl) h =>
  ((callK Tryz.prog .ptr F.tags_New #[.bool true, .slice none 0 0] (fun (v90 : Option Addr) h =>
  newSlK h 1 #[.slice v89.a v89.n v89.c] T.sl_uint8 (fun v91 h =>
  callK Tryz.prog (Kd.pair .agg (.int .i64)) F.commit_Cover #[.pointer v90, .agg v43, .slice v91.a v91.n v91.c] (fun (v92 : Array Value × Int) h =>
  storeAggK (sizeOfT Tryz.prog T.api_Tag) h v84 v92.1 (fun h =>
  J_42 v92.2 h)) h)) h) ∧
  (newSlK h 1 #[.slice v89.a v89.n v89.c] T.sl_uint8 (fun v93 h =>
  callK Tryz.prog .ptr F.tags_New #[.bool true, .slice none 0 0] (fun (v94 : Option Addr) h =>
  callK Tryz.prog (Kd.pair .agg (.int .i64)) F.commit_Cover #[.pointer v94, .agg v43, .slice v93.a v93.n v93.c] (fun (v95 : Array Value × Int) h =>
  storeAggK (sizeOfT Tryz.prog T.api_Tag) h v84 v95.1 (fun h =>
  J_42 v95.2 h)) h) h)))) h)))))))))
  else
  newSlK h 1 #[.slice none 0 0] T.sl_uint8 (fun v96 h =>
  newSlK h 2 #[.slice none 0 0, .slice none 0 0] T.sl_uint8 (fun v97 h =>
  newSlK h 2 #[.int .u8 1, .int .u8 2] T.uint8 (fun v98 h =>
  newSlK h 1 #[.slice v98.a v98.n v98.c] T.sl_uint8 (fun v99 h =>
  newSlK h 1 #[.int .u8 1] T.uint8 (fun v100 h =>
  newSlK h 1 #[.int .u8 2] T.uint8 (fun v101 h =>
  newSlK h 2 #[.slice v100.a v100.n v100.c, .slice v101.a v101.n v101.c] T.sl_uint8 (fun v102 h =>
  newSlK h 2 #[.int .u8 1, .int .u8 2] T.uint8 (fun v103 h =>
  newSlK h 2 #[.slice v103.a v103.n v103.c, .slice none 0 0] T.sl_uint8 (fun v104 h =>
  newSlK h 2 #[.int .u8 1, .int .u8 2] T.uint8 (fun v105 h =>
  newSlK h 2 #[.slice none 0 0, .slice v105.a v105.n v105.c] T.sl_uint8 (fun v106 h =>
  newSlK h 4 #[.int .u8 0, .int .u8 0, .int .u8 0, .int .u8 0] T.uint8 (fun v107 h =>
  newSlK h 1 #[.slice v107.a v107.n v107.c] T.sl_uint8 (fun v108 h =>
  newSlK h 1 #[.int .u8 0] T.uint8 (fun v109 h =>
  newSlK h 1 #[.slice v109.a v109.n v109.c] T.sl_uint8 (fun v110 h =>
  opK Tryz.prog .slice (Instr.makeSlice T.sl_uint8 (.int .i64 40) (.int .i64 40)) (fun (v111 : Sl) h =>
  newSlK h 1 #[.slice v111.a v111.n v111.c] T.sl_uint8 (fun v112 h =>
  newSlK h 10 #[.slice none 0 0, .slice v96.a v96.n v96.c, .slice v97.a v97.n v97.c, .slice v99.a v99.n v99.c, .slice v102.a v102.n v102.c, .slice v104.a v104.n v104.c, .slice v106.a v106.n v106.c, .slice v108.a v108.n v108.c, .slice v110.a v110.n v110.c, .slice v112.a v112.n v112.c] T.sl_sl_uint8 (fun v113 h =>
  loopW (fun X_115 (s_114 : Int) (h : Heap) =>
  if (decide (s_114 < ((v113.n : Int)))) = true then
  buildK Tryz.prog (Instr.build T.api_Tag #[]) (fun (v116 : Array Value) =>
  buildK Tryz.prog (Instr.build T.api_Tag #[(0, (.int .u8 (IntKind.u8.wrap s_114)))]) (fun (v117 : Array Value) =>
  idxK v113 s_114 (sizeOfT Tryz.prog T.sl_sl_uint8) (fun (a_118 : Addr) =>
  loadK .slice h ((some a_118)) (fun (v119 : Sl) =>
  callK Tryz.prog .bool F.law22_CommitCovers #[.agg v116, .agg v117, .slice v119.a v119.n v119.c] (fun (v120 : Bool) h =>
  if (!v120) = true then
  R (.bool false) h
  else
  buildK Tryz.prog (Instr.build T.api_Tag #[(0, (.int .u8 7))]) (fun (v121 : Array Value) =>
  buildK Tryz.prog (Instr.build T.api_Tag #[]) (fun (v122 : Array Value) =>
  idxK v113 s_114 (sizeOfT Tryz.prog T.sl_sl_uint8) (fun (a_123 : Addr) =>
  loadK .slice h ((some a_123)) (fun (v124 : Sl) =>
  callK Tryz.prog .bool F.law22_CommitCovers #[.agg v121, .agg v122, .slice v124.a v124.n v124.c] (fun (v125 : Bool) h =>
  if (!v125) = true then
  R (.bool false) h
  else
  X_115 (IntKind.i64.wrap (s_114 + 1)) h) h))))) h))))
  else
  callK Tryz.prog .bool F.law22_none #[] (fun (v126 : Bool) h =>
  if v126 = true then
  callK Tryz.prog .bool F.law22_awake #[] (fun (v127 : Bool) h =>
  R (.bool v127) h) h
  else
  R (.bool false) h) h) 0 h))) h)))))))))))))))) ((-1)) h) 0 h)
def law22_CommitSmall.ann : Ann := (.seq .leaf (.seq .leaf (.seq (.seq .leaf (.block (.loop [(2, (.int .i64))] (.seq (.seq .leaf (.cond .leaf .leaf)) (.seq (.block (.seq .leaf (.block (.loop [(3, (.int .i64))] (.seq (.seq .leaf (.cond .leaf .leaf)) (.seq (.block (.seq (.any (.loc 0 (.loc 1 (.loc 2 (.loc 3 (.loc 4 (.loc 6 (.loc 7 (.loc 8 (.loc 10 (.loc 11 (.loc 12 (.loc 14 (.loc 15 (.loc 16 (.loc 19 (.st 5 288230376150663168 (.st 9 288230376150663168 (.st 13 288230376150663168 (.st 17 288230376150925312 (.loc 18 (.last 20 (.loc 21 (.loc 22 (.locA 23 (.loc 24 (.loc 25 (.loc 26 (.loc 27 (.loc 28 (.loc 29 (.loc 30 (.loc 31 (.loc 32 (.loc 33 (.loc 34 (.loc 35 (.loc 36 (.loc 37 (.loc 38 (.loc 39 (.loc 40 (.loc 41 (.loc 42 (.loc 43 (.loc 44 (.loc 45 (.loc 46 (.loc 47 (.loc 48 (.loc 49 (.loc 50 (.loc 51 (.loc 52 (.loc 53 (.loc 54 (.loc 55 (.loc 56 (.loc 57 .done)))))))))))))))))))))))))))))))))) (.loc 24 (.loc 25 (.loc 26 (.loc 27 (.loc 29 (.loc 30 (.loc 31 (.loc 33 (.loc 34 (.loc 35 (.loc 38 (.st 28 288229826395897856 (.st 32 288229826395897856 (.st 36 288229963834851328 (.loc 37 (.last 39 (.loc 40 (.loc 41 (.loc 42 (.locA 43 (.loc 44 (.loc 45 (.loc 46 (.loc 47 (.loc 48 (.loc 49 (.loc 50 (.loc 51 (.loc 52 (.loc 53 (.loc 54 (.loc 55 (.loc 56 (.loc 57 .done)))))))))))))) (.loc 44 (.loc 45 (.loc 46 (.loc 47 (.loc 49 (.loc 50 (.loc 51 (.loc 54 (.st 48 252201579132747776 (.st 52 261208778387488768 (.loc 53 (.last 55 (.loc 56 (.loc 57 .done))))))))))))))))))))))))))))))))))))))))))))))))))))))))))) (.cond (.seq .leaf .leaf) .leaf))) .leaf)))))) .leaf))))) (.seq (.seq .leaf (.block (.loop [(4, (.int .i64))] (.seq (.seq .leaf (.cond .leaf .leaf)) (.seq (.block (.join [(6, (.int .i64))] (.any (.loc 1 (.loc 2 (.loc 3 (.alt 0 (.alt 4 (.alt 5 (.alt 6 (.loc 7 (.loc 8 (.loc 9 (.last 10 (.last 11 (.loc 12 .done)))))) (.last 10 (.last 6 (.loc 7 (.loc 8 (.loc 9 (.last 11 (.loc 12 .done)))))))) (.last 10 (.last 5 (.last 6 (.loc 7 (.loc 8 (.loc 9 (.last 11 (.loc 12 .done))))))))) (.last 10 (.last 4 (.last 5 (.last 6 (.loc 7 (.loc 8 (.loc 9 (.last 11 (.loc 12 .done)))))))))) (.alt 4 (.alt 0 (.alt 5 (.alt 6 (.loc 7 (.loc 8 (.loc 9 (.last 10 (.last 11 (.loc 12 .done)))))) (.last 10 (.last 6 (.loc 7 (.loc 8 (.loc 9 (.last 11 (.loc 12 .done)))))))) (.last 10 (.last 5 (.last 6 (.loc 7 (.loc 8 (.loc 9 (.last 11 (.loc 12 .done))))))))) (.alt 5 (.alt 0 (.alt 6 (.loc 7 (.loc 8 (.loc 9 (.last 10 (.last 11 (.loc 12 .done)))))) (.last 10 (.last 6 (.loc 7 (.loc 8 (.loc 9 (.last 11 (.loc 12 .done)))))))) (.last 10 (.last 0 (.last 6 (.loc 7 (.loc 8 (.loc 9 (.last 11 (.loc 12 .done))))))))) (.last 10 (.alt 0 (.last 5 (.last 6 (.loc 7 (.loc 8 (.loc 9 (.last 11 (.loc 12 .done))))))) (.last 5 (.last 0 (.last 6 (.loc 7 (.loc 8 (.loc 9 (.last 11 (.loc 12 .done)))))))))))) (.last 10 (.alt 0 (.last 4 (.last 5 (.last 6 (.loc 7 (.loc 8 (.loc 9 (.last 11 (.loc 12 .done)))))))) (.last 4 (.alt 0 (.last 5 (.last 6 (.loc 7 (.loc 8 (.loc 9 (.last 11 (.loc 12 .done))))))) (.last 5 (.last 0 (.last 6 (.loc 7 (.loc 8 (.loc 9 (.last 11 (.loc 12 .done)))))))))))))))))) (.seq .leaf (.cond (.seq .leaf .leaf) .leaf)))) .leaf))))) (.seq .leaf (.seq (.seq .leaf (.block (.loop [(8, (.int .i64))] (.seq (.seq .leaf (.cond .leaf .leaf)) (.seq (.block (.seq .leaf (.cond (.seq .leaf .leaf) .leaf))) .leaf))))) (.seq .leaf .leaf)))))))
theorem law22_CommitSmall.eq  (R : Value → Heap → Prop) (h : Heap) : law22_CommitSmall.body  R h = evFn Tryz.prog Tryz.f3 law22_CommitSmall.ann [] R h := by kernel_rfl
theorem law22_CommitSmall.calls  {R : Value → Heap → Prop} {h : Heap} (H : law22_CommitSmall.body  R h) : HC Tryz.prog F.law22_CommitSmall #[] R h :=
  evFn_sound mixed Tryz.func3 (by kernel_rfl) (law22_CommitSmall.eq  R h ▸ H)

/-! zugzwang/zugzwanglaw22.none -/
def law22_none.body  (R : Value → Heap → Prop) (h : Heap) : Prop :=
  buildK Tryz.prog (Instr.build T.tags_Maker #[]) (fun (v1 : Array Value) =>
  newK h v1 T.tags_Maker (fun (v2 : Option Addr) h =>
  newSlK h 2 #[.pointer none, .pointer v2] T.p_tags_Maker (fun v3 h =>
  loopW (fun X_5 (s_4 : Int) (h : Heap) =>
  if (decide (s_4 < 2)) = true then
  joinW (fun (s_6 : Option Addr × Int) h =>
  idxK v3 s_4 (sizeOfT Tryz.prog T.p_tags_Maker) (fun (a_7 : Addr) =>
  loadK .ptr h ((some a_7)) (fun (v8 : Option Addr) =>
  buildK Tryz.prog (Instr.build T.api_Tag #[]) (fun (v9 : Array Value) =>
  buildK Tryz.prog (Instr.build T.api_Tag #[]) (fun (v10 : Array Value) =>
  callK Tryz.prog (Kd.pair .agg (.int .i64)) F.commit_Coin #[.pointer v8, .agg v9, .int .i64 9, .int .i64 9, .agg v10] (fun (v11 : Array Value × Int) h =>
  newK h (zerosOf Tryz.prog T.api_Tag) T.api_Tag (fun (b_12 : Option Addr) h =>
  storeAggK (sizeOfT Tryz.prog T.api_Tag) h b_12 v11.1 (fun h =>
  idxK v3 s_4 (sizeOfT Tryz.prog T.p_tags_Maker) (fun (a_13 : Addr) =>
  loadK .ptr h ((some a_13)) (fun (v14 : Option Addr) =>
  buildK Tryz.prog (Instr.build T.api_Tag #[]) (fun (v15 : Array Value) =>
  buildK Tryz.prog (Instr.build T.api_Move #[]) (fun (v16 : Array Value) =>
  buildK Tryz.prog (Instr.build T.api_Tag #[]) (fun (v17 : Array Value) =>
  callK Tryz.prog (Kd.pair .agg (.int .i64)) F.commit_Move #[.pointer v14, .agg v15, (.int .i64 ((-1))), .agg v16, .agg v17] (fun (v18 : Array Value × Int) h =>
  newK h (zerosOf Tryz.prog T.api_Tag) T.api_Tag (fun (c_19 : Option Addr) h =>
  storeAggK (sizeOfT Tryz.prog T.api_Tag) h c_19 v18.1 (fun h =>
  loadAggK (sizeOfT Tryz.prog T.api_Tag) h s_6.1 (fun (v20 : Array Value) =>
  loadAggK (sizeOfT Tryz.prog T.api_Tag) h b_12 (fun (v21 : Array Value) =>
  eqK Tryz.prog (binSem .neq T.api_Tag (.tmp 48) (.tmp 49) (.agg v20) (.agg v21)) (fun (v22 : Bool) =>
  ((if v22 = true then
  R (.bool false) h
  else
  loadAggK (sizeOfT Tryz.prog T.api_Tag) h b_12 (fun (v23 : Array Value) =>
  loadAggK (sizeOfT Tryz.prog T.api_Tag) h c_19 (fun (v24 : Array Value) =>
  eqK Tryz.prog (binSem .neq T.api_Tag (.tmp 52) (.tmp 53) (.agg v23) (.agg v24)) (fun (v25 : Bool) =>
  if v25 = true then
  R (.bool false) h
  else
  buildK Tryz.prog (Instr.build T.api_Tag #[]) (fun (v26 : Array Value) =>
  loadAggK (sizeOfT Tryz.prog T.api_Tag) h c_19 (fun (v27 : Array Value) =>
  eqK Tryz.prog (binSem .neq T.api_Tag (.tmp 57) (.tmp 58) (.agg v27) (.agg v26)) (fun (v28 : Bool) =>
  if v28 = true then
  R (.bool false) h
  else
  if (s_6.2 != 1) = true then
  R (.bool false) h
  else
  if (v11.2 != 1) = true then
  R (.bool false) h
  else
  if (v18.2 != 1) = true then
  R (.bool false) h
  else
  idxK v3 s_4 (sizeOfT Tryz.prog T.p_tags_Maker) (fun (a_29 : Addr) =>
  loadK .ptr h ((some a_29)) (fun (v30 : Option Addr) =>
  loadAggK (sizeOfT Tryz.prog T.api_Tag) h s_6.1 (fun (v31 : Array Value) =>
  loadAggK (sizeOfT Tryz.prog T.api_Tag) h s_6.1 (fun (v32 : Array Value) =>
  callK Tryz.prog (.int .i64) F.commit_Open #[.pointer v30, .agg v31, .agg v32, .slice none 0 0] (fun (v33 : Int) h =>
  if (v33 != 1) = true then
  R (.bool false) h
  else
  idxK v3 s_4 (sizeOfT Tryz.prog T.p_tags_Maker) (fun (a_34 : Addr) =>
  loadK .ptr h ((some a_34)) (fun (v35 : Option Addr) =>
  loadAggK (sizeOfT Tryz.prog T.api_Tag) h s_6.1 (fun (v36 : Array Value) =>
  loadAggK (sizeOfT Tryz.prog T.api_Tag) h s_6.1 (fun (v37 : Array Value) =>
  loadAggK (sizeOfT Tryz.prog T.api_Tag) h s_6.1 (fun (v38 : Array Value) =>
  callK Tryz.prog (.int .i64) F.commit_OpenCoin #[.pointer v35, .agg v36, .agg v37, .int .i64 0, .int .i64 0, .agg v38] (fun (v39 : Int) h =>
  if (v39 != 1) = true then
  R (.bool false) h
  else
  idxK v3 s_4 (sizeOfT Tryz.prog T.p_tags_Maker) (fun (a_40 : Addr) =>
  buildK Tryz.prog (Instr.build T.api_Move #[]) (fun (v41 : Array Value) =>
  loadK .ptr h ((some a_40)) (fun (v42 : Option Addr) =>
  loadAggK (sizeOfT Tryz.prog T.api_Tag) h s_6.1 (fun (v43 : Array Value) =>
  loadAggK (sizeOfT Tryz.prog T.api_Tag) h s_6.1 (fun (v44 : Array Value) =>
  loadAggK (sizeOfT Tryz.prog T.api_Tag) h s_6.1 (fun (v45 : Array Value) =>
  callK Tryz.prog (.int .i64) F.commit_OpenMove #[.pointer v42, .agg v43, .agg v44, .int .i64 0, .agg v41, .agg v45] (fun (v46 : Int) h =>
  if (v46 != 1) = true then
  R (.bool false) h
  else
  X_5 (IntKind.i64.wrap (s_4 + 1)) h) h))))))) h)))))) h))))))))))) ∧
  (if v22 = true then
  R (.bool false) h
  else
  loadAggK (sizeOfT Tryz.prog T.api_Tag) h c_19 (fun (v47 : Array Value) =>
  loadAggK (sizeOfT Tryz.prog T.api_Tag) h b_12 (fun (v48 : Array Value) =>
  eqK Tryz.prog (binSem .neq T.api_Tag (.tmp 52) (.tmp 53) (.agg v48) (.agg v47)) (fun (v49 : Bool) =>
  if v49 = true then
  R (.bool false) h
  else
  buildK Tryz.prog (Instr.build T.api_Tag #[]) (fun (v50 : Array Value) =>
  loadAggK (sizeOfT Tryz.prog T.api_Tag) h c_19 (fun (v51 : Array Value) =>
  eqK Tryz.prog (binSem .neq T.api_Tag (.tmp 57) (.tmp 58) (.agg v51) (.agg v50)) (fun (v52 : Bool) =>
  if v52 = true then
  R (.bool false) h
  else
  if (s_6.2 != 1) = true then
  R (.bool false) h
  else
  if (v11.2 != 1) = true then
  R (.bool false) h
  else
  if (v18.2 != 1) = true then
  R (.bool false) h
  else
  idxK v3 s_4 (sizeOfT Tryz.prog T.p_tags_Maker) (fun (a_53 : Addr) =>
  loadK .ptr h ((some a_53)) (fun (v54 : Option Addr) =>
  loadAggK (sizeOfT Tryz.prog T.api_Tag) h s_6.1 (fun (v55 : Array Value) =>
  loadAggK (sizeOfT Tryz.prog T.api_Tag) h s_6.1 (fun (v56 : Array Value) =>
  callK Tryz.prog (.int .i64) F.commit_Open #[.pointer v54, .agg v55, .agg v56, .slice none 0 0] (fun (v57 : Int) h =>
  if (v57 != 1) = true then
  R (.bool false) h
  else
  idxK v3 s_4 (sizeOfT Tryz.prog T.p_tags_Maker) (fun (a_58 : Addr) =>
  loadK .ptr h ((some a_58)) (fun (v59 : Option Addr) =>
  loadAggK (sizeOfT Tryz.prog T.api_Tag) h s_6.1 (fun (v60 : Array Value) =>
  loadAggK (sizeOfT Tryz.prog T.api_Tag) h s_6.1 (fun (v61 : Array Value) =>
  loadAggK (sizeOfT Tryz.prog T.api_Tag) h s_6.1 (fun (v62 : Array Value) =>
  callK Tryz.prog (.int .i64) F.commit_OpenCoin #[.pointer v59, .agg v60, .agg v61, .int .i64 0, .int .i64 0, .agg v62] (fun (v63 : Int) h =>
  if (v63 != 1) = true then
  R (.bool false) h
  else
  idxK v3 s_4 (sizeOfT Tryz.prog T.p_tags_Maker) (fun (a_64 : Addr) =>
  buildK Tryz.prog (Instr.build T.api_Move #[]) (fun (v65 : Array Value) =>
  loadK .ptr h ((some a_64)) (fun (v66 : Option Addr) =>
  loadAggK (sizeOfT Tryz.prog T.api_Tag) h s_6.1 (fun (v67 : Array Value) =>
  loadAggK (sizeOfT Tryz.prog T.api_Tag) h s_6.1 (fun (v68 : Array Value) =>
  loadAggK (sizeOfT Tryz.prog T.api_Tag) h s_6.1 (fun (v69 : Array Value) =>
  callK Tryz.prog (.int .i64) F.commit_OpenMove #[.pointer v66, .agg v67, .agg v68, .int .i64 0, .agg v65, .agg v69] (fun (v70 : Int) h =>
  if (v70 != 1) = true then
  R (.bool false) h
  else
  X_5 (IntKind.i64.wrap (s_4 + 1)) h) h))))))) h)))))) h)))))))))))))))))) h)))))))) h)))))
  (fun J_71 =>
  idxK v3 s_4 (sizeOfT Tryz.prog T.p_tags_Maker) (fun (a_72 : Addr) =>
  buildK Tryz.prog (Instr.build T.api_Tag #[(0, (.int .u8 1))]) (fun (v73 : Array Value) =>
  loadK .ptr h ((some a_72)) (fun (v74 : Option Addr) =>
  ((opK Tryz.prog .slice (Instr.makeSlice T.sl_uint8 (.int .i64 131072) (.int .i64 131072)) (fun (v75 : Sl) h =>
  ((newSlK h 1 #[.slice v75.a v75.n v75.c] T.sl_uint8 (fun v76 h =>
  ((callK Tryz.prog (Kd.pair .agg (.int .i64)) F.commit_Cover #[.pointer v74, .agg v73, .slice v76.a v76.n v76.c] (fun (v77 : Array Value × Int) h =>
  newK h (zerosOf Tryz.prog T.api_Tag) T.api_Tag (fun (a_78 : Option Addr) h =>
  storeAggK (sizeOfT Tryz.prog T.api_Tag) h a_78 v77.1 (fun h =>
  J_71 (a_78, v77.2) h))) h) ∧
  (newK h (zerosOf Tryz.prog T.api_Tag) T.api_Tag (fun (a_79 : Option Addr) h =>
  callK Tryz.prog (Kd.pair .agg (.int .i64)) F.commit_Cover #[.pointer v74, .agg v73, .slice v76.a v76.n v76.c] (fun (v80 : Array Value × Int) h =>
  storeAggK (sizeOfT Tryz.prog T.api_Tag) h a_79 v80.1 (fun h =>
  J_71 (a_79, v80.2) h)) h))))) ∧
  (newK h (zerosOf Tryz.prog T.api_Tag) T.api_Tag (fun (a_81 : Option Addr) h =>
  newSlK h 1 #[.slice v75.a v75.n v75.c] T.sl_uint8 (fun v82 h =>
  callK Tryz.prog (Kd.pair .agg (.int .i64)) F.commit_Cover #[.pointer v74, .agg v73, .slice v82.a v82.n v82.c] (fun (v83 : Array Value × Int) h =>
  storeAggK (sizeOfT Tryz.prog T.api_Tag) h a_81 v83.1 (fun h =>
  J_71 (a_81, v83.2) h)) h))))) h) ∧
  (newK h (zerosOf Tryz.prog T.api_Tag) T.api_Tag (fun (a_84 : Option Addr) h =>
  opK Tryz.prog .slice (Instr.makeSlice T.sl_uint8 (.int .i64 131072) (.int .i64 131072)) (fun (v85 : Sl) h =>
  newSlK h 1 #[.slice v85.a v85.n v85.c] T.sl_uint8 (fun v86 h =>
  callK Tryz.prog (Kd.pair .agg (.int .i64)) F.commit_Cover #[.pointer v74, .agg v73, .slice v86.a v86.n v86.c] (fun (v87 : Array Value × Int) h =>
  storeAggK (sizeOfT Tryz.prog T.api_Tag) h a_84 v87.1 (fun h =>
  J_71 (a_84, v87.2) h)) h)) h)))))))
  else
  R (.bool true) h) 0 h)))
def law22_none.ann : Ann := (.seq .leaf (.seq .leaf (.seq (.seq .leaf (.block (.loop [(2, (.int .i64))] (.seq (.seq .leaf (.cond .leaf .leaf)) (.seq (.block (.join [(3, .ptr), (4, (.int .i64))] (.any (.loc 0 (.loc 1 (.loc 2 (.loc 4 (.st 3 14208 (.alt 5 (.alt 6 (.alt 7 (.loc 8 (.loc 9 (.loc 10 (.last 11 (.last 12 (.loc 13 .done)))))) (.last 11 (.last 7 (.loc 8 (.loc 9 (.loc 10 (.last 12 (.loc 13 .done)))))))) (.last 11 (.last 6 (.last 7 (.loc 8 (.loc 9 (.loc 10 (.last 12 (.loc 13 .done))))))))) (.last 11 (.last 5 (.last 6 (.last 7 (.loc 8 (.loc 9 (.loc 10 (.last 12 (.loc 13 .done)))))))))))))))) (.seq .leaf (.seq .leaf (.seq (.any (.st 0 288230376151711740 (.st 1 288230376151711740 (.loc 2 (.loc 3 (.altA 4 (.loc 5 (.loc 6 (.loc 7 (.loc 8 (.loc 9 (.loc 10 (.loc 11 (.loc 12 (.loc 13 (.loc 14 (.loc 15 (.loc 16 (.loc 17 (.loc 18 (.loc 19 (.loc 20 (.loc 21 (.loc 22 (.loc 23 (.loc 24 (.loc 25 (.loc 26 (.loc 27 (.loc 28 (.loc 29 (.loc 30 (.loc 31 (.loc 32 (.loc 33 (.loc 34 (.loc 35 (.loc 36 (.loc 37 (.loc 38 (.loc 39 (.loc 40 (.loc 41 (.loc 42 (.loc 43 (.loc 44 (.loc 45 (.loc 46 (.loc 47 (.loc 48 (.loc 49 (.loc 50 (.loc 51 (.loc 52 (.loc 53 (.loc 54 (.loc 55 (.loc 56 (.loc 57 .done))))))))))))))))))))))))))))))))))))))))))))))))))))) (.st 5 288230376151711680 (.loc 6 (.loc 7 (.loc 8 (.locA 10 (.loc 9 (.loc 11 (.loc 12 (.loc 13 (.loc 14 (.loc 15 (.loc 16 (.loc 17 (.loc 18 (.loc 19 (.loc 20 (.loc 21 (.loc 22 (.loc 23 (.loc 24 (.loc 25 (.loc 26 (.loc 27 (.loc 28 (.loc 29 (.loc 30 (.loc 31 (.loc 32 (.loc 33 (.loc 34 (.loc 35 (.loc 36 (.loc 37 (.loc 38 (.loc 39 (.loc 40 (.loc 41 (.loc 42 (.loc 43 (.loc 44 (.loc 45 (.loc 46 (.loc 47 (.loc 48 (.loc 49 (.loc 50 (.loc 51 (.loc 52 (.loc 53 (.loc 54 (.loc 55 (.loc 56 (.loc 57 .done)))))))))))))))))))))))))))))))))))))))))))))))) (.st 9 288230376151709696 (.loc 11 (.loc 12 (.loc 13 (.locA 14 (.loc 15 (.loc 16 (.loc 17 (.loc 18 (.loc 19 (.loc 20 (.loc 21 (.loc 22 (.loc 23 (.loc 24 (.loc 25 (.loc 26 (.loc 27 (.loc 28 (.loc 29 (.loc 30 (.loc 31 (.loc 32 (.loc 33 (.loc 34 (.loc 35 (.loc 36 (.loc 37 (.loc 38 (.loc 39 (.loc 40 (.loc 41 (.loc 42 (.loc 43 (.loc 44 (.loc 45 (.loc 46 (.loc 47 (.loc 48 (.loc 49 (.loc 50 (.loc 51 (.loc 52 (.loc 53 (.loc 54 (.loc 55 (.loc 56 (.loc 57 .done))))))))))))))))))))))))))))))))))))))))))) (.loc 15 (.loc 16 (.loc 17 (.locA 18 (.loc 19 (.loc 20 (.loc 21 (.loc 22 (.loc 23 (.loc 24 (.loc 25 (.loc 26 (.loc 27 (.loc 28 (.loc 29 (.loc 30 (.loc 31 (.loc 32 (.loc 33 (.loc 34 (.loc 35 (.loc 36 (.loc 37 (.loc 38 (.loc 39 (.loc 40 (.loc 41 (.loc 42 (.loc 43 (.loc 44 (.loc 45 (.loc 46 (.loc 47 (.loc 48 (.loc 49 (.loc 50 (.loc 51 (.loc 52 (.loc 53 (.loc 54 (.loc 55 (.loc 56 (.loc 57 .done))))))))))))))))))))))))))))))))))))))) (.loc 19 (.loc 20 (.loc 21 (.locA 22 (.loc 23 (.loc 24 (.loc 25 (.loc 26 (.loc 27 (.loc 28 (.loc 29 (.loc 30 (.loc 31 (.loc 32 (.loc 33 (.loc 34 (.loc 35 (.loc 36 (.loc 37 (.loc 38 (.loc 39 (.loc 40 (.loc 41 (.loc 42 (.loc 43 (.loc 44 (.loc 45 (.loc 46 (.loc 47 (.loc 48 (.loc 49 (.loc 50 (.loc 51 (.loc 52 (.loc 53 (.loc 54 (.loc 55 (.loc 56 (.loc 57 .done))))))))))))))))))))))))))))))))))) (.loc 23 (.loc 24 (.loc 25 (.locA 26 (.loc 27 (.loc 28 (.loc 29 (.loc 30 (.loc 31 (.loc 32 (.loc 33 (.loc 34 (.loc 35 (.loc 36 (.loc 37 (.loc 38 (.loc 39 (.loc 40 (.loc 41 (.loc 42 (.loc 43 (.loc 44 (.loc 45 (.loc 46 (.loc 47 (.loc 48 (.loc 49 (.loc 50 (.loc 51 (.loc 52 (.loc 53 (.loc 54 (.loc 55 (.loc 56 (.loc 57 .done))))))))))))))))))))))))))))))) (.loc 27 (.loc 28 (.st 29 288230371856744448 (.st 30 288230371856744448 (.st 31 288230371856744448 (.last 32 (.loc 33 (.loc 34 (.loc 35 (.locA 36 (.loc 37 (.loc 38 (.loc 39 (.loc 40 (.loc 41 (.loc 42 (.loc 43 (.loc 44 (.loc 45 (.loc 46 (.loc 47 (.loc 48 (.loc 49 (.loc 50 (.loc 51 (.loc 52 (.loc 53 (.loc 54 (.loc 55 (.loc 56 (.loc 57 .done))))))))))))))))))))) (.loc 37 (.loc 38 (.st 39 288221580058689536 (.st 40 288221580058689536 (.st 41 288221580058689536 (.st 42 288221580058689536 (.last 43 (.loc 44 (.loc 45 (.loc 46 (.locA 47 (.loc 48 (.loc 49 (.loc 50 (.loc 51 (.loc 52 (.loc 53 (.loc 54 (.loc 55 (.loc 56 (.loc 57 .done)))))))))) (.loc 48 (.loc 49 (.loc 53 (.st 50 252201579132747776 (.st 51 252201579132747776 (.st 52 252201579132747776 (.st 54 252201579132747776 (.last 55 (.loc 56 (.loc 57 .done))))))))))))))))))))))))))))))))))))))))))))))))))))) (.lastA 5 (.loc 4 (.loc 6 (.loc 7 (.loc 8 (.loc 9 (.loc 10 (.loc 11 (.loc 12 (.loc 13 (.loc 14 (.loc 15 (.loc 16 (.loc 17 (.loc 18 (.loc 19 (.loc 20 (.loc 21 (.loc 22 (.loc 23 (.loc 24 (.loc 25 (.loc 26 (.loc 27 (.loc 28 (.loc 29 (.loc 30 (.loc 31 (.loc 32 (.loc 33 (.loc 34 (.loc 35 (.loc 36 (.loc 37 (.loc 38 (.loc 39 (.loc 40 (.loc 41 (.loc 42 (.loc 43 (.loc 44 (.loc 45 (.loc 46 (.loc 47 (.loc 48 (.loc 49 (.loc 50 (.loc 51 (.loc 52 (.loc 53 (.loc 54 (.loc 55 (.loc 56 (.loc 57 .done))))))))))))))))))))))))))))))))))))))))))))))))))))) (.st 4 288230376151711680 (.loc 6 (.loc 7 (.loc 8 (.locA 10 (.loc 9 (.loc 11 (.loc 12 (.loc 13 (.loc 14 (.loc 15 (.loc 16 (.loc 17 (.loc 18 (.loc 19 (.loc 20 (.loc 21 (.loc 22 (.loc 23 (.loc 24 (.loc 25 (.loc 26 (.loc 27 (.loc 28 (.loc 29 (.loc 30 (.loc 31 (.loc 32 (.loc 33 (.loc 34 (.loc 35 (.loc 36 (.loc 37 (.loc 38 (.loc 39 (.loc 40 (.loc 41 (.loc 42 (.loc 43 (.loc 44 (.loc 45 (.loc 46 (.loc 47 (.loc 48 (.loc 49 (.loc 50 (.loc 51 (.loc 52 (.loc 53 (.loc 54 (.loc 55 (.loc 56 (.loc 57 .done)))))))))))))))))))))))))))))))))))))))))))))))) (.st 9 288230376151709696 (.loc 11 (.loc 12 (.loc 13 (.locA 14 (.loc 15 (.loc 16 (.loc 17 (.loc 18 (.loc 19 (.loc 20 (.loc 21 (.loc 22 (.loc 23 (.loc 24 (.loc 25 (.loc 26 (.loc 27 (.loc 28 (.loc 29 (.loc 30 (.loc 31 (.loc 32 (.loc 33 (.loc 34 (.loc 35 (.loc 36 (.loc 37 (.loc 38 (.loc 39 (.loc 40 (.loc 41 (.loc 42 (.loc 43 (.loc 44 (.loc 45 (.loc 46 (.loc 47 (.loc 48 (.loc 49 (.loc 50 (.loc 51 (.loc 52 (.loc 53 (.loc 54 (.loc 55 (.loc 56 (.loc 57 .done))))))))))))))))))))))))))))))))))))))))))) (.loc 15 (.loc 16 (.loc 17 (.locA 18 (.loc 19 (.loc 20 (.loc 21 (.loc 22 (.loc 23 (.loc 24 (.loc 25 (.loc 26 (.loc 27 (.loc 28 (.loc 29 (.loc 30 (.loc 31 (.loc 32 (.loc 33 (.loc 34 (.loc 35 (.loc 36 (.loc 37 (.loc 38 (.loc 39 (.loc 40 (.loc 41 (.loc 42 (.loc 43 (.loc 44 (.loc 45 (.loc 46 (.loc 47 (.loc 48 (.loc 49 (.loc 50 (.loc 51 (.loc 52 (.loc 53 (.loc 54 (.loc 55 (.loc 56 (.loc 57 .done))))))))))))))))))))))))))))))))))))))) (.loc 19 (.loc 20 (.loc 21 (.locA 22 (.loc 23 (.loc 24 (.loc 25 (.loc 26 (.loc 27 (.loc 28 (.loc 29 (.loc 30 (.loc 31 (.loc 32 (.loc 33 (.loc 34 (.loc 35 (.loc 36 (.loc 37 (.loc 38 (.loc 39 (.loc 40 (.loc 41 (.loc 42 (.loc 43 (.loc 44 (.loc 45 (.loc 46 (.loc 47 (.loc 48 (.loc 49 (.loc 50 (.loc 51 (.loc 52 (.loc 53 (.loc 54 (.loc 55 (.loc 56 (.loc 57 .done))))))))))))))))))))))))))))))))))) (.loc 23 (.loc 24 (.loc 25 (.locA 26 (.loc 27 (.loc 28 (.loc 29 (.loc 30 (.loc 31 (.loc 32 (.loc 33 (.loc 34 (.loc 35 (.loc 36 (.loc 37 (.loc 38 (.loc 39 (.loc 40 (.loc 41 (.loc 42 (.loc 43 (.loc 44 (.loc 45 (.loc 46 (.loc 47 (.loc 48 (.loc 49 (.loc 50 (.loc 51 (.loc 52 (.loc 53 (.loc 54 (.loc 55 (.loc 56 (.loc 57 .done))))))))))))))))))))))))))))))) (.loc 27 (.loc 28 (.st 29 288230371856744448 (.st 30 288230371856744448 (.st 31 288230371856744448 (.last 32 (.loc 33 (.loc 34 (.loc 35 (.locA 36 (.loc 37 (.loc 38 (.loc 39 (.loc 40 (.loc 41 (.loc 42 (.loc 43 (.loc 44 (.loc 45 (.loc 46 (.loc 47 (.loc 48 (.loc 49 (.loc 50 (.loc 51 (.loc 52 (.loc 53 (.loc 54 (.loc 55 (.loc 56 (.loc 57 .done))))))))))))))))))))) (.loc 37 (.loc 38 (.st 39 288221580058689536 (.st 40 288221580058689536 (.st 41 288221580058689536 (.st 42 288221580058689536 (.last 43 (.loc 44 (.loc 45 (.loc 46 (.locA 47 (.loc 48 (.loc 49 (.loc 50 (.loc 51 (.loc 52 (.loc 53 (.loc 54 (.loc 55 (.loc 56 (.loc 57 .done)))))))))) (.loc 48 (.loc 49 (.loc 53 (.st 50 252201579132747776 (.st 51 252201579132747776 (.st 52 252201579132747776 (.st 54 252201579132747776 (.last 55 (.loc 56 (.loc 57 .done)))))))))))))))))))))))))))))))))))))))))))))))))))))))))))) (.cond (.seq .leaf .leaf) .leaf)))))) .leaf))))) (.seq .leaf .leaf))))
theorem law22_none.eq  (R : Value → Heap → Prop) (h : Heap) : law22_none.body  R h = evFn Tryz.prog Tryz.f8 law22_none.ann [] R h := by kernel_rfl
theorem law22_none.calls  {R : Value → Heap → Prop} {h : Heap} (H : law22_none.body  R h) : HC Tryz.prog F.law22_none #[] R h :=
  evFn_sound mixed Tryz.func8 (by kernel_rfl) (law22_none.eq  R h ▸ H)

/-! zugzwang/zugzwanglaw22.tells -/
def law22_tells.body (t0 : Array Value) (game1 : Array Value) (player2 : Int) (bit3 : Int) (number4 : Int) (x5 : Array Value) (nonce6 : Array Value) (R : Value → Heap → Prop) (h : Heap) : Prop :=
  newK h t0 T.api_Tag (fun (t_1 : Option Addr) h =>
  newK h game1 T.api_Tag (fun (game_2 : Option Addr) h =>
  newK h x5 T.api_Move (fun (x_3 : Option Addr) h =>
  newK h nonce6 T.api_Tag (fun (nonce_4 : Option Addr) h =>
  callK Tryz.prog .ptr F.tags_New #[.bool true, .slice none 0 0] (fun (v5 : Option Addr) h =>
  buildK Tryz.prog (Instr.build T.zugzwangref04_Maker #[(0, (.bool true))]) (fun (v6 : Array Value) =>
  newK h v6 T.zugzwangref04_Maker (fun (v7 : Option Addr) h =>
  loadAggK (sizeOfT Tryz.prog T.api_Tag) h game_2 (fun (v8 : Array Value) =>
  loadAggK (sizeOfT Tryz.prog T.api_Tag) h nonce_4 (fun (v9 : Array Value) =>
  callK Tryz.prog (Kd.pair .agg (.int .i64)) F.commit_Coin #[.pointer v5, .agg v8, .int .i64 player2, .int .i64 bit3, .agg v9] (fun (v10 : Array Value × Int) h =>
  newK h (zerosOf Tryz.prog T.api_Tag) T.api_Tag (fun (a_11 : Option Addr) h =>
  storeAggK (sizeOfT Tryz.prog T.api_Tag) h a_11 v10.1 (fun h =>
  loadAggK (sizeOfT Tryz.prog T.api_Tag) h game_2 (fun (v12 : Array Value) =>
  loadAggK (sizeOfT Tryz.prog T.api_Tag) h nonce_4 (fun (v13 : Array Value) =>
  callK Tryz.prog (Kd.pair .agg (.int .i64)) F.ref22_Coin #[.pointer v7, .agg v12, .int .i64 player2, .int .i64 bit3, .agg v13] (fun (v14 : Array Value × Int) h =>
  newK h (zerosOf Tryz.prog T.api_Tag) T.api_Tag (fun (b_15 : Option Addr) h =>
  storeAggK (sizeOfT Tryz.prog T.api_Tag) h b_15 v14.1 (fun h =>
  loadAggK (sizeOfT Tryz.prog T.api_Tag) h game_2 (fun (v16 : Array Value) =>
  loadAggK (sizeOfT Tryz.prog T.api_Move) h x_3 (fun (v17 : Array Value) =>
  loadAggK (sizeOfT Tryz.prog T.api_Tag) h nonce_4 (fun (v18 : Array Value) =>
  callK Tryz.prog (Kd.pair .agg (.int .i64)) F.commit_Move #[.pointer v5, .agg v16, .int .i64 number4, .agg v17, .agg v18] (fun (v19 : Array Value × Int) h =>
  newK h (zerosOf Tryz.prog T.api_Tag) T.api_Tag (fun (c_20 : Option Addr) h =>
  storeAggK (sizeOfT Tryz.prog T.api_Tag) h c_20 v19.1 (fun h =>
  loadAggK (sizeOfT Tryz.prog T.api_Tag) h game_2 (fun (v21 : Array Value) =>
  loadAggK (sizeOfT Tryz.prog T.api_Move) h x_3 (fun (v22 : Array Value) =>
  loadAggK (sizeOfT Tryz.prog T.api_Tag) h nonce_4 (fun (v23 : Array Value) =>
  callK Tryz.prog (Kd.pair .agg (.int .i64)) F.ref22_Move #[.pointer v7, .agg v21, .int .i64 number4, .agg v22, .agg v23] (fun (v24 : Array Value × Int) h =>
  newK h (zerosOf Tryz.prog T.api_Tag) T.api_Tag (fun (d_25 : Option Addr) h =>
  storeAggK (sizeOfT Tryz.prog T.api_Tag) h d_25 v24.1 (fun h =>
  loadAggK (sizeOfT Tryz.prog T.api_Tag) h a_11 (fun (v26 : Array Value) =>
  loadAggK (sizeOfT Tryz.prog T.api_Tag) h b_15 (fun (v27 : Array Value) =>
  eqK Tryz.prog (binSem .neq T.api_Tag (.tmp 66) (.tmp 67) (.agg v26) (.agg v27)) (fun (v28 : Bool) =>
  if v28 = true then
  R (.bool false) h
  else
  if (v10.2 != v14.2) = true then
  R (.bool false) h
  else
  loadAggK (sizeOfT Tryz.prog T.api_Tag) h c_20 (fun (v29 : Array Value) =>
  loadAggK (sizeOfT Tryz.prog T.api_Tag) h d_25 (fun (v30 : Array Value) =>
  eqK Tryz.prog (binSem .neq T.api_Tag (.tmp 75) (.tmp 76) (.agg v29) (.agg v30)) (fun (v31 : Bool) =>
  if v31 = true then
  R (.bool false) h
  else
  if (v19.2 != v24.2) = true then
  R (.bool false) h
  else
  loadAggK (sizeOfT Tryz.prog T.api_Tag) h t_1 (fun (v32 : Array Value) =>
  loadAggK (sizeOfT Tryz.prog T.api_Tag) h a_11 (fun (v33 : Array Value) =>
  loadAggK (sizeOfT Tryz.prog T.api_Tag) h c_20 (fun (v34 : Array Value) =>
  opK Tryz.prog .slice (Instr.buildSlice T.sl_api_Tag 3 #[(0, (.agg v32)), (1, (.agg v33)), (2, (.agg v34))]) (fun (v35 : Sl) h =>
  loopW (fun X_37 (s_36 : Int) (h : Heap) =>
  if (decide (s_36 < 3)) = true then
  idxK v35 s_36 (sizeOfT Tryz.prog T.api_Tag) (fun (a_38 : Addr) =>
  idxK v35 s_36 (sizeOfT Tryz.prog T.api_Tag) (fun (a_39 : Addr) =>
  loadAggK (sizeOfT Tryz.prog T.api_Tag) h ((some a_38)) (fun (v40 : Array Value) =>
  loadAggK (sizeOfT Tryz.prog T.api_Tag) h game_2 (fun (v41 : Array Value) =>
  loadAggK (sizeOfT Tryz.prog T.api_Tag) h nonce_4 (fun (v42 : Array Value) =>
  loadAggK (sizeOfT Tryz.prog T.api_Tag) h ((some a_39)) (fun (v43 : Array Value) =>
  loadAggK (sizeOfT Tryz.prog T.api_Tag) h b_15 (fun (v44 : Array Value) =>
  callK Tryz.prog (.int .i64) F.commit_OpenCoin #[.pointer v5, .agg v40, .agg v41, .int .i64 player2, .int .i64 bit3, .agg v42] (fun (v45 : Int) h =>
  stillAggK (sizeOfT Tryz.prog T.api_Tag) h b_15 v44 ∧
  stillAggK (sizeOfT Tryz.prog T.api_Tag) h ((some a_39)) v43 ∧
  callK Tryz.prog (.int .i64) F.ref22_Fits #[.agg v43, .agg v44, .int .i64 v14.2] (fun (v46 : Int) h =>
  if (v45 != v46) = true then
  R (.bool false) h
  else
  idxK v35 s_36 (sizeOfT Tryz.prog T.api_Tag) (fun (a_47 : Addr) =>
  idxK v35 s_36 (sizeOfT Tryz.prog T.api_Tag) (fun (a_48 : Addr) =>
  loadAggK (sizeOfT Tryz.prog T.api_Tag) h ((some a_47)) (fun (v49 : Array Value) =>
  loadAggK (sizeOfT Tryz.prog T.api_Tag) h game_2 (fun (v50 : Array Value) =>
  loadAggK (sizeOfT Tryz.prog T.api_Move) h x_3 (fun (v51 : Array Value) =>
  loadAggK (sizeOfT Tryz.prog T.api_Tag) h nonce_4 (fun (v52 : Array Value) =>
  loadAggK (sizeOfT Tryz.prog T.api_Tag) h ((some a_48)) (fun (v53 : Array Value) =>
  loadAggK (sizeOfT Tryz.prog T.api_Tag) h d_25 (fun (v54 : Array Value) =>
  callK Tryz.prog (.int .i64) F.commit_OpenMove #[.pointer v5, .agg v49, .agg v50, .int .i64 number4, .agg v51, .agg v52] (fun (v55 : Int) h =>
  stillAggK (sizeOfT Tryz.prog T.api_Tag) h d_25 v54 ∧
  stillAggK (sizeOfT Tryz.prog T.api_Tag) h ((some a_48)) v53 ∧
  callK Tryz.prog (.int .i64) F.ref22_Fits #[.agg v53, .agg v54, .int .i64 v24.2] (fun (v56 : Int) h =>
  if (v55 != v56) = true then
  R (.bool false) h
  else
  X_37 (IntKind.i64.wrap (s_36 + 1)) h) h) h))))))))) h) h)))))))
  else
  R (.bool true) h) 0 h) h)))))))))))) h)))))) h)))))) h))))) h))))) h))))
def law22_tells.ann : Ann := (.seq .leaf (.seq .leaf (.seq .leaf (.seq .leaf (.seq .leaf (.seq .leaf (.seq (.seq .leaf (.cond (.seq .leaf .leaf) .leaf)) (.seq .leaf (.seq (.seq .leaf (.block (.loop [(26, (.int .i64))] (.seq (.seq .leaf (.cond .leaf .leaf)) (.seq (.block (.seq (.any (.loc 0 (.loc 1 (.loc 2 (.loc 3 (.loc 6 (.loc 7 (.loc 10 (.loc 11 (.loc 12 (.loc 15 (.st 4 274877841920 (.st 5 274877841920 (.st 8 274877841920 (.st 13 274877841408 (.st 14 274877841408 (.last 9 (.last 16 (.loc 17 (.loc 18 (.locA 19 (.loc 20 (.loc 21 (.loc 22 (.loc 23 (.loc 24 (.loc 25 (.loc 26 (.loc 27 (.loc 28 (.loc 29 (.loc 30 (.loc 31 (.loc 32 (.loc 33 (.loc 34 (.loc 35 (.loc 36 (.loc 37 .done)))))))))))))))))) (.loc 20 (.loc 21 (.loc 22 (.loc 25 (.loc 29 (.loc 30 (.loc 31 (.loc 34 (.st 23 240786604032 (.st 24 240786604032 (.st 26 240786604032 (.st 27 240786604032 (.st 32 240518168576 (.st 33 240518168576 (.last 28 (.last 35 (.loc 36 (.loc 37 .done))))))))))))))))))))))))))))))))))))))) (.cond (.seq .leaf .leaf) .leaf))) .leaf))))) (.seq .leaf .leaf))))))))))
theorem law22_tells.eq (t0 : Array Value) (game1 : Array Value) (player2 : Int) (bit3 : Int) (number4 : Int) (x5 : Array Value) (nonce6 : Array Value) (R : Value → Heap → Prop) (h : Heap) : law22_tells.body t0 game1 player2 bit3 number4 x5 nonce6 R h = evFn Tryz.prog Tryz.f4 law22_tells.ann [.agg t0, .agg game1, .int .i64 player2, .int .i64 bit3, .int .i64 number4, .agg x5, .agg nonce6] R h := by kernel_rfl
theorem law22_tells.calls {t0 : Array Value} {game1 : Array Value} {player2 : Int} {bit3 : Int} {number4 : Int} {x5 : Array Value} {nonce6 : Array Value} {R : Value → Heap → Prop} {h : Heap} (H : law22_tells.body t0 game1 player2 bit3 number4 x5 nonce6 R h) : HC Tryz.prog F.law22_tells #[.agg t0, .agg game1, .int .i64 player2, .int .i64 bit3, .int .i64 number4, .agg x5, .agg nonce6] R h :=
  evFn_sound mixed Tryz.func4 (by kernel_rfl) (law22_tells.eq t0 game1 player2 bit3 number4 x5 nonce6 R h ▸ H)

/-! zugzwang/zugzwangref02.Of -/
def ref02_Of.body (b0 : Sl) (R : Value → Heap → Prop) (h : Heap) : Prop :=
  newK h (zerosOf Tryz.prog T.api_Tag) T.api_Tag (fun (v1 : Option Addr) h =>
  callK Tryz.prog .slice F.ref02_filled #[.slice b0.a b0.n b0.c] (fun (v2 : Sl) h =>
  callK Tryz.prog .slice F.ref02_constants #[] (fun (v3 : Sl) h =>
  callK Tryz.prog .slice F.ref02_begin #[] (fun (v4 : Sl) h =>
  loopW (fun X_6 (s_5 : Int) (h : Heap) =>
  if (decide (s_5 < ((v2.n : Int)))) = true then
  sliceK v2 (some s_5) (some (IntKind.i64.wrap (s_5 + 64))) none (sizeOfT Tryz.prog T.uint8) (fun (v7 : Sl) =>
  callK Tryz.prog .slice F.ref02_schedule #[.slice v7.a v7.n v7.c] (fun (v8 : Sl) h =>
  newSlK h 0 #[] T.uint32 (fun v9 h =>
  opK Tryz.prog .slice (Builtin.append_ #[T.sl_uint32, T.sl_uint32] T.sl_uint32 #[.slice v9.a v9.n v9.c, .slice v4.a v4.n v4.c]) (fun (v10 : Sl) h =>
  loopW (fun X_12 (s_11 : Sl × Int) (h : Heap) =>
  if (decide (s_11.2 < 64)) = true then
  idxK s_11.1 7 (sizeOfT Tryz.prog T.uint32) (fun (a_13 : Addr) =>
  idxK s_11.1 4 (sizeOfT Tryz.prog T.uint32) (fun (a_14 : Addr) =>
  idxK s_11.1 4 (sizeOfT Tryz.prog T.uint32) (fun (a_15 : Addr) =>
  idxK s_11.1 5 (sizeOfT Tryz.prog T.uint32) (fun (a_16 : Addr) =>
  idxK s_11.1 6 (sizeOfT Tryz.prog T.uint32) (fun (a_17 : Addr) =>
  idxK v3 s_11.2 (sizeOfT Tryz.prog T.uint32) (fun (a_18 : Addr) =>
  idxK v8 s_11.2 (sizeOfT Tryz.prog T.uint32) (fun (a_19 : Addr) =>
  loadK (.int .u32) h ((some a_13)) (fun (v20 : Int) =>
  loadK (.int .u32) h ((some a_14)) (fun (v21 : Int) =>
  loadK (.int .u32) h ((some a_15)) (fun (v22 : Int) =>
  loadK (.int .u32) h ((some a_16)) (fun (v23 : Int) =>
  loadK (.int .u32) h ((some a_17)) (fun (v24 : Int) =>
  loadK (.int .u32) h ((some a_18)) (fun (v25 : Int) =>
  loadK (.int .u32) h ((some a_19)) (fun (v26 : Int) =>
  newSlK h 3 #[.int .i64 6, .int .i64 11, .int .i64 25] T.int (fun v27 h =>
  callK Tryz.prog (.int .u32) F.ref01_Mix #[.int .u32 v21, .slice v27.a v27.n v27.c] (fun (v28 : Int) h =>
  stillK (.int .u32) h ((some a_19)) v26 ∧
  stillK (.int .u32) h ((some a_18)) v25 ∧
  stillK (.int .u32) h ((some a_17)) v24 ∧
  stillK (.int .u32) h ((some a_16)) v23 ∧
  stillK (.int .u32) h ((some a_15)) v22 ∧
  stillK (.int .u32) h ((some a_13)) v20 ∧
  callK Tryz.prog (.int .u32) F.ref01_Choose #[.int .u32 v22, .int .u32 v23, .int .u32 v24] (fun (v29 : Int) h =>
  stillK (.int .u32) h ((some a_19)) v26 ∧
  stillK (.int .u32) h ((some a_18)) v25 ∧
  stillK (.int .u32) h ((some a_13)) v20 ∧
  newSlK h 5 #[.int .u32 v20, .int .u32 v28, .int .u32 v29, .int .u32 v25, .int .u32 v26] T.uint32 (fun v30 h =>
  callK Tryz.prog (.int .u32) F.ref01_Sum #[.slice v30.a v30.n v30.c] (fun (v31 : Int) h =>
  idxK s_11.1 0 (sizeOfT Tryz.prog T.uint32) (fun (a_32 : Addr) =>
  sliceK s_11.1 none (some 3) none (sizeOfT Tryz.prog T.uint32) (fun (v33 : Sl) =>
  loadK (.int .u32) h ((some a_32)) (fun (v34 : Int) =>
  newSlK h 3 #[.int .i64 2, .int .i64 13, .int .i64 22] T.int (fun v35 h =>
  callK Tryz.prog (.int .u32) F.ref01_Mix #[.int .u32 v34, .slice v35.a v35.n v35.c] (fun (v36 : Int) h =>
  callK Tryz.prog (.int .u32) F.ref01_Most #[.slice v33.a v33.n v33.c] (fun (v37 : Int) h =>
  newSlK h 2 #[.int .u32 v36, .int .u32 v37] T.uint32 (fun v38 h =>
  callK Tryz.prog (.int .u32) F.ref01_Sum #[.slice v38.a v38.n v38.c] (fun (v39 : Int) h =>
  idxK s_11.1 0 (sizeOfT Tryz.prog T.uint32) (fun (a_40 : Addr) =>
  idxK s_11.1 1 (sizeOfT Tryz.prog T.uint32) (fun (a_41 : Addr) =>
  idxK s_11.1 2 (sizeOfT Tryz.prog T.uint32) (fun (a_42 : Addr) =>
  idxK s_11.1 3 (sizeOfT Tryz.prog T.uint32) (fun (a_43 : Addr) =>
  idxK s_11.1 4 (sizeOfT Tryz.prog T.uint32) (fun (a_44 : Addr) =>
  idxK s_11.1 5 (sizeOfT Tryz.prog T.uint32) (fun (a_45 : Addr) =>
  idxK s_11.1 6 (sizeOfT Tryz.prog T.uint32) (fun (a_46 : Addr) =>
  loadK (.int .u32) h ((some a_40)) (fun (v47 : Int) =>
  loadK (.int .u32) h ((some a_41)) (fun (v48 : Int) =>
  loadK (.int .u32) h ((some a_42)) (fun (v49 : Int) =>
  loadK (.int .u32) h ((some a_43)) (fun (v50 : Int) =>
  loadK (.int .u32) h ((some a_44)) (fun (v51 : Int) =>
  loadK (.int .u32) h ((some a_45)) (fun (v52 : Int) =>
  loadK (.int .u32) h ((some a_46)) (fun (v53 : Int) =>
  newSlK h 8 #[(.int .u32 (IntKind.u32.wrap (v31 + v39))), .int .u32 v47, .int .u32 v48, .int .u32 v49, (.int .u32 (IntKind.u32.wrap (v50 + v31))), .int .u32 v51, .int .u32 v52, .int .u32 v53] T.uint32 (fun v54 h =>
  X_12 (v54, IntKind.i64.wrap (s_11.2 + 1)) h)))))))))))))))) h)) h) h))))) h)) h) h)))))))))))))))
  else
  loopW (fun X_56 (s_55 : Int) (h : Heap) =>
  if (decide (s_55 < 8)) = true then
  idxK v4 s_55 (sizeOfT Tryz.prog T.uint32) (fun (a_57 : Addr) =>
  idxK s_11.1 s_55 (sizeOfT Tryz.prog T.uint32) (fun (a_58 : Addr) =>
  loadK (.int .u32) h ((some a_57)) (fun (v59 : Int) =>
  loadK (.int .u32) h ((some a_58)) (fun (v60 : Int) =>
  idxK v4 s_55 (sizeOfT Tryz.prog T.uint32) (fun (a_61 : Addr) =>
  storeK h ((some a_61)) (.int .u32 (IntKind.u32.wrap (v59 + v60))) (fun h =>
  X_56 (IntKind.i64.wrap (s_55 + 1)) h))))))
  else
  X_6 (IntKind.i64.wrap (s_5 + 64)) h) 0 h) (v10, 0) h) h)) h)
  else
  newK h (zerosOf Tryz.prog T.api_Tag) T.api_Tag (fun (out_62 : Option Addr) h =>
  callK Tryz.prog .slice F.ref01_Bytes #[.slice v4.a v4.n v4.c] (fun (v63 : Sl) h =>
  loopW (fun X_65 (s_64 : Int) (h : Heap) =>
  if (decide (s_64 < 32)) = true then
  idxK v63 s_64 (sizeOfT Tryz.prog T.uint8) (fun (a_66 : Addr) =>
  loadK (.int .u8) h ((some a_66)) (fun (v67 : Int) =>
  idxArrK out_62 32 s_64 (sizeOfT Tryz.prog T.uint8) (fun (a_68 : Addr) =>
  storeK h ((some a_68)) (.int .u8 v67) (fun h =>
  X_65 (IntKind.i64.wrap (s_64 + 1)) h))))
  else
  loadAggK (sizeOfT Tryz.prog T.api_Tag) h out_62 (fun (v69 : Array Value) =>
  storeAggK (sizeOfT Tryz.prog T.api_Tag) h v1 v69 (fun h =>
  quietK Tryz.prog .agg (Instr.loadAt T.api_Tag (.pointer v1)) (fun r70 =>
  R (.agg r70) h) h))) 0 h) h)) 0 h) h) h) h)
def ref02_Of.ann : Ann := (.seq .leaf (.seq .leaf (.seq .leaf (.seq .leaf (.seq (.seq .leaf (.block (.loop [(6, (.int .i64))] (.seq (.seq .leaf (.cond .leaf .leaf)) (.seq (.block (.seq .leaf (.seq .leaf (.seq (.seq .leaf (.block (.loop [(8, .slice), (9, (.int .i64))] (.seq (.seq .leaf (.cond .leaf .leaf)) (.seq (.block (.seq (.any (.loc 0 (.loc 1 (.loc 3 (.loc 4 (.loc 8 (.loc 9 (.loc 11 (.loc 12 (.loc 14 (.loc 15 (.loc 18 (.loc 19 (.loc 20 (.loc 22 (.loc 23 (.loc 24 (.st 2 469762048 (.st 5 469893248 (.st 10 469893120 (.st 13 469893120 (.st 16 469893120 (.st 21 469762048 (.st 25 469762048 (.last 6 (.last 7 (.last 17 (.last 26 (.last 27 (.loc 28 .done)))))))))))))))))))))))))))))) (.seq (.any (.loc 0 (.loc 1 (.loc 5 (.loc 6 (.st 2 1936 (.last 3 (.last 4 (.last 7 (.last 8 (.last 9 (.loc 10 .done)))))))))))) (.any (.loc 0 (.loc 1 (.loc 2 (.loc 3 (.loc 4 (.loc 6 (.loc 7 (.loc 9 (.loc 10 (.loc 12 (.loc 13 (.loc 15 (.loc 17 (.loc 18 (.loc 20 (.loc 21 (.loc 23 (.loc 24 (.st 5 201326592 (.st 8 201326592 (.st 11 201326592 (.st 14 201392128 (.loc 16 (.st 19 201326592 (.st 22 201326592 (.st 25 201326592 (.last 26 (.loc 27 .done)))))))))))))))))))))))))))))))) .leaf))))) (.seq .leaf (.block (.loop [(12, (.int .i64))] (.seq (.seq .leaf (.cond .leaf .leaf)) (.seq (.block (.any (.loc 0 (.loc 1 (.loc 2 (.loc 3 (.loc 4 (.loc 6 (.loc 7 (.loc 8 (.st 5 7168 (.st 9 7168 (.loc 10 (.loc 11 (.last 12 .done))))))))))))))) .leaf))))))))) .leaf))))) (.seq .leaf (.seq .leaf (.seq (.seq .leaf (.block (.loop [(14, (.int .i64))] (.seq (.seq .leaf (.cond .leaf .leaf)) (.seq (.block .leaf) .leaf))))) (.seq .leaf .leaf)))))))))
theorem ref02_Of.eq (b0 : Sl) (R : Value → Heap → Prop) (h : Heap) : ref02_Of.body b0 R h = evFn Tryz.prog Tryz.f65 ref02_Of.ann [.slice b0.a b0.n b0.c] R h := by kernel_rfl
theorem ref02_Of.calls {b0 : Sl} {R : Value → Heap → Prop} {h : Heap} (H : ref02_Of.body b0 R h) : HC Tryz.prog F.ref02_Of #[.slice b0.a b0.n b0.c] R h :=
  evFn_sound mixed Tryz.func65 (by kernel_rfl) (ref02_Of.eq b0 R h ▸ H)

/-! bytes.Index -/
def bytes_Index.body (s0 : Sl) (sep1 : Sl) (R : Value → Heap → Prop) (h : Heap) : Prop :=
  if (((sep1.n : Int)) == 0) = true then
  R (.int .i64 0) h
  else
  if (((sep1.n : Int)) == 1) = true then
  idxK sep1 0 (sizeOfT Tryz.prog T.uint8) (fun (a_1 : Addr) =>
  loadK (.int .u8) h ((some a_1)) (fun (v2 : Int) =>
  callK Tryz.prog (.int .i64) F.bytes_IndexByte #[.slice s0.a s0.n s0.c, .int .u8 v2] (fun (v3 : Int) h =>
  R (.int .i64 v3) h) h))
  else
  if (((sep1.n : Int)) == ((s0.n : Int))) = true then
  callK Tryz.prog .bool F.bytes_Equal #[.slice sep1.a sep1.n sep1.c, .slice s0.a s0.n s0.c] (fun (v4 : Bool) h =>
  if v4 = true then
  R (.int .i64 0) h
  else
  R (.int .i64 ((-1))) h) h
  else
  if (decide (((sep1.n : Int)) > ((s0.n : Int)))) = true then
  R (.int .i64 ((-1))) h
  else
  loadK (.int .i64) h ((some ⟨0, 0, none⟩)) (fun (v5 : Int) =>
  if (decide (((sep1.n : Int)) ≤ v5)) = true then
  if (decide (((s0.n : Int)) ≤ 64)) = true then
  externK Tryz.prog (.int .i64) F.internal_bytealg_Index #[.slice s0.a s0.n s0.c, .slice sep1.a sep1.n sep1.c] (fun (v6 : Int) h =>
  R (.int .i64 v6) h) h
  else
  idxK sep1 0 (sizeOfT Tryz.prog T.uint8) (fun (a_7 : Addr) =>
  loadK (.int .u8) h ((some a_7)) (fun (v8 : Int) =>
  idxK sep1 1 (sizeOfT Tryz.prog T.uint8) (fun (a_9 : Addr) =>
  loadK (.int .u8) h ((some a_9)) (fun (v10 : Int) =>
  loopW (fun X_12 (s_11 : Int × Int) (h : Heap) =>
  if (decide (s_11.1 < (IntKind.i64.wrap ((IntKind.i64.wrap (((s0.n : Int)) - ((sep1.n : Int)))) + 1)))) = true then
  joinW (fun (s_13 : Int) h =>
  joinW (fun (s_14 : Unit) h =>
  callK Tryz.prog (.int .i64) F.internal_bytealg_Cutover #[(.int .i64 (IntKind.i64.wrap (s_13 + 1)))] (fun (v15 : Int) h =>
  if (decide ((IntKind.i64.wrap (s_11.2 + 1)) > v15)) = true then
  sliceK s0 (some (IntKind.i64.wrap (s_13 + 1))) none none (sizeOfT Tryz.prog T.uint8) (fun (v16 : Sl) =>
  externK Tryz.prog (.int .i64) F.internal_bytealg_Index #[.slice v16.a v16.n v16.c, .slice sep1.a sep1.n sep1.c] (fun (v17 : Int) h =>
  if (decide (v17 ≥ 0)) = true then
  R (.int .i64 (IntKind.i64.wrap (v17 + (IntKind.i64.wrap (s_13 + 1))))) h
  else
  R (.int .i64 ((-1))) h) h)
  else
  X_12 (IntKind.i64.wrap (s_13 + 1), IntKind.i64.wrap (s_11.2 + 1)) h) h)
  (fun J_18 =>
  idxK s0 (IntKind.i64.wrap (s_13 + 1)) (sizeOfT Tryz.prog T.uint8) (fun (a_19 : Addr) =>
  loadK (.int .u8) h ((some a_19)) (fun (v20 : Int) =>
  if (v20 == v10) = true then
  sliceK s0 (some s_13) (some (IntKind.i64.wrap (s_13 + ((sep1.n : Int))))) none (sizeOfT Tryz.prog T.uint8) (fun (v21 : Sl) =>
  callK Tryz.prog .bool F.bytes_Equal #[.slice v21.a v21.n v21.c, .slice sep1.a sep1.n sep1.c] (fun (v22 : Bool) h =>
  if v22 = true then
  R (.int .i64 s_13) h
  else
  J_18 () h) h)
  else
  J_18 () h))))
  (fun J_23 =>
  idxK s0 s_11.1 (sizeOfT Tryz.prog T.uint8) (fun (a_24 : Addr) =>
  loadK (.int .u8) h ((some a_24)) (fun (v25 : Int) =>
  if (v25 != v8) = true then
  sliceK s0 (some (IntKind.i64.wrap (s_11.1 + 1))) (some (IntKind.i64.wrap ((IntKind.i64.wrap (((s0.n : Int)) - ((sep1.n : Int)))) + 1))) none (sizeOfT Tryz.prog T.uint8) (fun (v26 : Sl) =>
  callK Tryz.prog (.int .i64) F.bytes_IndexByte #[.slice v26.a v26.n v26.c, .int .u8 v8] (fun (v27 : Int) h =>
  if (decide (v27 < 0)) = true then
  R (.int .i64 ((-1))) h
  else
  J_23 (IntKind.i64.wrap (s_11.1 + (IntKind.i64.wrap (v27 + 1)))) h) h)
  else
  J_23 s_11.1 h)))
  else
  R (.int .i64 ((-1))) h) (0, 0) h))))
  else
  idxK sep1 0 (sizeOfT Tryz.prog T.uint8) (fun (a_28 : Addr) =>
  loadK (.int .u8) h ((some a_28)) (fun (v29 : Int) =>
  idxK sep1 1 (sizeOfT Tryz.prog T.uint8) (fun (a_30 : Addr) =>
  loadK (.int .u8) h ((some a_30)) (fun (v31 : Int) =>
  loopW (fun X_33 (s_32 : Int × Int) (h : Heap) =>
  if (decide (s_32.1 < (IntKind.i64.wrap ((IntKind.i64.wrap (((s0.n : Int)) - ((sep1.n : Int)))) + 1)))) = true then
  joinW (fun (s_34 : Int) h =>
  joinW (fun (s_35 : Unit) h =>
  joinW (fun (s_36 : Bool) h =>
  if s_36 = true then
  sliceK s0 (some (IntKind.i64.wrap (s_34 + 1))) none none (sizeOfT Tryz.prog T.uint8) (fun (v37 : Sl) =>
  callK Tryz.prog (.int .i64) F.internal_bytealg_IndexRabinKarp_byte #[.slice v37.a v37.n v37.c, .slice sep1.a sep1.n sep1.c] (fun (v38 : Int) h =>
  if (decide (v38 < 0)) = true then
  R (.int .i64 ((-1))) h
  else
  R (.int .i64 (IntKind.i64.wrap ((IntKind.i64.wrap (s_34 + 1)) + v38))) h) h)
  else
  X_33 (IntKind.i64.wrap (s_34 + 1), IntKind.i64.wrap (s_32.2 + 1)) h)
  (fun J_39 =>
  shiftK 4
  (if (decide ((IntKind.i64.wrap (s_32.2 + 1)) ≥ (IntKind.i64.wrap (4 + (Int.fdiv (IntKind.i64.wrap (s_34 + 1)) (2 ^ min (Int.toNat 4) (IntKind.bits .i64))))))) = true then
  J_39 (decide ((IntKind.i64.wrap (s_34 + 1)) < (IntKind.i64.wrap ((IntKind.i64.wrap (((s0.n : Int)) - ((sep1.n : Int)))) + 1)))) h
  else
  J_39 false h)))
  (fun J_40 =>
  idxK s0 (IntKind.i64.wrap (s_34 + 1)) (sizeOfT Tryz.prog T.uint8) (fun (a_41 : Addr) =>
  loadK (.int .u8) h ((some a_41)) (fun (v42 : Int) =>
  if (v42 == v31) = true then
  sliceK s0 (some s_34) (some (IntKind.i64.wrap (s_34 + ((sep1.n : Int))))) none (sizeOfT Tryz.prog T.uint8) (fun (v43 : Sl) =>
  callK Tryz.prog .bool F.bytes_Equal #[.slice v43.a v43.n v43.c, .slice sep1.a sep1.n sep1.c] (fun (v44 : Bool) h =>
  if v44 = true then
  R (.int .i64 s_34) h
  else
  J_40 () h) h)
  else
  J_40 () h))))
  (fun J_45 =>
  idxK s0 s_32.1 (sizeOfT Tryz.prog T.uint8) (fun (a_46 : Addr) =>
  loadK (.int .u8) h ((some a_46)) (fun (v47 : Int) =>
  if (v47 != v29) = true then
  sliceK s0 (some (IntKind.i64.wrap (s_32.1 + 1))) (some (IntKind.i64.wrap ((IntKind.i64.wrap (((s0.n : Int)) - ((sep1.n : Int)))) + 1))) none (sizeOfT Tryz.prog T.uint8) (fun (v48 : Sl) =>
  callK Tryz.prog (.int .i64) F.bytes_IndexByte #[.slice v48.a v48.n v48.c, .int .u8 v29] (fun (v49 : Int) h =>
  if (decide (v49 < 0)) = true then
  R (.int .i64 ((-1))) h
  else
  J_45 (IntKind.i64.wrap (s_32.1 + (IntKind.i64.wrap (v49 + 1)))) h) h)
  else
  J_45 s_32.1 h)))
  else
  R (.int .i64 ((-1))) h) (0, 0) h)))))
def bytes_Index.ann : Ann := (.seq .leaf (.seq .leaf (.seq (.block (.seq .leaf (.cond (.seq .leaf .leaf) (.seq .leaf (.cond (.seq .leaf .leaf) (.seq .leaf (.cond (.seq (.seq .leaf (.cond (.seq .leaf .leaf) .leaf)) (.seq .leaf .leaf)) (.seq .leaf (.cond (.seq .leaf .leaf) (.seq .leaf (.cond (.seq (.seq .leaf (.cond (.seq .leaf .leaf) .leaf)) (.seq .leaf (.seq .leaf (.seq .leaf (.seq .leaf (.seq .leaf (.seq (.block (.loop [(8, (.int .i64)), (10, (.int .i64))] (.seq (.seq .leaf (.cond .leaf .leaf)) (.block (.join [(8, (.int .i64))] (.seq .leaf (.cond (.seq .leaf (.seq (.seq .leaf (.cond (.seq .leaf .leaf) .leaf)) .leaf)) .leaf)) (.join [] (.seq .leaf (.cond (.seq .leaf .leaf) .leaf)) (.seq .leaf (.seq .leaf (.seq .leaf (.cond (.seq .leaf (.seq (.seq .leaf (.cond (.seq .leaf .leaf) .leaf)) (.seq .leaf .leaf))) .leaf)))))))))) (.seq .leaf .leaf)))))))) .leaf))))))))))) (.seq .leaf (.seq .leaf (.seq .leaf (.seq .leaf (.seq .leaf (.seq (.block (.loop [(15, (.int .i64)), (16, (.int .i64))] (.seq (.seq .leaf (.cond .leaf .leaf)) (.block (.join [(15, (.int .i64))] (.seq .leaf (.cond (.seq .leaf (.seq (.seq .leaf (.cond .leaf .leaf)) .leaf)) .leaf)) (.join [] (.seq .leaf (.cond (.seq .leaf .leaf) .leaf)) (.seq .leaf (.seq .leaf (.join [(189, .bool)] .leaf (.cond (.seq .leaf (.seq (.seq .leaf (.cond (.seq .leaf .leaf) .leaf)) (.seq .leaf .leaf))) .leaf)))))))))) (.seq .leaf .leaf))))))))))
theorem bytes_Index.eq (s0 : Sl) (sep1 : Sl) (R : Value → Heap → Prop) (h : Heap) : bytes_Index.body s0 sep1 R h = evFn Tryz.prog Tryz.f67 bytes_Index.ann [.slice s0.a s0.n s0.c, .slice sep1.a sep1.n sep1.c] R h := by kernel_rfl
theorem bytes_Index.calls {s0 : Sl} {sep1 : Sl} {R : Value → Heap → Prop} {h : Heap} (H : bytes_Index.body s0 sep1 R h) : HC Tryz.prog F.bytes_Index #[.slice s0.a s0.n s0.c, .slice sep1.a sep1.n sep1.c] R h :=
  evFn_sound mixed Tryz.func67 (by kernel_rfl) (bytes_Index.eq s0 sep1 R h ▸ H)

/-! zugzwang/msg.named -/
def msg_named.body (b0 : Array Value) (R : Value → Heap → Prop) (h : Heap) : Prop :=
  newK h b0 T.api_Body (fun (b_1 : Option Addr) h =>
  newK h (zerosOf Tryz.prog T.api_Body) T.api_Body (fun (has_2 : Option Addr) h =>
  fldK b_1 0 (fun (a_3 : Addr) =>
  loadK (.int .i64) h ((some a_3)) (fun (v4 : Int) =>
  fldK has_2 0 (fun (a_5 : Addr) =>
  storeK h ((some a_5)) (.int .i64 v4) (fun h =>
  fldK b_1 0 (fun (a_6 : Addr) =>
  loadK (.int .i64) h ((some a_6)) (fun (v7 : Int) =>
  if (v7 == 1) = true then
  fldK b_1 1 (fun (a_8 : Addr) =>
  fldK b_1 4 (fun (a_9 : Addr) =>
  fldK b_1 1 (fun (a_10 : Addr) =>
  loadAggK (sizeOfT Tryz.prog T.api_Move) h ((some a_8)) (fun (v11 : Array Value) =>
  fldK has_2 1 (fun (a_12 : Addr) =>
  loadK .bool h ((some a_9)) (fun (v13 : Bool) =>
  loadAggK (sizeOfT Tryz.prog T.api_Move) h ((some a_10)) (fun (v14 : Array Value) =>
  callK Tryz.prog .bool F.msg_move #[.agg v14] (fun (v15 : Bool) h =>
  stillK .bool h ((some a_9)) v13 ∧
  stillAggK (sizeOfT Tryz.prog T.api_Move) h ((some a_8)) v11 ∧
  storeAggK (sizeOfT Tryz.prog T.api_Move) h ((some a_12)) v11 (fun h =>
  stillK .bool h ((some a_9)) v13 ∧
  fldK has_2 4 (fun (a_16 : Addr) =>
  storeK h ((some a_16)) (.bool v13) (fun h =>
  loadAggK (sizeOfT Tryz.prog T.api_Body) h has_2 (fun (v17 : Array Value) =>
  storeAggK (sizeOfT Tryz.prog T.api_Body) h has_2 v17 (fun h =>
  quietK Tryz.prog .agg (Instr.loadAt T.api_Body (.pointer has_2)) (fun r18 =>
  R (.tuple #[.agg r18, .bool v15]) h) h)))))) h)))))))
  else
  if (v7 == 2) = true then
  fldK b_1 5 (fun (a_19 : Addr) =>
  fldK b_1 5 (fun (a_20 : Addr) =>
  loadK (.int .i64) h ((some a_19)) (fun (v21 : Int) =>
  fldK has_2 5 (fun (a_22 : Addr) =>
  loadK (.int .i64) h ((some a_20)) (fun (v23 : Int) =>
  if (v23 == 6) = true then
  storeK h ((some a_22)) (.int .i64 v21) (fun h =>
  loadAggK (sizeOfT Tryz.prog T.api_Body) h has_2 (fun (v24 : Array Value) =>
  storeAggK (sizeOfT Tryz.prog T.api_Body) h has_2 v24 (fun h =>
  quietK Tryz.prog .agg (Instr.loadAt T.api_Body (.pointer has_2)) (fun r25 =>
  R (.tuple #[.agg r25, .bool true]) h) h)))
  else
  fldK b_1 5 (fun (a_26 : Addr) =>
  loadK (.int .i64) h ((some a_26)) (fun (v27 : Int) =>
  storeK h ((some a_22)) (.int .i64 v21) (fun h =>
  stillK (.int .i64) h ((some a_26)) v27 ∧
  loadAggK (sizeOfT Tryz.prog T.api_Body) h has_2 (fun (v28 : Array Value) =>
  storeAggK (sizeOfT Tryz.prog T.api_Body) h has_2 v28 (fun h =>
  quietK Tryz.prog .agg (Instr.loadAt T.api_Body (.pointer has_2)) (fun r29 =>
  R (.tuple #[.agg r29, (.bool (v27 == 7))]) h) h))))))))))
  else
  if (v7 == 5) = true then
  fldK b_1 6 (fun (a_30 : Addr) =>
  loadAggK (sizeOfT Tryz.prog T.api_Tag) h ((some a_30)) (fun (v31 : Array Value) =>
  fldK has_2 6 (fun (a_32 : Addr) =>
  storeAggK (sizeOfT Tryz.prog T.api_Tag) h ((some a_32)) v31 (fun h =>
  loadAggK (sizeOfT Tryz.prog T.api_Body) h has_2 (fun (v33 : Array Value) =>
  storeAggK (sizeOfT Tryz.prog T.api_Body) h has_2 v33 (fun h =>
  quietK Tryz.prog .agg (Instr.loadAt T.api_Body (.pointer has_2)) (fun r34 =>
  R (.tuple #[.agg r34, .bool true]) h) h))))))
  else
  if (v7 == 7) = true then
  fldK b_1 1 (fun (a_35 : Addr) =>
  fldK b_1 38 (fun (a_36 : Addr) =>
  fldK b_1 1 (fun (a_37 : Addr) =>
  loadAggK (sizeOfT Tryz.prog T.api_Move) h ((some a_35)) (fun (v38 : Array Value) =>
  fldK has_2 1 (fun (a_39 : Addr) =>
  loadAggK (sizeOfT Tryz.prog T.api_Tag) h ((some a_36)) (fun (v40 : Array Value) =>
  loadAggK (sizeOfT Tryz.prog T.api_Move) h ((some a_37)) (fun (v41 : Array Value) =>
  callK Tryz.prog .bool F.msg_move #[.agg v41] (fun (v42 : Bool) h =>
  stillAggK (sizeOfT Tryz.prog T.api_Tag) h ((some a_36)) v40 ∧
  stillAggK (sizeOfT Tryz.prog T.api_Move) h ((some a_35)) v38 ∧
  storeAggK (sizeOfT Tryz.prog T.api_Move) h ((some a_39)) v38 (fun h =>
  stillAggK (sizeOfT Tryz.prog T.api_Tag) h ((some a_36)) v40 ∧
  fldK has_2 38 (fun (a_43 : Addr) =>
  storeAggK (sizeOfT Tryz.prog T.api_Tag) h ((some a_43)) v40 (fun h =>
  loadAggK (sizeOfT Tryz.prog T.api_Body) h has_2 (fun (v44 : Array Value) =>
  storeAggK (sizeOfT Tryz.prog T.api_Body) h has_2 v44 (fun h =>
  quietK Tryz.prog .agg (Instr.loadAt T.api_Body (.pointer has_2)) (fun r45 =>
  R (.tuple #[.agg r45, .bool v42]) h) h)))))) h)))))))
  else
  if (v7 == 3) = true then
  if (v7 == 3) = true then
  loadAggK (sizeOfT Tryz.prog T.api_Body) h has_2 (fun (v46 : Array Value) =>
  storeAggK (sizeOfT Tryz.prog T.api_Body) h has_2 v46 (fun h =>
  quietK Tryz.prog .agg (Instr.loadAt T.api_Body (.pointer has_2)) (fun r47 =>
  R (.tuple #[.agg r47, .bool true]) h) h))
  else
  loadAggK (sizeOfT Tryz.prog T.api_Body) h has_2 (fun (v48 : Array Value) =>
  storeAggK (sizeOfT Tryz.prog T.api_Body) h has_2 v48 (fun h =>
  quietK Tryz.prog .agg (Instr.loadAt T.api_Body (.pointer has_2)) (fun r49 =>
  R (.tuple #[.agg r49, .bool false]) h) h))
  else
  if (v7 == 4) = true then
  if (v7 == 4) = true then
  loadAggK (sizeOfT Tryz.prog T.api_Body) h has_2 (fun (v50 : Array Value) =>
  storeAggK (sizeOfT Tryz.prog T.api_Body) h has_2 v50 (fun h =>
  quietK Tryz.prog .agg (Instr.loadAt T.api_Body (.pointer has_2)) (fun r51 =>
  R (.tuple #[.agg r51, .bool true]) h) h))
  else
  loadAggK (sizeOfT Tryz.prog T.api_Body) h has_2 (fun (v52 : Array Value) =>
  storeAggK (sizeOfT Tryz.prog T.api_Body) h has_2 v52 (fun h =>
  quietK Tryz.prog .agg (Instr.loadAt T.api_Body (.pointer has_2)) (fun r53 =>
  R (.tuple #[.agg r53, .bool false]) h) h))
  else
  if (v7 == 6) = true then
  loadAggK (sizeOfT Tryz.prog T.api_Body) h has_2 (fun (v54 : Array Value) =>
  storeAggK (sizeOfT Tryz.prog T.api_Body) h has_2 v54 (fun h =>
  quietK Tryz.prog .agg (Instr.loadAt T.api_Body (.pointer has_2)) (fun r55 =>
  R (.tuple #[.agg r55, .bool true]) h) h))
  else
  loadAggK (sizeOfT Tryz.prog T.api_Body) h has_2 (fun (v56 : Array Value) =>
  storeAggK (sizeOfT Tryz.prog T.api_Body) h has_2 v56 (fun h =>
  quietK Tryz.prog .agg (Instr.loadAt T.api_Body (.pointer has_2)) (fun r57 =>
  R (.tuple #[.agg r57, .bool false]) h) h))))))))))
def msg_named.ann : Ann := (.seq .leaf (.seq .leaf (.seq (.seq .leaf (.block (.seq .leaf (.cond (.any (.loc 0 (.loc 2 (.loc 4 (.st 1 3968 (.loc 7 (.st 3 3584 (.st 5 3904 (.last 6 (.last 8 (.loc 9 (.last 10 (.loc 11 .done))))))))))))) (.seq .leaf (.cond (.any (.loc 0 (.loc 2 (.st 1 7168 (.loc 10 (.st 3 7152 (.loc 4 (.loc 5 (.locA 6 (.loc 7 (.loc 8 (.loc 9 (.last 11 (.loc 12 .done))))) (.st 7 4864 (.loc 8 (.loc 9 (.last 11 (.loc 12 .done)))))))))))))) (.seq .leaf (.cond .leaf (.seq .leaf (.cond (.any (.loc 0 (.loc 2 (.loc 4 (.st 1 3968 (.loc 7 (.st 3 3584 (.st 5 3904 (.last 6 (.last 8 (.loc 9 (.last 10 (.loc 11 .done))))))))))))) (.seq (.seq .leaf (.cond .leaf (.seq .leaf (.cond .leaf .leaf)))) (.cond .leaf .leaf)))))))))))) (.seq .leaf .leaf))))
theorem msg_named.eq (b0 : Array Value) (R : Value → Heap → Prop) (h : Heap) : msg_named.body b0 R h = evFn Tryz.prog Tryz.f50 msg_named.ann [.agg b0] R h := by kernel_rfl
theorem msg_named.calls {b0 : Array Value} {R : Value → Heap → Prop} {h : Heap} (H : msg_named.body b0 R h) : HC Tryz.prog F.msg_named #[.agg b0] R h :=
  evFn_sound mixed Tryz.func50 (by kernel_rfl) (msg_named.eq b0 R h ▸ H)

/-! (*zugzwang/digest.state).step -/
def digest_state_step.body (s0 : Option Addr) (w1 : Int) (k2 : Int) (R : Value → Heap → Prop) (h : Heap) : Prop :=
  derefK s0 (fun (a_1 : Addr) =>
  idxArrK ((some a_1)) 8 7 (sizeOfT Tryz.prog T.uint32) (fun (a_2 : Addr) =>
  derefK s0 (fun (a_3 : Addr) =>
  idxArrK ((some a_3)) 8 4 (sizeOfT Tryz.prog T.uint32) (fun (a_4 : Addr) =>
  derefK s0 (fun (a_5 : Addr) =>
  idxArrK ((some a_5)) 8 4 (sizeOfT Tryz.prog T.uint32) (fun (a_6 : Addr) =>
  derefK s0 (fun (a_7 : Addr) =>
  idxArrK ((some a_7)) 8 5 (sizeOfT Tryz.prog T.uint32) (fun (a_8 : Addr) =>
  derefK s0 (fun (a_9 : Addr) =>
  idxArrK ((some a_9)) 8 6 (sizeOfT Tryz.prog T.uint32) (fun (a_10 : Addr) =>
  loadK (.int .u32) h ((some a_2)) (fun (v11 : Int) =>
  loadK (.int .u32) h ((some a_4)) (fun (v12 : Int) =>
  loadK (.int .u32) h ((some a_6)) (fun (v13 : Int) =>
  loadK (.int .u32) h ((some a_8)) (fun (v14 : Int) =>
  loadK (.int .u32) h ((some a_10)) (fun (v15 : Int) =>
  newSlK h 3 #[.int .i64 6, .int .i64 11, .int .i64 25] T.int (fun v16 h =>
  callK Tryz.prog (.int .u32) F.bits_Mix #[.int .u32 v12, .slice v16.a v16.n v16.c] (fun (v17 : Int) h =>
  stillK (.int .u32) h ((some a_10)) v15 ∧
  stillK (.int .u32) h ((some a_8)) v14 ∧
  stillK (.int .u32) h ((some a_6)) v13 ∧
  stillK (.int .u32) h ((some a_2)) v11 ∧
  callK Tryz.prog (.int .u32) F.bits_Choose #[.int .u32 v13, .int .u32 v14, .int .u32 v15] (fun (v18 : Int) h =>
  stillK (.int .u32) h ((some a_2)) v11 ∧
  newSlK h 5 #[.int .u32 v11, .int .u32 v17, .int .u32 v18, .int .u32 k2, .int .u32 w1] T.uint32 (fun v19 h =>
  callK Tryz.prog (.int .u32) F.bits_Sum #[.slice v19.a v19.n v19.c] (fun (v20 : Int) h =>
  derefK s0 (fun (a_21 : Addr) =>
  idxArrK ((some a_21)) 8 0 (sizeOfT Tryz.prog T.uint32) (fun (a_22 : Addr) =>
  derefK s0 (fun (a_23 : Addr) =>
  idxArrK ((some a_23)) 8 0 (sizeOfT Tryz.prog T.uint32) (fun (a_24 : Addr) =>
  derefK s0 (fun (a_25 : Addr) =>
  idxArrK ((some a_25)) 8 1 (sizeOfT Tryz.prog T.uint32) (fun (a_26 : Addr) =>
  derefK s0 (fun (a_27 : Addr) =>
  idxArrK ((some a_27)) 8 0 (sizeOfT Tryz.prog T.uint32) (fun (a_28 : Addr) =>
  derefK s0 (fun (a_29 : Addr) =>
  idxArrK ((some a_29)) 8 2 (sizeOfT Tryz.prog T.uint32) (fun (a_30 : Addr) =>
  derefK s0 (fun (a_31 : Addr) =>
  idxArrK ((some a_31)) 8 1 (sizeOfT Tryz.prog T.uint32) (fun (a_32 : Addr) =>
  derefK s0 (fun (a_33 : Addr) =>
  idxArrK ((some a_33)) 8 2 (sizeOfT Tryz.prog T.uint32) (fun (a_34 : Addr) =>
  loadK (.int .u32) h ((some a_22)) (fun (v35 : Int) =>
  loadK (.int .u32) h ((some a_24)) (fun (v36 : Int) =>
  loadK (.int .u32) h ((some a_26)) (fun (v37 : Int) =>
  loadK (.int .u32) h ((some a_28)) (fun (v38 : Int) =>
  loadK (.int .u32) h ((some a_30)) (fun (v39 : Int) =>
  loadK (.int .u32) h ((some a_32)) (fun (v40 : Int) =>
  loadK (.int .u32) h ((some a_34)) (fun (v41 : Int) =>
  newSlK h 3 #[.int .i64 2, .int .i64 13, .int .i64 22] T.int (fun v42 h =>
  callK Tryz.prog (.int .u32) F.bits_Mix #[.int .u32 v35, .slice v42.a v42.n v42.c] (fun (v43 : Int) h =>
  stillK (.int .u32) h ((some a_34)) v41 ∧
  stillK (.int .u32) h ((some a_32)) v40 ∧
  stillK (.int .u32) h ((some a_30)) v39 ∧
  stillK (.int .u32) h ((some a_28)) v38 ∧
  stillK (.int .u32) h ((some a_26)) v37 ∧
  stillK (.int .u32) h ((some a_24)) v36 ∧
  newSlK h 2 #[.int .u32 v43, (.int .u32 (IntKind.u32.wrap (BitVec.ofInt (IntKind.bits .u32) (IntKind.u32.wrap (BitVec.ofInt (IntKind.bits .u32) (IntKind.u32.wrap (BitVec.ofInt (IntKind.bits .u32) v36 &&& BitVec.ofInt (IntKind.bits .u32) v37).toNat) ||| BitVec.ofInt (IntKind.bits .u32) (IntKind.u32.wrap (BitVec.ofInt (IntKind.bits .u32) v38 &&& BitVec.ofInt (IntKind.bits .u32) v39).toNat)).toNat) ||| BitVec.ofInt (IntKind.bits .u32) (IntKind.u32.wrap (BitVec.ofInt (IntKind.bits .u32) v40 &&& BitVec.ofInt (IntKind.bits .u32) v41).toNat)).toNat))] T.uint32 (fun v44 h =>
  callK Tryz.prog (.int .u32) F.bits_Sum #[.slice v44.a v44.n v44.c] (fun (v45 : Int) h =>
  derefK s0 (fun (a_46 : Addr) =>
  sliceArrK ((some a_46)) 8 (some 1) none none (sizeOfT Tryz.prog T.uint32) (fun (v47 : Sl) =>
  derefK s0 (fun (a_48 : Addr) =>
  sliceArrK ((some a_48)) 8 none (some 7) none (sizeOfT Tryz.prog T.uint32) (fun (v49 : Sl) =>
  opK Tryz.prog (.int .i64) (Builtin.copy_ #[T.sl_uint32, T.sl_uint32] T.int #[.slice v47.a v47.n v47.c, .slice v49.a v49.n v49.c]) (fun (v50 : Int) h =>
  derefK s0 (fun (a_51 : Addr) =>
  idxArrK ((some a_51)) 8 4 (sizeOfT Tryz.prog T.uint32) (fun (a_52 : Addr) =>
  derefK s0 (fun (a_53 : Addr) =>
  loadK (.int .u32) h ((some a_52)) (fun (v54 : Int) =>
  idxArrK ((some a_53)) 8 4 (sizeOfT Tryz.prog T.uint32) (fun (a_55 : Addr) =>
  storeK h ((some a_55)) (.int .u32 (IntKind.u32.wrap (v54 + v20))) (fun h =>
  derefK s0 (fun (a_56 : Addr) =>
  idxArrK ((some a_56)) 8 0 (sizeOfT Tryz.prog T.uint32) (fun (a_57 : Addr) =>
  storeK h ((some a_57)) (.int .u32 (IntKind.u32.wrap (v20 + v45))) (fun h =>
  R (.tuple #[]) h)))))))))) h))))) h)) h))))))))))))))))))))))) h)) h) h))))))))))))))))
def digest_state_step.ann : Ann := (.seq (.any (.loc 0 (.loc 1 (.loc 2 (.loc 4 (.loc 5 (.loc 6 (.loc 10 (.loc 11 (.loc 12 (.loc 14 (.loc 15 (.loc 16 (.loc 18 (.loc 19 (.loc 20 (.loc 23 (.loc 24 (.st 3 234881024 (.st 7 239075840 (.st 13 239075328 (.st 17 239075328 (.st 21 239075328 (.last 8 (.last 9 (.last 22 (.last 25 (.last 26 (.loc 27 .done))))))))))))))))))))))))))))) (.seq (.any (.loc 0 (.loc 1 (.loc 2 (.loc 6 (.loc 7 (.loc 8 (.loc 10 (.loc 11 (.loc 12 (.loc 15 (.loc 16 (.loc 17 (.loc 19 (.loc 20 (.loc 21 (.loc 25 (.loc 26 (.loc 27 (.loc 29 (.loc 30 (.loc 31 (.st 3 240518168608 (.st 9 257714831360 (.st 13 257714831360 (.loc 14 (.st 18 257723203584 (.st 22 257723203584 (.loc 23 (.loc 24 (.st 28 266287972352 (.st 32 266287972352 (.loc 33 (.loc 34 (.last 4 (.last 5 (.last 35 (.last 36 (.loc 37 .done))))))))))))))))))))))))))))))))))))))) (.seq (.any (.loc 0 (.loc 1 (.loc 2 (.loc 3 (.loc 4 (.loc 5 (.last 6 .done)))))))) (.seq (.any (.loc 0 (.loc 1 (.loc 2 (.loc 4 (.loc 6 (.st 3 416 (.loc 5 (.loc 7 (.last 8 .done)))))))))) .leaf))))
theorem digest_state_step.eq (s0 : Option Addr) (w1 : Int) (k2 : Int) (R : Value → Heap → Prop) (h : Heap) : digest_state_step.body s0 w1 k2 R h = evFn Tryz.prog Tryz.f97 digest_state_step.ann [.pointer s0, .int .u32 w1, .int .u32 k2] R h := by kernel_rfl
theorem digest_state_step.calls {s0 : Option Addr} {w1 : Int} {k2 : Int} {R : Value → Heap → Prop} {h : Heap} (H : digest_state_step.body s0 w1 k2 R h) : HC Tryz.prog F.digest_state_step #[.pointer s0, .int .u32 w1, .int .u32 k2] R h :=
  evFn_sound mixed Tryz.func97 (by kernel_rfl) (digest_state_step.eq s0 w1 k2 R h ▸ H)

/-! zugzwang/zugzwanglaw22.CommitCovers -/
def law22_CommitCovers.body (t0 : Array Value) (nonce1 : Array Value) (rows2 : Sl) (R : Value → Heap → Prop) (h : Heap) : Prop :=
  newK h t0 T.api_Tag (fun (t_1 : Option Addr) h =>
  newK h nonce1 T.api_Tag (fun (nonce_2 : Option Addr) h =>
  callK Tryz.prog (.int .i64) F.law22_size #[.slice rows2.a rows2.n rows2.c] (fun (v3 : Int) h =>
  if (decide (v3 > 3000)) = true then
  callK Tryz.prog .bool F.law22_awake #[] (fun (v4 : Bool) h =>
  R (.bool v4) h) h
  else
  callK Tryz.prog .ptr F.tags_New #[.bool true, .slice none 0 0] (fun (v5 : Option Addr) h =>
  buildK Tryz.prog (Instr.build T.zugzwangref04_Maker #[(0, (.bool true))]) (fun (v6 : Array Value) =>
  newK h v6 T.zugzwangref04_Maker (fun (v7 : Option Addr) h =>
  callK Tryz.prog .slice F.kit_LentByteRows #[.slice rows2.a rows2.n rows2.c] (fun (v8 : Sl) h =>
  loadAggK (sizeOfT Tryz.prog T.api_Tag) h nonce_2 (fun (v9 : Array Value) =>
  callK Tryz.prog (Kd.pair .agg (.int .i64)) F.commit_Cover #[.pointer v5, .agg v9, .slice v8.a v8.n v8.c] (fun (v10 : Array Value × Int) h =>
  newK h (zerosOf Tryz.prog T.api_Tag) T.api_Tag (fun (a_11 : Option Addr) h =>
  storeAggK (sizeOfT Tryz.prog T.api_Tag) h a_11 v10.1 (fun h =>
  loadAggK (sizeOfT Tryz.prog T.api_Tag) h nonce_2 (fun (v12 : Array Value) =>
  callK Tryz.prog (Kd.pair .agg (.int .i64)) F.ref22_Cover #[.pointer v7, .agg v12, .slice rows2.a rows2.n rows2.c] (fun (v13 : Array Value × Int) h =>
  newK h (zerosOf Tryz.prog T.api_Tag) T.api_Tag (fun (b_14 : Option Addr) h =>
  storeAggK (sizeOfT Tryz.prog T.api_Tag) h b_14 v13.1 (fun h =>
  loadAggK (sizeOfT Tryz.prog T.api_Tag) h a_11 (fun (v15 : Array Value) =>
  loadAggK (sizeOfT Tryz.prog T.api_Tag) h b_14 (fun (v16 : Array Value) =>
  eqK Tryz.prog (binSem .eql T.api_Tag (.tmp 37) (.tmp 38) (.agg v15) (.agg v16)) (fun (v17 : Bool) =>
  if v17 = true then
  if (v10.2 == v13.2) = true then
  loadAggK (sizeOfT Tryz.prog T.api_Tag) h t_1 (fun (v18 : Array Value) =>
  loadAggK (sizeOfT Tryz.prog T.api_Tag) h nonce_2 (fun (v19 : Array Value) =>
  loadAggK (sizeOfT Tryz.prog T.api_Tag) h t_1 (fun (v20 : Array Value) =>
  loadAggK (sizeOfT Tryz.prog T.api_Tag) h b_14 (fun (v21 : Array Value) =>
  callK Tryz.prog (.int .i64) F.commit_Open #[.pointer v5, .agg v18, .agg v19, .slice v8.a v8.n v8.c] (fun (v22 : Int) h =>
  stillAggK (sizeOfT Tryz.prog T.api_Tag) h b_14 v21 ∧
  stillAggK (sizeOfT Tryz.prog T.api_Tag) h t_1 v20 ∧
  callK Tryz.prog (.int .i64) F.ref22_Fits #[.agg v20, .agg v21, .int .i64 v13.2] (fun (v23 : Int) h =>
  if (v22 == v23) = true then
  loadAggK (sizeOfT Tryz.prog T.api_Tag) h a_11 (fun (v24 : Array Value) =>
  loadAggK (sizeOfT Tryz.prog T.api_Tag) h nonce_2 (fun (v25 : Array Value) =>
  loadAggK (sizeOfT Tryz.prog T.api_Tag) h a_11 (fun (v26 : Array Value) =>
  loadAggK (sizeOfT Tryz.prog T.api_Tag) h b_14 (fun (v27 : Array Value) =>
  callK Tryz.prog (.int .i64) F.commit_Open #[.pointer v5, .agg v24, .agg v25, .slice v8.a v8.n v8.c] (fun (v28 : Int) h =>
  stillAggK (sizeOfT Tryz.prog T.api_Tag) h b_14 v27 ∧
  stillAggK (sizeOfT Tryz.prog T.api_Tag) h a_11 v26 ∧
  callK Tryz.prog (.int .i64) F.ref22_Fits #[.agg v26, .agg v27, .int .i64 v13.2] (fun (v29 : Int) h =>
  if (v28 == v29) = true then
  callK Tryz.prog .bool F.kit_KeptByteRows #[.slice v8.a v8.n v8.c, .slice rows2.a rows2.n rows2.c] (fun (v30 : Bool) h =>
  if v30 = true then
  callK Tryz.prog .bool F.law22_awake #[] (fun (v31 : Bool) h =>
  R (.bool v31) h) h
  else
  R (.bool false) h) h
  else
  R (.bool false) h) h) h))))
  else
  R (.bool false) h) h) h))))
  else
  R (.bool false) h
  else
  R (.bool false) h)))))) h)))) h)) h))) h) h))
def law22_CommitCovers.ann : Ann := (.seq .leaf (.seq (.seq .leaf (.cond (.seq .leaf .leaf) .leaf)) (.seq .leaf (.seq .leaf (.seq .leaf (.seq .leaf (.seq (.any (.st 0 2199023255548 (.st 1 2199023255548 (.loc 2 (.loc 3 (.locA 4 (.loc 5 (.loc 6 (.loc 7 (.loc 8 (.locA 9 (.loc 12 (.loc 16 (.st 10 2199023132672 (.st 11 2199023132672 (.st 14 2199023124480 (.st 15 2199023124480 (.last 13 (.last 17 (.loc 18 (.loc 19 (.loc 20 (.locA 21 (.loc 24 (.loc 28 (.st 22 2198519939072 (.st 23 2198519939072 (.st 26 2198486384640 (.st 27 2198486384640 (.last 25 (.last 29 (.loc 30 (.loc 31 (.loc 32 (.locA 33 (.loc 34 (.last 35 (.loc 36 (.loc 37 (.lastA 38 (.loc 39 (.loc 40 .done)) (.loc 39 (.loc 40 .done))))))) (.loc 34 (.loc 35 (.loc 36 (.loc 37 (.loc 38 (.loc 39 (.loc 40 .done))))))))))))))))))) (.loc 22 (.loc 23 (.loc 24 (.loc 25 (.loc 26 (.loc 27 (.loc 28 (.loc 29 (.loc 30 (.loc 31 (.loc 32 (.loc 33 (.loc 34 (.loc 35 (.loc 36 (.loc 37 (.loc 38 (.loc 39 (.loc 40 .done))))))))))))))))))))))))))))))) (.loc 10 (.loc 11 (.loc 12 (.loc 13 (.loc 14 (.loc 15 (.loc 16 (.loc 17 (.loc 18 (.loc 19 (.loc 20 (.loc 21 (.loc 22 (.loc 23 (.loc 24 (.loc 25 (.loc 26 (.loc 27 (.loc 28 (.loc 29 (.loc 30 (.loc 31 (.loc 32 (.loc 33 (.loc 34 (.loc 35 (.loc 36 (.loc 37 (.loc 38 (.loc 39 (.loc 40 .done)))))))))))))))))))))))))))))))))))) (.loc 5 (.loc 6 (.loc 7 (.loc 8 (.loc 9 (.loc 10 (.loc 11 (.loc 12 (.loc 13 (.loc 14 (.loc 15 (.loc 16 (.loc 17 (.loc 18 (.loc 19 (.loc 20 (.loc 21 (.loc 22 (.loc 23 (.loc 24 (.loc 25 (.loc 26 (.loc 27 (.loc 28 (.loc 29 (.loc 30 (.loc 31 (.loc 32 (.loc 33 (.loc 34 (.loc 35 (.loc 36 (.loc 37 (.loc 38 (.loc 39 (.loc 40 .done)))))))))))))))))))))))))))))))))))))))))) .leaf)))))))
theorem law22_CommitCovers.eq (t0 : Array Value) (nonce1 : Array Value) (rows2 : Sl) (R : Value → Heap → Prop) (h : Heap) : law22_CommitCovers.body t0 nonce1 rows2 R h = evFn Tryz.prog Tryz.f7 law22_CommitCovers.ann [.agg t0, .agg nonce1, .slice rows2.a rows2.n rows2.c] R h := by kernel_rfl
theorem law22_CommitCovers.calls {t0 : Array Value} {nonce1 : Array Value} {rows2 : Sl} {R : Value → Heap → Prop} {h : Heap} (H : law22_CommitCovers.body t0 nonce1 rows2 R h) : HC Tryz.prog F.law22_CommitCovers #[.agg t0, .agg nonce1, .slice rows2.a rows2.n rows2.c] R h :=
  evFn_sound mixed Tryz.func7 (by kernel_rfl) (law22_CommitCovers.eq t0 nonce1 rows2 R h ▸ H)

/-! (*zugzwang/digest.state).take -/
def digest_state_take.body (s0 : Option Addr) (b1 : Sl) (R : Value → Heap → Prop) (h : Heap) : Prop :=
  newK h (zerosOf Tryz.prog T.a64_uint32) T.a64_uint32 (fun (w_1 : Option Addr) h =>
  callK Tryz.prog (Kd.pair .slice (.int .i64)) F.bits_Words #[.slice b1.a b1.n b1.c] (fun (v2 : Sl × Int) h =>
  sliceArrK w_1 64 none none none (sizeOfT Tryz.prog T.uint32) (fun (v3 : Sl) =>
  opK Tryz.prog (.int .i64) (Builtin.copy_ #[T.sl_uint32, T.sl_uint32] T.int #[.slice v3.a v3.n v3.c, .slice v2.1.a v2.1.n v2.1.c]) (fun (v4 : Int) h =>
  loopW (fun X_6 (s_5 : Int) (h : Heap) =>
  if (decide (s_5 < 64)) = true then
  idxArrK w_1 64 (IntKind.i64.wrap (s_5 - 15)) (sizeOfT Tryz.prog T.uint32) (fun (a_7 : Addr) =>
  idxArrK w_1 64 (IntKind.i64.wrap (s_5 - 15)) (sizeOfT Tryz.prog T.uint32) (fun (a_8 : Addr) =>
  loadK (.int .u32) h ((some a_7)) (fun (v9 : Int) =>
  loadK (.int .u32) h ((some a_8)) (fun (v10 : Int) =>
  newSlK h 2 #[.int .i64 7, .int .i64 18] T.int (fun v11 h =>
  callK Tryz.prog (.int .u32) F.bits_Mix #[.int .u32 v9, .slice v11.a v11.n v11.c] (fun (v12 : Int) h =>
  stillK (.int .u32) h ((some a_8)) v10 ∧
  callK Tryz.prog (.int .u32) F.bits_Shift #[.int .u32 v10, .int .i64 3] (fun (v13 : Int) h =>
  idxArrK w_1 64 (IntKind.i64.wrap (s_5 - 2)) (sizeOfT Tryz.prog T.uint32) (fun (a_14 : Addr) =>
  idxArrK w_1 64 (IntKind.i64.wrap (s_5 - 2)) (sizeOfT Tryz.prog T.uint32) (fun (a_15 : Addr) =>
  loadK (.int .u32) h ((some a_14)) (fun (v16 : Int) =>
  loadK (.int .u32) h ((some a_15)) (fun (v17 : Int) =>
  newSlK h 2 #[.int .i64 17, .int .i64 19] T.int (fun v18 h =>
  callK Tryz.prog (.int .u32) F.bits_Mix #[.int .u32 v16, .slice v18.a v18.n v18.c] (fun (v19 : Int) h =>
  stillK (.int .u32) h ((some a_15)) v17 ∧
  callK Tryz.prog (.int .u32) F.bits_Shift #[.int .u32 v17, .int .i64 10] (fun (v20 : Int) h =>
  idxArrK w_1 64 (IntKind.i64.wrap (s_5 - 16)) (sizeOfT Tryz.prog T.uint32) (fun (a_21 : Addr) =>
  idxArrK w_1 64 (IntKind.i64.wrap (s_5 - 7)) (sizeOfT Tryz.prog T.uint32) (fun (a_22 : Addr) =>
  loadK (.int .u32) h ((some a_21)) (fun (v23 : Int) =>
  loadK (.int .u32) h ((some a_22)) (fun (v24 : Int) =>
  newSlK h 4 #[.int .u32 v23, (.int .u32 (IntKind.u32.wrap (BitVec.ofInt (IntKind.bits .u32) v12 ^^^ BitVec.ofInt (IntKind.bits .u32) v13).toNat)), .int .u32 v24, (.int .u32 (IntKind.u32.wrap (BitVec.ofInt (IntKind.bits .u32) v19 ^^^ BitVec.ofInt (IntKind.bits .u32) v20).toNat))] T.uint32 (fun v25 h =>
  callK Tryz.prog (.int .u32) F.bits_Sum #[.slice v25.a v25.n v25.c] (fun (v26 : Int) h =>
  idxArrK w_1 64 s_5 (sizeOfT Tryz.prog T.uint32) (fun (a_27 : Addr) =>
  storeK h ((some a_27)) (.int .u32 v26) (fun h =>
  X_6 (IntKind.i64.wrap (s_5 + 1)) h))) h)))))) h) h)))))) h) h)))))
  else
  derefK s0 (fun (a_28 : Addr) =>
  loadAggK (sizeOfT Tryz.prog T.digest_state) h ((some a_28)) (fun (v29 : Array Value) =>
  newK h (zerosOf Tryz.prog T.digest_state) T.digest_state (fun (was_30 : Option Addr) h =>
  storeAggK (sizeOfT Tryz.prog T.digest_state) h was_30 v29 (fun h =>
  callK Tryz.prog .agg F.digest_constants #[] (fun (v31 : Array Value) h =>
  loopW (fun X_33 (s_32 : Int) (h : Heap) =>
  if (decide (s_32 < 64)) = true then
  idxValK (.int .u32) v31 64 s_32 (sizeOfT Tryz.prog T.uint32) (fun (v34 : Int) =>
  idxArrK w_1 64 s_32 (sizeOfT Tryz.prog T.uint32) (fun (a_35 : Addr) =>
  loadK (.int .u32) h ((some a_35)) (fun (v36 : Int) =>
  callK Tryz.prog .unit F.digest_state_step #[.pointer s0, .int .u32 v36, .int .u32 v34] (fun (v37 : Unit) h =>
  X_33 (IntKind.i64.wrap (s_32 + 1)) h) h)))
  else
  loopW (fun X_39 (s_38 : Int) (h : Heap) =>
  if (decide (s_38 < 8)) = true then
  derefK s0 (fun (a_40 : Addr) =>
  idxArrK ((some a_40)) 8 s_38 (sizeOfT Tryz.prog T.uint32) (fun (a_41 : Addr) =>
  idxArrK was_30 8 s_38 (sizeOfT Tryz.prog T.uint32) (fun (a_42 : Addr) =>
  derefK s0 (fun (a_43 : Addr) =>
  loadK (.int .u32) h ((some a_41)) (fun (v44 : Int) =>
  loadK (.int .u32) h ((some a_42)) (fun (v45 : Int) =>
  idxArrK ((some a_43)) 8 s_38 (sizeOfT Tryz.prog T.uint32) (fun (a_46 : Addr) =>
  storeK h ((some a_46)) (.int .u32 (IntKind.u32.wrap (v44 + v45))) (fun h =>
  X_39 (IntKind.i64.wrap (s_38 + 1)) h))))))))
  else
  R (.tuple #[]) h) 0 h) 0 h) h))))) 16 h) h)) h)
def digest_state_take.ann : Ann := (.seq .leaf (.seq .leaf (.seq .leaf (.seq (.seq .leaf (.block (.loop [(7, (.int .i64))] (.seq (.seq .leaf (.cond .leaf .leaf)) (.seq (.block (.seq (.any (.loc 0 (.loc 1 (.loc 2 (.loc 6 (.loc 7 (.loc 8 (.st 3 7200 (.st 9 7168 (.last 4 (.last 5 (.last 10 (.loc 11 (.loc 12 .done)))))))))))))) (.seq (.any (.loc 0 (.loc 1 (.loc 2 (.loc 6 (.loc 7 (.loc 8 (.st 3 7200 (.st 9 7168 (.last 4 (.last 5 (.last 10 (.loc 11 (.loc 12 .done)))))))))))))) (.any (.loc 0 (.loc 1 (.loc 2 (.loc 3 (.loc 5 (.loc 6 (.loc 7 (.loc 8 (.loc 10 (.st 4 30720 (.st 9 30720 (.last 11 (.last 12 (.loc 13 (.last 14 .done))))))))))))))))))) .leaf))))) (.seq .leaf (.seq (.seq .leaf (.block (.loop [(68, (.int .i64))] (.seq .leaf (.seq (.cond .leaf .leaf) (.seq (.block (.seq .leaf .leaf)) .leaf)))))) (.seq .leaf (.block (.loop [(79, (.int .i64))] (.seq .leaf (.seq (.cond .leaf .leaf) (.seq (.block (.seq .leaf (.any (.loc 0 (.loc 1 (.loc 2 (.loc 3 (.loc 5 (.loc 6 (.loc 9 (.st 4 3328 (.st 7 3328 (.loc 8 (.loc 10 (.last 11 .done))))))))))))))) .leaf))))))))))))
theorem digest_state_take.eq (s0 : Option Addr) (b1 : Sl) (R : Value → Heap → Prop) (h : Heap) : digest_state_take.body s0 b1 R h = evFn Tryz.prog Tryz.f71 digest_state_take.ann [.pointer s0, .slice b1.a b1.n b1.c] R h := by kernel_rfl
theorem digest_state_take.calls {s0 : Option Addr} {b1 : Sl} {R : Value → Heap → Prop} {h : Heap} (H : digest_state_take.body s0 b1 R h) : HC Tryz.prog F.digest_state_take #[.pointer s0, .slice b1.a b1.n b1.c] R h :=
  evFn_sound mixed Tryz.func71 (by kernel_rfl) (digest_state_take.eq s0 b1 R h ▸ H)

/-! zugzwang/commit.Move -/
def commit_Move.body (m0 : Option Addr) (game1 : Array Value) (number2 : Int) (x3 : Array Value) (nonce4 : Array Value) (R : Value → Heap → Prop) (h : Heap) : Prop :=
  newK h game1 T.api_Tag (fun (game_1 : Option Addr) h =>
  newK h x3 T.api_Move (fun (x_2 : Option Addr) h =>
  newK h nonce4 T.api_Tag (fun (nonce_3 : Option Addr) h =>
  newK h (zerosOf Tryz.prog T.api_Tag) T.api_Tag (fun (v4 : Option Addr) h =>
  joinW (fun (s_5 : Bool) h =>
  shiftK 24
  (shiftK 16
  (shiftK 8
  (newSlK h 4 #[(.int .u8 (IntKind.u8.wrap (Int.fdiv number2 (2 ^ min (Int.toNat 24) (IntKind.bits .i64))))), (.int .u8 (IntKind.u8.wrap (Int.fdiv number2 (2 ^ min (Int.toNat 16) (IntKind.bits .i64))))), (.int .u8 (IntKind.u8.wrap (Int.fdiv number2 (2 ^ min (Int.toNat 8) (IntKind.bits .i64))))), (.int .u8 (IntKind.u8.wrap number2))] T.uint8 (fun v6 h =>
  sliceArrK game_1 32 none none none (sizeOfT Tryz.prog T.uint8) (fun (v7 : Sl) =>
  fldK x_2 0 (fun (a_8 : Addr) =>
  fldK x_2 1 (fun (a_9 : Addr) =>
  fldK x_2 2 (fun (a_10 : Addr) =>
  loadAggK (sizeOfT Tryz.prog T.api_Tag) h nonce_3 (fun (v11 : Array Value) =>
  loadK (.int .i64) h ((some a_8)) (fun (v12 : Int) =>
  loadK (.int .i64) h ((some a_9)) (fun (v13 : Int) =>
  loadK (.int .i64) h ((some a_10)) (fun (v14 : Int) =>
  ((newSlK h 4 #[.int .u8 109, .int .u8 111, .int .u8 118, .int .u8 101] T.uint8 (fun v15 h =>
  ((opK Tryz.prog .slice (convert T.sl_uint8 T.sl_uint8 (.slice v15.a v15.n v15.c)) (fun (v16 : Sl) h =>
  newSlK h 3 #[(.int .u8 (IntKind.u8.wrap v12)), (.int .u8 (IntKind.u8.wrap v13)), (.int .u8 (IntKind.u8.wrap v14))] T.uint8 (fun v17 h =>
  newSlK h 4 #[.slice v16.a v16.n v16.c, .slice v7.a v7.n v7.c, .slice v6.a v6.n v6.c, .slice v17.a v17.n v17.c] T.sl_uint8 (fun v18 h =>
  callK Tryz.prog (Kd.pair .agg (.int .i64)) F.commit_some #[.pointer m0, .bool s_5, .agg v11, .slice v18.a v18.n v18.c] (fun (v19 : Array Value × Int) h =>
  storeAggK (sizeOfT Tryz.prog T.api_Tag) h v4 v19.1 (fun h =>
  quietK Tryz.prog .agg (Instr.loadAt T.api_Tag (.pointer v4)) (fun r20 =>
  R (.tuple #[.agg r20, .int .i64 v19.2]) h) h)) h))) h) ∧
  (newSlK h 3 #[(.int .u8 (IntKind.u8.wrap v12)), (.int .u8 (IntKind.u8.wrap v13)), (.int .u8 (IntKind.u8.wrap v14))] T.uint8 (fun v21 h =>
  opK Tryz.prog .slice (convert T.sl_uint8 T.sl_uint8 (.slice v15.a v15.n v15.c)) (fun (v22 : Sl) h =>
  newSlK h 4 #[.slice v22.a v22.n v22.c, .slice v7.a v7.n v7.c, .slice v6.a v6.n v6.c, .slice v21.a v21.n v21.c] T.sl_uint8 (fun v23 h =>
  callK Tryz.prog (Kd.pair .agg (.int .i64)) F.commit_some #[.pointer m0, .bool s_5, .agg v11, .slice v23.a v23.n v23.c] (fun (v24 : Array Value × Int) h =>
  storeAggK (sizeOfT Tryz.prog T.api_Tag) h v4 v24.1 (fun h =>
  quietK Tryz.prog .agg (Instr.loadAt T.api_Tag (.pointer v4)) (fun r25 =>
  R (.tuple #[.agg r25, .int .i64 v24.2]) h) h)) h)) h))))) ∧
  (newSlK h 3 #[(.int .u8 (IntKind.u8.wrap v12)), (.int .u8 (IntKind.u8.wrap v13)), (.int .u8 (IntKind.u8.wrap v14))] T.uint8 (fun v26 h =>
  newSlK h 4 #[.int .u8 109, .int .u8 111, .int .u8 118, .int .u8 101] T.uint8 (fun v27 h =>
  opK Tryz.prog .slice (convert T.sl_uint8 T.sl_uint8 (.slice v27.a v27.n v27.c)) (fun (v28 : Sl) h =>
  newSlK h 4 #[.slice v28.a v28.n v28.c, .slice v7.a v7.n v7.c, .slice v6.a v6.n v6.c, .slice v26.a v26.n v26.c] T.sl_uint8 (fun v29 h =>
  callK Tryz.prog (Kd.pair .agg (.int .i64)) F.commit_some #[.pointer m0, .bool s_5, .agg v11, .slice v29.a v29.n v29.c] (fun (v30 : Array Value × Int) h =>
  storeAggK (sizeOfT Tryz.prog T.api_Tag) h v4 v30.1 (fun h =>
  quietK Tryz.prog .agg (Instr.loadAt T.api_Tag (.pointer v4)) (fun r31 =>
  R (.tuple #[.agg r31, .int .i64 v30.2]) h) h)) h)) h)))))))))))))))))
  (fun J_32 =>
  if (decide (number2 ≥ 0)) = true then
  if (decide (number2 ≤ 4294967295)) = true then
  loadAggK (sizeOfT Tryz.prog T.api_Move) h x_2 (fun (v33 : Array Value) =>
  buildK Tryz.prog (Instr.build T.api_Body #[(0, (.int .i64 1)), (1, (.agg v33))]) (fun (v34 : Array Value) =>
  callK Tryz.prog .bool F.msg_Body #[.agg v34] (fun (v35 : Bool) h =>
  J_32 v35 h) h))
  else
  J_32 false h
  else
  J_32 false h)))))
def commit_Move.ann : Ann := (.seq .leaf (.join [(12, .bool)] .leaf (.seq .leaf (.seq (.any (.loc 0 (.loc 1 (.loc 5 (.loc 6 (.loc 7 (.loc 10 (.loc 13 (.st 2 8126464 (.st 8 8323584 (.loc 9 (.st 11 8327168 (.loc 12 (.st 14 8355840 (.loc 15 (.alt 3 (.alt 4 (.last 16 (.last 17 (.last 18 (.loc 19 (.loc 20 (.last 21 (.loc 22 .done))))))) (.last 16 (.last 4 (.last 17 (.last 18 (.loc 19 (.loc 20 (.last 21 (.loc 22 .done))))))))) (.last 16 (.last 3 (.last 4 (.last 17 (.last 18 (.loc 19 (.loc 20 (.last 21 (.loc 22 .done))))))))))))))))))))))))) .leaf))))
theorem commit_Move.eq (m0 : Option Addr) (game1 : Array Value) (number2 : Int) (x3 : Array Value) (nonce4 : Array Value) (R : Value → Heap → Prop) (h : Heap) : commit_Move.body m0 game1 number2 x3 nonce4 R h = evFn Tryz.prog Tryz.f12 commit_Move.ann [.pointer m0, .agg game1, .int .i64 number2, .agg x3, .agg nonce4] R h := by kernel_rfl
theorem commit_Move.calls {m0 : Option Addr} {game1 : Array Value} {number2 : Int} {x3 : Array Value} {nonce4 : Array Value} {R : Value → Heap → Prop} {h : Heap} (H : commit_Move.body m0 game1 number2 x3 nonce4 R h) : HC Tryz.prog F.commit_Move #[.pointer m0, .agg game1, .int .i64 number2, .agg x3, .agg nonce4] R h :=
  evFn_sound mixed Tryz.func12 (by kernel_rfl) (commit_Move.eq m0 game1 number2 x3 nonce4 R h ▸ H)

/-! internal/bytealg.IndexRabinKarp[[]byte] -/
def internal_bytealg_IndexRabinKarp_byte.body (s0 : Sl) (sep1 : Sl) (R : Value → Heap → Prop) (h : Heap) : Prop :=
  callK Tryz.prog (Kd.pair (.int .u32) (.int .u32)) F.internal_bytealg_hashStr_byte #[.slice sep1.a sep1.n sep1.c] (fun (v1 : Int × Int) h =>
  loopW (fun X_3 (s_2 : Int × Int) (h : Heap) =>
  if (decide (s_2.2 < ((sep1.n : Int)))) = true then
  idxK s0 s_2.2 (sizeOfT Tryz.prog T.uint8) (fun (a_4 : Addr) =>
  loadK (.int .u8) h ((some a_4)) (fun (v5 : Int) =>
  X_3 (IntKind.u32.wrap ((IntKind.u32.wrap (s_2.1 * 16777619)) + (IntKind.u32.wrap v5)), IntKind.i64.wrap (s_2.2 + 1)) h))
  else
  joinW (fun (s_6 : Unit) h =>
  loopW (fun X_8 (s_7 : Int × Int) (h : Heap) =>
  if (decide (s_7.2 < ((s0.n : Int)))) = true then
  idxK s0 s_7.2 (sizeOfT Tryz.prog T.uint8) (fun (a_9 : Addr) =>
  loadK (.int .u8) h ((some a_9)) (fun (v10 : Int) =>
  idxK s0 (IntKind.i64.wrap (s_7.2 - ((sep1.n : Int)))) (sizeOfT Tryz.prog T.uint8) (fun (a_11 : Addr) =>
  loadK (.int .u8) h ((some a_11)) (fun (v12 : Int) =>
  if ((IntKind.u32.wrap ((IntKind.u32.wrap ((IntKind.u32.wrap (s_7.1 * 16777619)) + (IntKind.u32.wrap v10))) - (IntKind.u32.wrap (v1.2 * (IntKind.u32.wrap v12))))) == v1.1) = true then
  sliceK s0 (some (IntKind.i64.wrap ((IntKind.i64.wrap (s_7.2 + 1)) - ((sep1.n : Int))))) (some (IntKind.i64.wrap (s_7.2 + 1))) none (sizeOfT Tryz.prog T.uint8) (fun (v13 : Sl) =>
  ((opK Tryz.prog .str (convert T.sl_uint8 T.string (.slice v13.a v13.n v13.c)) (fun (v14 : ByteArray) h =>
  opK Tryz.prog .str (convert T.sl_uint8 T.string (.slice sep1.a sep1.n sep1.c)) (fun (v15 : ByteArray) h =>
  if (v14.toList == v15.toList) = true then
  R (.int .i64 (IntKind.i64.wrap ((IntKind.i64.wrap (s_7.2 + 1)) - ((sep1.n : Int))))) h
  else
  X_8 (IntKind.u32.wrap ((IntKind.u32.wrap ((IntKind.u32.wrap (s_7.1 * 16777619)) + (IntKind.u32.wrap v10))) - (IntKind.u32.wrap (v1.2 * (IntKind.u32.wrap v12)))), IntKind.i64.wrap (s_7.2 + 1)) h) h) h) ∧
  (opK Tryz.prog .str (convert T.sl_uint8 T.string (.slice sep1.a sep1.n sep1.c)) (fun (v16 : ByteArray) h =>
  opK Tryz.prog .str (convert T.sl_uint8 T.string (.slice v13.a v13.n v13.c)) (fun (v17 : ByteArray) h =>
  if (v17.toList == v16.toList) = true then
  R (.int .i64 (IntKind.i64.wrap ((IntKind.i64.wrap (s_7.2 + 1)) - ((sep1.n : Int))))) h
  else
  X_8 (IntKind.u32.wrap ((IntKind.u32.wrap ((IntKind.u32.wrap (s_7.1 * 16777619)) + (IntKind.u32.wrap v10))) - (IntKind.u32.wrap (v1.2 * (IntKind.u32.wrap v12)))), IntKind.i64.wrap (s_7.2 + 1)) h) h) h)))
  else
  X_8 (IntKind.u32.wrap ((IntKind.u32.wrap ((IntKind.u32.wrap (s_7.1 * 16777619)) + (IntKind.u32.wrap v10))) - (IntKind.u32.wrap (v1.2 * (IntKind.u32.wrap v12)))), IntKind.i64.wrap (s_7.2 + 1)) h))))
  else
  R (.int .i64 ((-1))) h) (s_2.1, (sep1.n : Int)) h)
  (fun J_18 =>
  if (s_2.1 == v1.1) = true then
  sliceK s0 none (some ((sep1.n : Int))) none (sizeOfT Tryz.prog T.uint8) (fun (v19 : Sl) =>
  ((opK Tryz.prog .str (convert T.sl_uint8 T.string (.slice v19.a v19.n v19.c)) (fun (v20 : ByteArray) h =>
  opK Tryz.prog .str (convert T.sl_uint8 T.string (.slice sep1.a sep1.n sep1.c)) (fun (v21 : ByteArray) h =>
  if (v20.toList == v21.toList) = true then
  R (.int .i64 0) h
  else
  J_18 () h) h) h) ∧
  (opK Tryz.prog .str (convert T.sl_uint8 T.string (.slice sep1.a sep1.n sep1.c)) (fun (v22 : ByteArray) h =>
  opK Tryz.prog .str (convert T.sl_uint8 T.string (.slice v19.a v19.n v19.c)) (fun (v23 : ByteArray) h =>
  if (v23.toList == v22.toList) = true then
  R (.int .i64 0) h
  else
  J_18 () h) h) h)))
  else
  J_18 () h)) (0, 0) h) h
def internal_bytealg_IndexRabinKarp_byte.ann : Ann := (.seq .leaf (.seq .leaf (.seq .leaf (.seq .leaf (.seq (.seq .leaf (.block (.loop [(8, (.int .u32)), (9, (.int .i64))] (.seq (.seq .leaf (.cond .leaf .leaf)) (.seq (.block .leaf) .leaf))))) (.join [] (.seq (.any (.loc 0 (.loc 1 (.loc 2 (.loc 3 (.locA 4 (.loc 5 (.loc 6 (.loc 8 (.alt 7 (.last 9 (.loc 10 (.loc 11 .done))) (.last 9 (.last 7 (.loc 10 (.loc 11 .done)))))))) (.loc 5 (.loc 6 (.loc 7 (.loc 8 (.loc 9 (.loc 10 (.loc 11 .done))))))))))))) (.cond (.seq .leaf .leaf) .leaf)) (.seq (.seq .leaf (.block (.loop [(8, (.int .u32)), (10, (.int .i64))] (.seq (.seq .leaf (.cond .leaf .leaf)) (.block (.seq .leaf (.seq .leaf (.seq .leaf (.seq .leaf (.seq (.any (.loc 0 (.loc 1 (.loc 2 (.loc 3 (.locA 4 (.loc 5 (.loc 6 (.loc 7 (.loc 8 (.loc 9 (.loc 11 (.alt 10 (.last 12 (.loc 13 (.loc 14 .done))) (.last 12 (.last 10 (.loc 13 (.loc 14 .done))))))))))) (.loc 5 (.loc 6 (.loc 7 (.loc 8 (.loc 9 (.loc 10 (.loc 11 (.loc 12 (.loc 13 (.loc 14 .done)))))))))))))))) (.cond (.seq .leaf .leaf) .leaf))))))))))) (.seq .leaf .leaf))))))))
theorem internal_bytealg_IndexRabinKarp_byte.eq (s0 : Sl) (sep1 : Sl) (R : Value → Heap → Prop) (h : Heap) : internal_bytealg_IndexRabinKarp_byte.body s0 sep1 R h = evFn Tryz.prog Tryz.f90 internal_bytealg_IndexRabinKarp_byte.ann [.slice s0.a s0.n s0.c, .slice sep1.a sep1.n sep1.c] R h := by kernel_rfl
theorem internal_bytealg_IndexRabinKarp_byte.calls {s0 : Sl} {sep1 : Sl} {R : Value → Heap → Prop} {h : Heap} (H : internal_bytealg_IndexRabinKarp_byte.body s0 sep1 R h) : HC Tryz.prog F.internal_bytealg_IndexRabinKarp_byte #[.slice s0.a s0.n s0.c, .slice sep1.a sep1.n sep1.c] R h :=
  evFn_sound mixed Tryz.func90 (by kernel_rfl) (internal_bytealg_IndexRabinKarp_byte.eq s0 sep1 R h ▸ H)

/-! zugzwang/zugzwangref18.Body -/
def ref18_Body.body (b0 : Array Value) (R : Value → Heap → Prop) (h : Heap) : Prop :=
  newK h b0 T.api_Body (fun (b_1 : Option Addr) h =>
  fldK b_1 0 (fun (a_2 : Addr) =>
  loadK (.int .i64) h ((some a_2)) (fun (v3 : Int) =>
  buildK Tryz.prog (Instr.build T.api_Body #[(0, (.int .i64 v3))]) (fun (v4 : Array Value) =>
  newK h (zerosOf Tryz.prog T.api_Body) T.api_Body (fun (has_5 : Option Addr) h =>
  storeAggK (sizeOfT Tryz.prog T.api_Body) h has_5 v4 (fun h =>
  joinW (fun (s_6 : Unit) h =>
  loadAggK (sizeOfT Tryz.prog T.api_Body) h has_5 (fun (v7 : Array Value) =>
  loadAggK (sizeOfT Tryz.prog T.api_Body) h b_1 (fun (v8 : Array Value) =>
  eqK Tryz.prog (binSem .eql T.api_Body (.tmp 47) (.tmp 48) (.agg v7) (.agg v8)) (fun (v9 : Bool) =>
  if v9 = true then
  fldK b_1 0 (fun (a_10 : Addr) =>
  loadK (.int .i64) h ((some a_10)) (fun (v11 : Int) =>
  if (v11 != 1) = true then
  fldK b_1 0 (fun (a_12 : Addr) =>
  loadK (.int .i64) h ((some a_12)) (fun (v13 : Int) =>
  if (v13 != 7) = true then
  R (.bool true) h
  else
  fldK b_1 1 (fun (a_14 : Addr) =>
  loadAggK (sizeOfT Tryz.prog T.api_Move) h ((some a_14)) (fun (v15 : Array Value) =>
  callK Tryz.prog .bool F.ref18_move #[.agg v15] (fun (v16 : Bool) h =>
  R (.bool v16) h) h))))
  else
  fldK b_1 1 (fun (a_17 : Addr) =>
  loadAggK (sizeOfT Tryz.prog T.api_Move) h ((some a_17)) (fun (v18 : Array Value) =>
  callK Tryz.prog .bool F.ref18_move #[.agg v18] (fun (v19 : Bool) h =>
  R (.bool v19) h) h))))
  else
  R (.bool false) h))))
  (fun J_20 =>
  fldK b_1 0 (fun (a_21 : Addr) =>
  loadK (.int .i64) h ((some a_21)) (fun (v22 : Int) =>
  if (v22 == 1) = true then
  fldK b_1 1 (fun (a_23 : Addr) =>
  loadAggK (sizeOfT Tryz.prog T.api_Move) h ((some a_23)) (fun (v24 : Array Value) =>
  fldK has_5 1 (fun (a_25 : Addr) =>
  storeAggK (sizeOfT Tryz.prog T.api_Move) h ((some a_25)) v24 (fun h =>
  fldK b_1 4 (fun (a_26 : Addr) =>
  loadK .bool h ((some a_26)) (fun (v27 : Bool) =>
  fldK has_5 4 (fun (a_28 : Addr) =>
  storeK h ((some a_28)) (.bool v27) (fun h =>
  J_20 () h))))))))
  else
  if (v22 == 2) = true then
  fldK b_1 5 (fun (a_29 : Addr) =>
  loadK (.int .i64) h ((some a_29)) (fun (v30 : Int) =>
  fldK has_5 5 (fun (a_31 : Addr) =>
  storeK h ((some a_31)) (.int .i64 v30) (fun h =>
  fldK b_1 5 (fun (a_32 : Addr) =>
  loadK (.int .i64) h ((some a_32)) (fun (v33 : Int) =>
  if (v33 != 6) = true then
  fldK b_1 5 (fun (a_34 : Addr) =>
  loadK (.int .i64) h ((some a_34)) (fun (v35 : Int) =>
  if (v35 != 7) = true then
  R (.bool false) h
  else
  J_20 () h))
  else
  J_20 () h))))))
  else
  joinW (fun (s_36 : Bool) h =>
  if s_36 = true then
  J_20 () h
  else
  if (v22 == 5) = true then
  fldK b_1 6 (fun (a_37 : Addr) =>
  loadAggK (sizeOfT Tryz.prog T.api_Tag) h ((some a_37)) (fun (v38 : Array Value) =>
  fldK has_5 6 (fun (a_39 : Addr) =>
  storeAggK (sizeOfT Tryz.prog T.api_Tag) h ((some a_39)) v38 (fun h =>
  J_20 () h))))
  else
  if (v22 == 7) = true then
  fldK b_1 1 (fun (a_40 : Addr) =>
  loadAggK (sizeOfT Tryz.prog T.api_Move) h ((some a_40)) (fun (v41 : Array Value) =>
  fldK has_5 1 (fun (a_42 : Addr) =>
  storeAggK (sizeOfT Tryz.prog T.api_Move) h ((some a_42)) v41 (fun h =>
  fldK b_1 38 (fun (a_43 : Addr) =>
  loadAggK (sizeOfT Tryz.prog T.api_Tag) h ((some a_43)) (fun (v44 : Array Value) =>
  fldK has_5 38 (fun (a_45 : Addr) =>
  storeAggK (sizeOfT Tryz.prog T.api_Tag) h ((some a_45)) v44 (fun h =>
  J_20 () h))))))))
  else
  R (.bool false) h)
  (fun J_46 =>
  if (v22 == 3) = true then
  J_46 (v22 == 3) h
  else
  if (v22 == 4) = true then
  J_46 (v22 == 4) h
  else
  J_46 (v22 == 6) h))))))))))
def ref18_Body.ann : Ann := (.seq .leaf (.seq .leaf (.join [] (.seq .leaf (.block (.seq .leaf (.cond (.seq .leaf .leaf) (.seq .leaf (.cond (.seq .leaf (.seq .leaf (.cond (.seq .leaf .leaf) .leaf))) (.join [(30, .bool)] (.seq .leaf (.cond .leaf (.seq .leaf (.cond .leaf .leaf)))) (.cond .leaf (.seq .leaf (.cond .leaf (.seq .leaf (.cond (.seq .leaf .leaf) (.seq .leaf .leaf))))))))))))) (.seq .leaf .leaf))))
theorem ref18_Body.eq (b0 : Array Value) (R : Value → Heap → Prop) (h : Heap) : ref18_Body.body b0 R h = evFn Tryz.prog Tryz.f32 ref18_Body.ann [.agg b0] R h := by kernel_rfl
theorem ref18_Body.calls {b0 : Array Value} {R : Value → Heap → Prop} {h : Heap} (H : ref18_Body.body b0 R h) : HC Tryz.prog F.ref18_Body #[.agg b0] R h :=
  evFn_sound mixed Tryz.func32 (by kernel_rfl) (ref18_Body.eq b0 R h ▸ H)

/-! zugzwang/codec.put[zugzwang/api.Tag] -/
def codec_put_api_Tag.body (w0 : Option Addr) (r1 : Array Value) (l2 : Sl) (R : Value → Heap → Prop) (h : Heap) : Prop :=
  newK h r1 T.codec_ruleaapi_Tag (fun (r1 : Option Addr) h =>
  if w0.isNone = true then
  R (.int .i64 1) h
  else
  derefK w0 (fun (a_2 : Addr) =>
  fldK ((some a_2)) 0 (fun (a_3 : Addr) =>
  fldK ((some a_3)) 0 (fun (a_4 : Addr) =>
  loadK .bool h ((some a_4)) (fun (v5 : Bool) =>
  if (!v5) = true then
  R (.int .i64 1) h
  else
  joinW (fun (s_6 : Unit) h =>
  derefK w0 (fun (a_7 : Addr) =>
  fldK ((some a_7)) 0 (fun (a_8 : Addr) =>
  fldK ((some a_8)) 1 (fun (a_9 : Addr) =>
  loadK (.int .i64) h ((some a_9)) (fun (v10 : Int) =>
  R (.int .i64 v10) h)))))
  (fun J_11 =>
  loopW (fun X_13 (s_12 : Int) (h : Heap) =>
  if (decide (s_12 < ((l2.n : Int)))) = true then
  idxK l2 s_12 (sizeOfT Tryz.prog T.api_Tag) (fun (a_14 : Addr) =>
  loadAggK (sizeOfT Tryz.prog T.api_Tag) h ((some a_14)) (fun (v15 : Array Value) =>
  newK h (zerosOf Tryz.prog T.api_Tag) T.api_Tag (fun (x_16 : Option Addr) h =>
  storeAggK (sizeOfT Tryz.prog T.api_Tag) h x_16 v15 (fun h =>
  derefK w0 (fun (a_17 : Addr) =>
  fldK ((some a_17)) 0 (fun (a_18 : Addr) =>
  callK Tryz.prog .bool F.codec_state_sound #[(.pointer ((some a_18)))] (fun (v19 : Bool) h =>
  if (!v19) = true then
  J_11 () h
  else
  joinW (fun (s_20 : Bool) h =>
  if s_20 = true then
  derefK w0 (fun (a_21 : Addr) =>
  fldK ((some a_21)) 0 (fun (a_22 : Addr) =>
  callK Tryz.prog (.int .i64) F.codec_state_spoil #[(.pointer ((some a_22))), .int .i64 2] (fun (v23 : Int) h =>
  R (.int .i64 v23) h) h))
  else
  fldK r1 1 (fun (a_24 : Addr) =>
  loadK .any h ((some a_24)) (fun (v25 : Value) =>
  loadAggK (sizeOfT Tryz.prog T.api_Tag) h x_16 (fun (v26 : Array Value) =>
  callV Tryz.prog .slice v25 #[.agg v26] (fun (v27 : Sl) h =>
  derefK w0 (fun (a_28 : Addr) =>
  fldK ((some a_28)) 2 (fun (a_29 : Addr) =>
  loadK .slice h ((some a_29)) (fun (v30 : Sl) =>
  if (decide ((IntKind.i64.wrap (((v30.n : Int)) + ((v27.n : Int)))) > 65536)) = true then
  derefK w0 (fun (a_31 : Addr) =>
  fldK ((some a_31)) 0 (fun (a_32 : Addr) =>
  callK Tryz.prog (.int .i64) F.codec_state_spoil #[(.pointer ((some a_32))), .int .i64 3] (fun (v33 : Int) h =>
  R (.int .i64 v33) h) h))
  else
  derefK w0 (fun (a_34 : Addr) =>
  fldK ((some a_34)) 2 (fun (a_35 : Addr) =>
  loadK .slice h ((some a_35)) (fun (v36 : Sl) =>
  opK Tryz.prog .slice (Builtin.append_ #[T.sl_uint8, T.sl_uint8] T.sl_uint8 #[.slice v36.a v36.n v36.c, .slice v27.a v27.n v27.c]) (fun (v37 : Sl) h =>
  derefK w0 (fun (a_38 : Addr) =>
  fldK ((some a_38)) 2 (fun (a_39 : Addr) =>
  storeK h ((some a_39)) (.slice v37.a v37.n v37.c) (fun h =>
  X_13 (IntKind.i64.wrap (s_12 + 1)) h)))) h))))))) h))))
  (fun J_40 =>
  fldK r1 0 (fun (a_41 : Addr) =>
  loadK .any h ((some a_41)) (fun (v42 : Value) =>
  eqK Tryz.prog (binSem .neq T.func106 (.tmp 32) (.const Value.nilFunc) v42 Value.nilFunc) (fun (v43 : Bool) =>
  if v43 = true then
  fldK r1 0 (fun (a_44 : Addr) =>
  loadK .any h ((some a_44)) (fun (v45 : Value) =>
  loadAggK (sizeOfT Tryz.prog T.api_Tag) h x_16 (fun (v46 : Array Value) =>
  callV Tryz.prog .bool v45 #[.agg v46] (fun (v47 : Bool) h =>
  J_40 (!v47) h) h)))
  else
  J_40 false h))))) h))))))
  else
  J_11 () h) 0 h))))))
def codec_put_api_Tag.ann : Ann := (.seq .leaf (.seq (.seq .leaf (.cond (.seq .leaf .leaf) .leaf)) (.join [] (.seq .leaf (.block (.loop [(22, (.int .i64))] (.seq .leaf (.seq (.cond .leaf .leaf) (.seq (.block (.seq .leaf (.seq (.seq .leaf (.cond .leaf .leaf)) (.seq (.join [(40, .bool)] .leaf (.cond (.seq .leaf .leaf) .leaf)) (.seq .leaf (.seq (.seq .leaf (.cond (.seq .leaf .leaf) .leaf)) .leaf)))))) .leaf)))))) (.seq .leaf .leaf))))
theorem codec_put_api_Tag.eq (w0 : Option Addr) (r1 : Array Value) (l2 : Sl) (R : Value → Heap → Prop) (h : Heap) : codec_put_api_Tag.body w0 r1 l2 R h = evFn Tryz.prog Tryz.f56 codec_put_api_Tag.ann [.pointer w0, .agg r1, .slice l2.a l2.n l2.c] R h := by kernel_rfl
theorem codec_put_api_Tag.calls {w0 : Option Addr} {r1 : Array Value} {l2 : Sl} {R : Value → Heap → Prop} {h : Heap} (H : codec_put_api_Tag.body w0 r1 l2 R h) : HC Tryz.prog F.codec_put_api_Tag #[.pointer w0, .agg r1, .slice l2.a l2.n l2.c] R h :=
  evFn_sound mixed Tryz.func56 (by kernel_rfl) (codec_put_api_Tag.eq w0 r1 l2 R h ▸ H)

/-! zugzwang/codec.put[[]byte] -/
def codec_put_byte.body (w0 : Option Addr) (r1 : Array Value) (l2 : Sl) (R : Value → Heap → Prop) (h : Heap) : Prop :=
  newK h r1 T.codec_ruleasl_byte (fun (r1 : Option Addr) h =>
  if w0.isNone = true then
  R (.int .i64 1) h
  else
  derefK w0 (fun (a_2 : Addr) =>
  fldK ((some a_2)) 0 (fun (a_3 : Addr) =>
  fldK ((some a_3)) 0 (fun (a_4 : Addr) =>
  loadK .bool h ((some a_4)) (fun (v5 : Bool) =>
  if (!v5) = true then
  R (.int .i64 1) h
  else
  joinW (fun (s_6 : Unit) h =>
  derefK w0 (fun (a_7 : Addr) =>
  fldK ((some a_7)) 0 (fun (a_8 : Addr) =>
  fldK ((some a_8)) 1 (fun (a_9 : Addr) =>
  loadK (.int .i64) h ((some a_9)) (fun (v10 : Int) =>
  R (.int .i64 v10) h)))))
  (fun J_11 =>
  loopW (fun X_13 (s_12 : Int) (h : Heap) =>
  if (decide (s_12 < ((l2.n : Int)))) = true then
  idxK l2 s_12 (sizeOfT Tryz.prog T.sl_uint8) (fun (a_14 : Addr) =>
  loadK .slice h ((some a_14)) (fun (v15 : Sl) =>
  derefK w0 (fun (a_16 : Addr) =>
  fldK ((some a_16)) 0 (fun (a_17 : Addr) =>
  callK Tryz.prog .bool F.codec_state_sound #[(.pointer ((some a_17)))] (fun (v18 : Bool) h =>
  if (!v18) = true then
  J_11 () h
  else
  joinW (fun (s_19 : Bool) h =>
  if s_19 = true then
  derefK w0 (fun (a_20 : Addr) =>
  fldK ((some a_20)) 0 (fun (a_21 : Addr) =>
  callK Tryz.prog (.int .i64) F.codec_state_spoil #[(.pointer ((some a_21))), .int .i64 2] (fun (v22 : Int) h =>
  R (.int .i64 v22) h) h))
  else
  fldK r1 1 (fun (a_23 : Addr) =>
  loadK .any h ((some a_23)) (fun (v24 : Value) =>
  callV Tryz.prog .slice v24 #[.slice v15.a v15.n v15.c] (fun (v25 : Sl) h =>
  derefK w0 (fun (a_26 : Addr) =>
  fldK ((some a_26)) 2 (fun (a_27 : Addr) =>
  loadK .slice h ((some a_27)) (fun (v28 : Sl) =>
  if (decide ((IntKind.i64.wrap (((v28.n : Int)) + ((v25.n : Int)))) > 65536)) = true then
  derefK w0 (fun (a_29 : Addr) =>
  fldK ((some a_29)) 0 (fun (a_30 : Addr) =>
  callK Tryz.prog (.int .i64) F.codec_state_spoil #[(.pointer ((some a_30))), .int .i64 3] (fun (v31 : Int) h =>
  R (.int .i64 v31) h) h))
  else
  derefK w0 (fun (a_32 : Addr) =>
  fldK ((some a_32)) 2 (fun (a_33 : Addr) =>
  loadK .slice h ((some a_33)) (fun (v34 : Sl) =>
  opK Tryz.prog .slice (Builtin.append_ #[T.sl_uint8, T.sl_uint8] T.sl_uint8 #[.slice v34.a v34.n v34.c, .slice v25.a v25.n v25.c]) (fun (v35 : Sl) h =>
  derefK w0 (fun (a_36 : Addr) =>
  fldK ((some a_36)) 2 (fun (a_37 : Addr) =>
  storeK h ((some a_37)) (.slice v35.a v35.n v35.c) (fun h =>
  X_13 (IntKind.i64.wrap (s_12 + 1)) h)))) h))))))) h)))
  (fun J_38 =>
  fldK r1 0 (fun (a_39 : Addr) =>
  loadK .any h ((some a_39)) (fun (v40 : Value) =>
  eqK Tryz.prog (binSem .neq T.func71 (.tmp 32) (.const Value.nilFunc) v40 Value.nilFunc) (fun (v41 : Bool) =>
  if v41 = true then
  fldK r1 0 (fun (a_42 : Addr) =>
  loadK .any h ((some a_42)) (fun (v43 : Value) =>
  callV Tryz.prog .bool v43 #[.slice v15.a v15.n v15.c] (fun (v44 : Bool) h =>
  J_38 (!v44) h) h))
  else
  J_38 false h))))) h))))
  else
  J_11 () h) 0 h))))))
def codec_put_byte.ann : Ann := (.seq .leaf (.seq (.seq .leaf (.cond (.seq .leaf .leaf) .leaf)) (.join [] (.seq .leaf (.block (.loop [(22, (.int .i64))] (.seq .leaf (.seq (.cond .leaf .leaf) (.seq (.block (.seq .leaf (.seq (.seq .leaf (.cond .leaf .leaf)) (.seq (.join [(40, .bool)] .leaf (.cond (.seq .leaf .leaf) .leaf)) (.seq .leaf (.seq (.seq .leaf (.cond (.seq .leaf .leaf) .leaf)) .leaf)))))) .leaf)))))) (.seq .leaf .leaf))))
theorem codec_put_byte.eq (w0 : Option Addr) (r1 : Array Value) (l2 : Sl) (R : Value → Heap → Prop) (h : Heap) : codec_put_byte.body w0 r1 l2 R h = evFn Tryz.prog Tryz.f53 codec_put_byte.ann [.pointer w0, .agg r1, .slice l2.a l2.n l2.c] R h := by kernel_rfl
theorem codec_put_byte.calls {w0 : Option Addr} {r1 : Array Value} {l2 : Sl} {R : Value → Heap → Prop} {h : Heap} (H : codec_put_byte.body w0 r1 l2 R h) : HC Tryz.prog F.codec_put_byte #[.pointer w0, .agg r1, .slice l2.a l2.n l2.c] R h :=
  evFn_sound mixed Tryz.func53 (by kernel_rfl) (codec_put_byte.eq w0 r1 l2 R h ▸ H)

/-! zugzwang/tags.number -/
def tags_number.body (n0 : Int) (R : Value → Heap → Prop) (h : Heap) : Prop :=
  newK h (zerosOf Tryz.prog T.api_Tag) T.api_Tag (fun (t_1 : Option Addr) h =>
  sliceArrK t_1 32 none none none (sizeOfT Tryz.prog T.uint8) (fun (v2 : Sl) =>
  ((newSlK h 8 #[.int .u8 122, .int .u8 117, .int .u8 103, .int .u8 122, .int .u8 119, .int .u8 97, .int .u8 110, .int .u8 103] T.uint8 (fun v3 h =>
  ((opK Tryz.prog .slice (convert T.sl_uint8 T.sl_uint8 (.slice v3.a v3.n v3.c)) (fun (v4 : Sl) h =>
  callK Tryz.prog .slice F.tags_eight #[.int .i64 n0] (fun (v5 : Sl) h =>
  newSlK h 2 #[.slice v4.a v4.n v4.c, .slice v5.a v5.n v5.c] T.sl_uint8 (fun v6 h =>
  callK Tryz.prog .slice F.slices_Concat_byte_byte #[.slice v6.a v6.n v6.c] (fun (v7 : Sl) h =>
  opK Tryz.prog (.int .i64) (Builtin.copy_ #[T.sl_uint8, T.sl_uint8] T.int #[.slice v2.a v2.n v2.c, .slice v7.a v7.n v7.c]) (fun (v8 : Int) h =>
  loadAggK (sizeOfT Tryz.prog T.api_Tag) h t_1 (fun (v9 : Array Value) =>
  storeAggK (sizeOfT Tryz.prog T.api_Tag) h t_1 v9 (fun h =>
  quietK Tryz.prog .agg (Instr.loadAt T.api_Tag (.pointer t_1)) (fun r10 =>
  R (.agg r10) h) h))) h) h)) h) h) ∧
  (callK Tryz.prog .slice F.tags_eight #[.int .i64 n0] (fun (v11 : Sl) h =>
  opK Tryz.prog .slice (convert T.sl_uint8 T.sl_uint8 (.slice v3.a v3.n v3.c)) (fun (v12 : Sl) h =>
  newSlK h 2 #[.slice v12.a v12.n v12.c, .slice v11.a v11.n v11.c] T.sl_uint8 (fun v13 h =>
  callK Tryz.prog .slice F.slices_Concat_byte_byte #[.slice v13.a v13.n v13.c] (fun (v14 : Sl) h =>
  opK Tryz.prog (.int .i64) (Builtin.copy_ #[T.sl_uint8, T.sl_uint8] T.int #[.slice v2.a v2.n v2.c, .slice v14.a v14.n v14.c]) (fun (v15 : Int) h =>
  loadAggK (sizeOfT Tryz.prog T.api_Tag) h t_1 (fun (v16 : Array Value) =>
  storeAggK (sizeOfT Tryz.prog T.api_Tag) h t_1 v16 (fun h =>
  quietK Tryz.prog .agg (Instr.loadAt T.api_Tag (.pointer t_1)) (fun r17 =>
  R (.agg r17) h) h))) h) h)) h) h)))) ∧
  (callK Tryz.prog .slice F.tags_eight #[.int .i64 n0] (fun (v18 : Sl) h =>
  newSlK h 8 #[.int .u8 122, .int .u8 117, .int .u8 103, .int .u8 122, .int .u8 119, .int .u8 97, .int .u8 110, .int .u8 103] T.uint8 (fun v19 h =>
  opK Tryz.prog .slice (convert T.sl_uint8 T.sl_uint8 (.slice v19.a v19.n v19.c)) (fun (v20 : Sl) h =>
  newSlK h 2 #[.slice v20.a v20.n v20.c, .slice v18.a v18.n v18.c] T.sl_uint8 (fun v21 h =>
  callK Tryz.prog .slice F.slices_Concat_byte_byte #[.slice v21.a v21.n v21.c] (fun (v22 : Sl) h =>
  opK Tryz.prog (.int .i64) (Builtin.copy_ #[T.sl_uint8, T.sl_uint8] T.int #[.slice v2.a v2.n v2.c, .slice v22.a v22.n v22.c]) (fun (v23 : Int) h =>
  loadAggK (sizeOfT Tryz.prog T.api_Tag) h t_1 (fun (v24 : Array Value) =>
  storeAggK (sizeOfT Tryz.prog T.api_Tag) h t_1 v24 (fun h =>
  quietK Tryz.prog .agg (Instr.loadAt T.api_Tag (.pointer t_1)) (fun r25 =>
  R (.agg r25) h) h))) h) h)) h)) h))))
def tags_number.ann : Ann := (.seq .leaf (.seq (.any (.loc 0 (.loc 3 (.alt 1 (.alt 2 (.last 4 (.last 5 (.last 6 (.last 7 .done)))) (.last 4 (.last 2 (.last 5 (.last 6 (.last 7 .done)))))) (.last 4 (.last 1 (.last 2 (.last 5 (.last 6 (.last 7 .done)))))))))) (.seq .leaf .leaf)))
theorem tags_number.eq (n0 : Int) (R : Value → Heap → Prop) (h : Heap) : tags_number.body n0 R h = evFn Tryz.prog Tryz.f62 tags_number.ann [.int .i64 n0] R h := by kernel_rfl
theorem tags_number.calls {n0 : Int} {R : Value → Heap → Prop} {h : Heap} (H : tags_number.body n0 R h) : HC Tryz.prog F.tags_number #[.int .i64 n0] R h :=
  evFn_sound mixed Tryz.func62 (by kernel_rfl) (tags_number.eq n0 R h ▸ H)

/-! zugzwang/zugzwangref22.Cover -/
def ref22_Cover.body (m0 : Option Addr) (nonce1 : Array Value) (rows2 : Sl) (R : Value → Heap → Prop) (h : Heap) : Prop :=
  newK h nonce1 T.api_Tag (fun (nonce_1 : Option Addr) h =>
  newK h (zerosOf Tryz.prog T.api_Tag) T.api_Tag (fun (v2 : Option Addr) h =>
  loopW (fun X_4 (s_3 : Sl × Int) (h : Heap) =>
  if (decide (s_3.2 < ((rows2.n : Int)))) = true then
  idxK rows2 s_3.2 (sizeOfT Tryz.prog T.sl_uint8) (fun (a_5 : Addr) =>
  idxK rows2 s_3.2 (sizeOfT Tryz.prog T.sl_uint8) (fun (a_6 : Addr) =>
  loadK .slice h ((some a_5)) (fun (v7 : Sl) =>
  loadK .slice h ((some a_6)) (fun (v8 : Sl) =>
  callK Tryz.prog .slice F.ref17_Four #[(.int .i64 ((v7.n : Int)))] (fun (v9 : Sl) h =>
  stillK .slice h ((some a_6)) v8 ∧
  opK Tryz.prog .slice (Builtin.append_ #[T.sl_uint8, T.sl_uint8] T.sl_uint8 #[.slice s_3.1.a s_3.1.n s_3.1.c, .slice v9.a v9.n v9.c]) (fun (v10 : Sl) h =>
  stillK .slice h ((some a_6)) v8 ∧
  opK Tryz.prog .slice (Builtin.append_ #[T.sl_uint8, T.sl_uint8] T.sl_uint8 #[.slice v10.a v10.n v10.c, .slice v8.a v8.n v8.c]) (fun (v11 : Sl) h =>
  X_4 (v11, IntKind.i64.wrap (s_3.2 + 1)) h) h) h) h))))
  else
  loadAggK (sizeOfT Tryz.prog T.api_Tag) h nonce_1 (fun (v12 : Array Value) =>
  callK Tryz.prog .slice F.ref22_raw #[.agg v12] (fun (v13 : Sl) h =>
  opK Tryz.prog .slice (Builtin.append_ #[T.sl_uint8, T.sl_uint8] T.sl_uint8 #[.slice s_3.1.a s_3.1.n s_3.1.c, .slice v13.a v13.n v13.c]) (fun (v14 : Sl) h =>
  if (decide (((v14.n : Int)) > 65536)) = true then
  buildK Tryz.prog (Instr.build T.api_Tag #[]) (fun (v15 : Array Value) =>
  storeAggK (sizeOfT Tryz.prog T.api_Tag) h v2 v15 (fun h =>
  quietK Tryz.prog .agg (Instr.loadAt T.api_Tag (.pointer v2)) (fun r16 =>
  R (.tuple #[.agg r16, .int .i64 3]) h) h))
  else
  newSlK h 4 #[.int .u8 104, .int .u8 105, .int .u8 100, .int .u8 101] T.uint8 (fun v17 h =>
  opK Tryz.prog .slice (convert T.sl_uint8 T.sl_uint8 (.slice v17.a v17.n v17.c)) (fun (v18 : Sl) h =>
  opK Tryz.prog .slice (Builtin.append_ #[T.sl_uint8, T.sl_uint8] T.sl_uint8 #[.slice v18.a v18.n v18.c, .slice v14.a v14.n v14.c]) (fun (v19 : Sl) h =>
  callK Tryz.prog .agg F.ref04_Maker_Sum #[.pointer m0, .slice v19.a v19.n v19.c] (fun (v20 : Array Value) h =>
  storeAggK (sizeOfT Tryz.prog T.api_Tag) h v2 v20 (fun h =>
  quietK Tryz.prog .agg (Instr.loadAt T.api_Tag (.pointer v2)) (fun r21 =>
  R (.tuple #[.agg r21, .int .i64 0]) h) h)) h) h) h)) h) h)) (⟨none, 0, 0⟩, 0) h))
def ref22_Cover.ann : Ann := (.seq .leaf (.seq .leaf (.seq (.seq .leaf (.block (.loop [(8, .slice), (9, (.int .i64))] (.seq (.seq .leaf (.cond .leaf .leaf)) (.seq (.block (.any (.loc 0 (.loc 1 (.loc 2 (.loc 3 (.loc 8 (.loc 9 (.loc 10 (.st 4 12512 (.loc 5 (.st 11 12288 (.last 6 (.last 7 (.last 12 (.loc 13 .done)))))))))))))))) .leaf))))) (.seq .leaf (.seq (.seq .leaf (.cond (.seq .leaf .leaf) .leaf)) (.seq .leaf .leaf))))))
theorem ref22_Cover.eq (m0 : Option Addr) (nonce1 : Array Value) (rows2 : Sl) (R : Value → Heap → Prop) (h : Heap) : ref22_Cover.body m0 nonce1 rows2 R h = evFn Tryz.prog Tryz.f24 ref22_Cover.ann [.pointer m0, .agg nonce1, .slice rows2.a rows2.n rows2.c] R h := by kernel_rfl
theorem ref22_Cover.calls {m0 : Option Addr} {nonce1 : Array Value} {rows2 : Sl} {R : Value → Heap → Prop} {h : Heap} (H : ref22_Cover.body m0 nonce1 rows2 R h) : HC Tryz.prog F.ref22_Cover #[.pointer m0, .agg nonce1, .slice rows2.a rows2.n rows2.c] R h :=
  evFn_sound mixed Tryz.func24 (by kernel_rfl) (ref22_Cover.eq m0 nonce1 rows2 R h ▸ H)

/-! (*zugzwang/digest.Hasher).all -/
def digest_Hasher_all.body (h0 : Option Addr) (rows1 : Sl) (R : Value → Heap → Prop) (h : Heap) : Prop :=
  loopW (fun X_2 (s_1 : Int) (h : Heap) =>
  if (decide (s_1 < ((rows1.n : Int)))) = true then
  idxK rows1 s_1 (sizeOfT Tryz.prog T.sl_uint8) (fun (a_3 : Addr) =>
  loadK .slice h ((some a_3)) (fun (v4 : Sl) =>
  derefK h0 (fun (a_5 : Addr) =>
  fldK ((some a_5)) 9 (fun (a_6 : Addr) =>
  loadK (.int .i64) h ((some a_6)) (fun (v7 : Int) =>
  derefK h0 (fun (a_8 : Addr) =>
  fldK ((some a_8)) 9 (fun (a_9 : Addr) =>
  storeK h ((some a_9)) (.int .i64 (IntKind.i64.wrap (v7 + ((v4.n : Int))))) (fun h =>
  derefK h0 (fun (a_10 : Addr) =>
  fldK ((some a_10)) 8 (fun (a_11 : Addr) =>
  loadK .slice h ((some a_11)) (fun (v12 : Sl) =>
  opK Tryz.prog .slice (Builtin.append_ #[T.sl_uint8, T.sl_uint8] T.sl_uint8 #[.slice v12.a v12.n v12.c, .slice v4.a v4.n v4.c]) (fun (v13 : Sl) h =>
  derefK h0 (fun (a_14 : Addr) =>
  fldK ((some a_14)) 8 (fun (a_15 : Addr) =>
  storeK h ((some a_15)) (.slice v13.a v13.n v13.c) (fun h =>
  loopW (fun X_17 (s_16 : Unit) (h : Heap) =>
  derefK h0 (fun (a_18 : Addr) =>
  fldK ((some a_18)) 8 (fun (a_19 : Addr) =>
  loadK .slice h ((some a_19)) (fun (v20 : Sl) =>
  if (decide (((v20.n : Int)) ≥ 64)) = true then
  derefK h0 (fun (a_21 : Addr) =>
  fldK ((some a_21)) 0 (fun (a_22 : Addr) =>
  derefK h0 (fun (a_23 : Addr) =>
  fldK ((some a_23)) 8 (fun (a_24 : Addr) =>
  loadK .slice h ((some a_24)) (fun (v25 : Sl) =>
  sliceK v25 none (some 64) none (sizeOfT Tryz.prog T.uint8) (fun (v26 : Sl) =>
  callK Tryz.prog .unit F.digest_state_take #[(.pointer ((some a_22))), .slice v26.a v26.n v26.c] (fun (v27 : Unit) h =>
  derefK h0 (fun (a_28 : Addr) =>
  fldK ((some a_28)) 8 (fun (a_29 : Addr) =>
  loadK .slice h ((some a_29)) (fun (v30 : Sl) =>
  sliceK v30 (some 64) none none (sizeOfT Tryz.prog T.uint8) (fun (v31 : Sl) =>
  derefK h0 (fun (a_32 : Addr) =>
  fldK ((some a_32)) 8 (fun (a_33 : Addr) =>
  storeK h ((some a_33)) (.slice v31.a v31.n v31.c) (fun h =>
  X_17 () h)))))))) h))))))
  else
  X_2 (IntKind.i64.wrap (s_1 + 1)) h)))) () h)))) h)))))))))))
  else
  derefK h0 (fun (a_34 : Addr) =>
  fldK ((some a_34)) 8 (fun (a_35 : Addr) =>
  loadK .slice h ((some a_35)) (fun (v36 : Sl) =>
  callK Tryz.prog .slice F.slices_Clone_byte_byte #[.slice v36.a v36.n v36.c] (fun (v37 : Sl) h =>
  derefK h0 (fun (a_38 : Addr) =>
  fldK ((some a_38)) 8 (fun (a_39 : Addr) =>
  storeK h ((some a_39)) (.slice v37.a v37.n v37.c) (fun h =>
  R (.tuple #[]) h)))) h)))) 0 h
def digest_Hasher_all.ann : Ann := (.seq (.seq .leaf (.block (.loop [(8, (.int .i64))] (.seq .leaf (.seq (.cond .leaf .leaf) (.seq (.block (.seq .leaf (.seq .leaf (.seq .leaf (.block (.loop [] (.seq (.seq .leaf (.cond .leaf .leaf)) (.block (.seq (.any (.loc 0 (.loc 1 (.loc 2 (.loc 3 (.loc 4 (.loc 5 (.st 6 384 (.loc 7 (.last 8 .done)))))))))) .leaf))))))))) .leaf)))))) .leaf)
theorem digest_Hasher_all.eq (h0 : Option Addr) (rows1 : Sl) (R : Value → Heap → Prop) (h : Heap) : digest_Hasher_all.body h0 rows1 R h = evFn Tryz.prog Tryz.f60 digest_Hasher_all.ann [.pointer h0, .slice rows1.a rows1.n rows1.c] R h := by kernel_rfl
theorem digest_Hasher_all.calls {h0 : Option Addr} {rows1 : Sl} {R : Value → Heap → Prop} {h : Heap} (H : digest_Hasher_all.body h0 rows1 R h) : HC Tryz.prog F.digest_Hasher_all #[.pointer h0, .slice rows1.a rows1.n rows1.c] R h :=
  evFn_sound mixed Tryz.func60 (by kernel_rfl) (digest_Hasher_all.eq h0 rows1 R h ▸ H)

end Go.Proofs.YtafjmdeldejonaaGreat
