/-
  Loads: the tariffs one by one, each held against the cheapest. No condition.
-/
import Derived.Test.YtbgpdaclaknapaaTLoadsP
import Derived.Test.YtbgpdaclaknapaaTCheapI
import Derived.Test.YtbgpdaclaknapaaTPriceFor
namespace Go.Proofs.Ytbgpdaclaknapaa
open Go.RowKit
set_option maxHeartbeats 400000

def loopsOf : Code → List Code
  | .loop c => [c]
  | .seq a b => loopsOf a ++ loopsOf b
  | .block _ c => loopsOf c
  | .scope c => loopsOf c
  | .cond _ a b => loopsOf a ++ loopsOf b
  | _ => []
noncomputable def loads2 : Code := (Try.f5.body.bind fun c => (loopsOf c)[1]?).getD .skip
set_option maxHeartbeats 8000000 in
set_option maxRecDepth 100000 in
theorem loads2_any (A : Option Addr) (c : Nat) (ts : List TRow) (Ag : Option Addr) (cg : Nat) (ga : List Int) (Am : Option Addr) (cm : Nat) (ma : List Int) (best least : Int) (wq : World)
    (h1 : ts.length ≤ 9) (h2 : totT ts ≤ 81) (_h3 : ga.length ≤ 50) (h4 : ma.length ≤ 50) (lg1 : ga.length ≤ ma.length) (lg2 : ma.length ≤ ga.length)
    (HV : Hid (∀ (i : Nat) (r : TRow), ts[i]? = some r → validT ⟨r.xs, r.h, r.e⟩ = true))
    (HB : Hid (∀ (i : Nat) (r : TRow), ts[i]? = some r → (∀ s, sumTo ⟨r.xs, r.h, r.e⟩ ga ma ga.length = some s → least ≤ s) ∧ (best = (i : Int) → sumTo ⟨r.xs, r.h, r.e⟩ ga ma ga.length = some least)))
    (HG : Hid (∀ (i : Nat) (g : Int), ga[i]? = some g → 0 ≤ g ∧ g ≤ 5000)) (HM : Hid (∀ (i : Nat) (m : Int), ma[i]? = some m → 0 ≤ m ∧ m ≤ 20000))
    (Xq : Hid (SlT wq wq.heap.size A ts.length ts)) (Gq : Hid (Sl wq wq.heap.size 1 encI Ag ga.length ga)) (Mq : Hid (Sl wq wq.heap.size 1 encI Am ma.length ma))
    (v0 v1 v2 v6 v7 v8 v11 v12 v13 v14 v15 v16 v17 v18 v19 v20 v21 v22 v23 v24 v25 v26 v27 v28 v29 v31 v32 v33 v34 v35 v36 v37 v38 v39 v40 v41 v42 v43 v44 v45 v46 v47 v48 v49 v50 v51 v52 v53 v54 v55 v56 v57 v58 v59 v60 v61 v62 v63 v64 v65 v66 v67 v68 v69 v70 v71 v72 v73 v74 v75 v76 v77 v78 v79 v80 v81 v82 v83 v84 v85 v86 v87 v88 v89 v90 v91 v92 v93 v94 v95 v96 v97 v98 v99 v100 v101 v102 v103 v104 v105 v106 v107 v108 v109 v110 v111 v112 v113 v114 v115 v116 v117 v118 v119 v120 v121 v122 v123 v124 v125 v126 v127 v128 v129 v130 v131 v132 v133 v134 v135 v136 v137 v138 v139 v140 v141 v142 v143 v144 v145 v146 v147 v148 v149 v150 v151 v152 v153 v154 v155 v156 v157 v158 v159 v160 v161 v162 v163 v164 v165 v166 v167 v168 v169 v170 v171 v172 v173 v174 v175 v176 v177 v178 v179 v180 v181 v182 v183 v184 v185 v186 v187 v188 v189 v190 v191 v192 v193 v194 v195 v196 v197 v198 v199 v200 v201 v202 v203 v204 v205 v206 v207 v208 v209 v210 v211 v212 v213 v214 v215 v216 v217 v218 v219 v220 v221 v222 v223 v224 v225 v226 v227 v228 v229 v230 v231 v232 v233 v234 v235 v236 v237 v238 v239 v240 v241 v242 v243 v244 v245 v246 v247 v248 v249 v250 v251 v252 v253 v254 v255 v256 v257 v258 v259 v260 v261 v262 v263 v264 v265 v266 : Value) (Q0 : Exit → Act → World → Prop)
    (hexit : ∀ (c0 c1 c2 c3 c4 c5 c6 c7 c8 c9 c10 c11 c12 c13 c14 c15 c16 c17 c18 c19 c20 c21 c22 c23 c24 c25 c26 c27 c28 c29 c30 c31 c32 c33 c34 c35 c36 c37 c38 c39 c40 c41 c42 c43 c44 c45 c46 c47 c48 c49 c50 c51 c52 c53 c54 c55 c56 c57 c58 c59 c60 c61 c62 c63 c64 c65 c66 c67 c68 c69 c70 c71 c72 c73 c74 c75 c76 c77 c78 c79 c80 c81 c82 c83 c84 c85 c86 c87 c88 c89 c90 c91 c92 c93 c94 c95 c96 c97 c98 c99 c100 c101 c102 c103 c104 c105 c106 c107 c108 c109 c110 c111 c112 c113 c114 c115 c116 c117 c118 c119 c120 c121 c122 c123 c124 c125 c126 c127 c128 c129 c130 c131 c132 c133 c134 c135 c136 c137 c138 c139 c140 c141 c142 c143 c144 c145 c146 c147 c148 c149 c150 c151 c152 c153 c154 c155 c156 c157 c158 c159 c160 c161 c162 c163 c164 c165 c166 c167 c168 c169 c170 c171 c172 c173 c174 c175 c176 c177 c178 c179 c180 c181 c182 c183 c184 c185 c186 c187 c188 c189 c190 c191 c192 c193 c194 c195 c196 c197 c198 c199 c200 c201 c202 c203 c204 c205 c206 c207 c208 c209 c210 c211 c212 c213 c214 c215 c216 c217 c218 c219 c220 c221 c222 c223 c224 c225 c226 c227 c228 c229 c230 c231 c232 c233 c234 c235 c236 c237 c238 c239 c240 c241 c242 c243 c244 c245 c246 c247 c248 c249 c250 c251 c252 c253 c254 c255 c256 c257 c258 c259 c260 c261 c262 c263 c264 c265 c266 : Value) (w' : World), Below wq.heap.size wq w' → Q0 (.exit 2) ⟨List.toArray (c0 :: c1 :: c2 :: c3 :: c4 :: c5 :: c6 :: c7 :: c8 :: c9 :: c10 :: c11 :: c12 :: c13 :: c14 :: c15 :: c16 :: c17 :: c18 :: c19 :: c20 :: c21 :: c22 :: c23 :: c24 :: c25 :: c26 :: c27 :: c28 :: c29 :: c30 :: c31 :: c32 :: c33 :: c34 :: c35 :: c36 :: c37 :: c38 :: c39 :: c40 :: c41 :: c42 :: c43 :: c44 :: c45 :: c46 :: c47 :: c48 :: c49 :: c50 :: c51 :: c52 :: c53 :: c54 :: c55 :: c56 :: c57 :: c58 :: c59 :: c60 :: c61 :: c62 :: c63 :: c64 :: c65 :: c66 :: c67 :: c68 :: c69 :: c70 :: c71 :: c72 :: c73 :: c74 :: c75 :: c76 :: c77 :: c78 :: c79 :: c80 :: c81 :: c82 :: c83 :: c84 :: c85 :: c86 :: c87 :: c88 :: c89 :: c90 :: c91 :: c92 :: c93 :: c94 :: c95 :: c96 :: c97 :: c98 :: c99 :: c100 :: c101 :: c102 :: c103 :: c104 :: c105 :: c106 :: c107 :: c108 :: c109 :: c110 :: c111 :: c112 :: c113 :: c114 :: c115 :: c116 :: c117 :: c118 :: c119 :: c120 :: c121 :: c122 :: c123 :: c124 :: c125 :: c126 :: c127 :: c128 :: c129 :: c130 :: c131 :: c132 :: c133 :: c134 :: c135 :: c136 :: c137 :: c138 :: c139 :: c140 :: c141 :: c142 :: c143 :: c144 :: c145 :: c146 :: c147 :: c148 :: c149 :: c150 :: c151 :: c152 :: c153 :: c154 :: c155 :: c156 :: c157 :: c158 :: c159 :: c160 :: c161 :: c162 :: c163 :: c164 :: c165 :: c166 :: c167 :: c168 :: c169 :: c170 :: c171 :: c172 :: c173 :: c174 :: c175 :: c176 :: c177 :: c178 :: c179 :: c180 :: c181 :: c182 :: c183 :: c184 :: c185 :: c186 :: c187 :: c188 :: c189 :: c190 :: c191 :: c192 :: c193 :: c194 :: c195 :: c196 :: c197 :: c198 :: c199 :: c200 :: c201 :: c202 :: c203 :: c204 :: c205 :: c206 :: c207 :: c208 :: c209 :: c210 :: c211 :: c212 :: c213 :: c214 :: c215 :: c216 :: c217 :: c218 :: c219 :: c220 :: c221 :: c222 :: c223 :: c224 :: c225 :: c226 :: c227 :: c228 :: c229 :: c230 :: c231 :: c232 :: c233 :: c234 :: c235 :: c236 :: c237 :: c238 :: c239 :: c240 :: c241 :: c242 :: c243 :: c244 :: c245 :: c246 :: c247 :: c248 :: c249 :: c250 :: c251 :: c252 :: c253 :: c254 :: c255 :: c256 :: c257 :: c258 :: c259 :: c260 :: c261 :: c262 :: c263 :: c264 :: c265 :: c266 :: []), []⟩ w') :
    Code.wp Try.prog (Code.loop loads2) Q0 ⟨(List.toArray (v0 :: v1 :: v2 :: (.slice A ts.length c : Value) :: (.slice Ag ga.length cg : Value) :: (.slice Am ma.length cm : Value) :: v6 :: v7 :: v8 :: (.int .i64 best : Value) :: (.int .i64 least : Value) :: v11 :: v12 :: v13 :: v14 :: v15 :: v16 :: v17 :: v18 :: v19 :: v20 :: v21 :: v22 :: v23 :: v24 :: v25 :: v26 :: v27 :: v28 :: v29 :: (.int .i64 0 : Value) :: v31 :: v32 :: v33 :: v34 :: v35 :: v36 :: v37 :: v38 :: v39 :: v40 :: v41 :: v42 :: v43 :: v44 :: v45 :: v46 :: v47 :: v48 :: v49 :: v50 :: v51 :: v52 :: v53 :: v54 :: v55 :: v56 :: v57 :: v58 :: v59 :: v60 :: v61 :: v62 :: v63 :: v64 :: v65 :: v66 :: v67 :: v68 :: v69 :: v70 :: v71 :: v72 :: v73 :: v74 :: v75 :: v76 :: v77 :: v78 :: v79 :: v80 :: v81 :: v82 :: v83 :: v84 :: v85 :: v86 :: v87 :: v88 :: v89 :: v90 :: v91 :: v92 :: v93 :: v94 :: v95 :: v96 :: v97 :: v98 :: v99 :: v100 :: v101 :: v102 :: v103 :: v104 :: v105 :: v106 :: v107 :: v108 :: v109 :: v110 :: v111 :: v112 :: v113 :: v114 :: v115 :: v116 :: v117 :: v118 :: v119 :: v120 :: v121 :: v122 :: v123 :: v124 :: v125 :: v126 :: v127 :: v128 :: v129 :: v130 :: v131 :: v132 :: v133 :: v134 :: v135 :: v136 :: v137 :: v138 :: v139 :: v140 :: v141 :: v142 :: v143 :: v144 :: v145 :: v146 :: v147 :: v148 :: v149 :: v150 :: v151 :: v152 :: v153 :: v154 :: v155 :: v156 :: v157 :: v158 :: v159 :: v160 :: v161 :: v162 :: v163 :: v164 :: v165 :: v166 :: v167 :: v168 :: v169 :: v170 :: v171 :: v172 :: v173 :: v174 :: v175 :: v176 :: v177 :: v178 :: v179 :: v180 :: v181 :: v182 :: v183 :: v184 :: v185 :: v186 :: v187 :: v188 :: v189 :: v190 :: v191 :: v192 :: v193 :: v194 :: v195 :: v196 :: v197 :: v198 :: v199 :: v200 :: v201 :: v202 :: v203 :: v204 :: v205 :: v206 :: v207 :: v208 :: v209 :: v210 :: v211 :: v212 :: v213 :: v214 :: v215 :: v216 :: v217 :: v218 :: v219 :: v220 :: v221 :: v222 :: v223 :: v224 :: v225 :: v226 :: v227 :: v228 :: v229 :: v230 :: v231 :: v232 :: v233 :: v234 :: v235 :: v236 :: v237 :: v238 :: v239 :: v240 :: v241 :: v242 :: v243 :: v244 :: v245 :: v246 :: v247 :: v248 :: v249 :: v250 :: v251 :: v252 :: v253 :: v254 :: v255 :: v256 :: v257 :: v258 :: v259 :: v260 :: v261 :: v262 :: v263 :: v264 :: v265 :: v266 :: [])), []⟩ wq := by
  conv => arg 2; arg 1; whnf
  go_loopw [30] (fun i wl => ∃ k : Nat, k ≤ ts.length ∧ i = .int .i64 k ∧ Below wq.heap.size wq wl) (fun i _ => ts.length - (intOf i).toNat)
  case atStart => exact ⟨0, Nat.zero_le _, rfl, Below.refl _ _⟩
  case round =>
    obtain ⟨k, hk, rfl, hb⟩ := hrel
    by_cases hkn : k < ts.length
    · obtain ⟨Ai, ni, ci, xi, ah, ae, b, off, Hx, rfl, hbB, t0, t1, t2, hxi⟩ := (Xq.out.below hb).row hkn
      have hni := totT_mem (List.mem_of_getElem? Hx.out)
      simp only at hni
      have HVi := hid (HV.out k _ Hx.out)
      have HBi := hid (HB.out k _ Hx.out)
      have HXI := hid hxi
      obtain ⟨wo, rfl⟩ : ∃ wo : World, wo = wr := ⟨_, rfl⟩
      have hBo := hb.size
      clear hxi HV HB Hx
      go_wp2_with fail
      go_loopw [31, 32, 33] (fun vt vf j wl => ∃ (i' : Nat) (q : Int) (bl : Bool), i' ≤ ga.length ∧ j = .int .i64 i' ∧ vt = .int .i64 q ∧ vf = .bool bl ∧ SumOk ⟨xi, ah, ae⟩ ga ma i' bl q ∧ 0 ≤ q ∧ q ≤ 221100000 * (i' : Int) ∧ Below wo.heap.size wo wl) (fun _ _ j _ => ga.length - (intOf j).toNat)
      case atStart => exact ⟨0, 0, true, Nat.zero_le _, rfl, rfl, rfl, ⟨rfl, fun _ => rfl⟩, by omega, by omega, Below.refl _ _⟩
      case round =>
        obtain ⟨i, q, bl, him, rfl, rfl, rfl, hs, q0, q1, hb2⟩ := hrel
        have hb3 := hb.trans (hb2.mono hb.size)
        by_cases hin : i < ga.length
        · obtain ⟨g, bg, og, Hg, rfl, hbg, cg⟩ := (Gq.out.below hb3).int hin
          obtain ⟨m, bm, om, Hm, rfl, hbm, cm⟩ := (Mq.out.below hb3).int (show i < ma.length by omega)
          replace t0 := below_cell t0 hb2
          replace t1 := below_cell t1 hb2
          replace t2 := below_cell t2 hb2
          have hg := HG.out i g Hg.out
          have hm := HM.out i m Hm.out
          have cC := fun W (hW : Below wo.heap.size wo W) => implPriceFor_any Ai ni ci xi ah ae g m false W wq.heap.size (Nat.le_trans hBo hW.size) (by omega) (HXI.out.below (hW.mono hBo))
          rw [priceF_in HVi.out hg hm] at cC
          have i0 : (0 : Int) ≤ (i : Int) := by omega
          have i1 : (i : Int) < (ga.length : Int) := by omega
          have i2 : (i : Int) < (ma.length : Int) := by omega
          have k0 : (0 : Int) ≤ (k : Int) := by omega
          have k1 : (k : Int) < (ts.length : Int) := by omega
          obtain ⟨PR, hPR⟩ : ∃ PR, PR = prO (costOf xi ah ae g m false) := ⟨_, rfl⟩
          rw [← hPR] at cC
          obtain ⟨pz, pc⟩ := PR
          simp only [pairI] at cC
          have HPR := hid hPR
          have HSS := hid hs
          clear hs hPR
          go_wp2_with fail
          go_region_held3 (fun W => W.cell? ⟨b, off + k * 3, none⟩ = some (.slice Ai ni ci) ∧ W.cell? ⟨b, off + k * 3 + 1, none⟩ = some (.int .i64 ah) ∧ W.cell? ⟨b, off + k * 3 + 2, none⟩ = some (.int .i64 ae) ∧ W.cell? ⟨bg, og + i, none⟩ = some (.int .i64 g) ∧ W.cell? ⟨bm, om + i, none⟩ = some (.int .i64 m))
            (first
              | (go_keep; done)
              | (go_split_ands; exact ⟨below_cell (by assumption) b7, below_cell (by assumption) b7, below_cell (by assumption) b7, below_cell (by assumption) b7, below_cell (by assumption) b7⟩))
            (first
              | (go_at_call 29; with_reducible refine (cC _ hb2.drew).mono ?_; rintro r w7 ⟨rfl, b7⟩))
          have hb7 := hb2.trans (((Below.refl _ _).drew.trans b7).mono hb2.size)
          clear cC b7
          cases hco : costOf xi ah ae g m false with
          | none =>
            have hp := HPR.out
            rw [hco] at hp
            simp only [prO, Prod.mk.injEq] at hp
            obtain ⟨rfl, rfl⟩ := hp
            have HS : SumOk ⟨xi, ah, ae⟩ ga ma (i + 1) false q := by
              rw [SumOk, sumTo_no Hg.out Hm.out hco]; simp
            clear HSS hco HPR
            cases bl with
            | true =>
              go_wp2_with fail
              go_roundw
              all_goals first | exact ⟨i + 1, q, false, by omega, by go_num, by go_num, rfl, HS, by omega, by omega, hb7⟩ | exact ⟨⟨i + 1, q, false, by omega, by go_num, by go_num, rfl, HS, by omega, by omega, hb7⟩, by simp [intOf]; omega⟩ | (simp [intOf]; omega)
            | false =>
              go_wp2_with fail
              go_roundw
              all_goals first | exact ⟨i + 1, q, false, by omega, by go_num, by go_num, rfl, HS, by omega, by omega, hb7⟩ | exact ⟨⟨i + 1, q, false, by omega, by go_num, by go_num, rfl, HS, by omega, by omega, hb7⟩, by simp [intOf]; omega⟩ | (simp [intOf]; omega)
          | some v =>
            have hp := HPR.out
            rw [hco] at hp
            simp only [prO, Prod.mk.injEq] at hp
            obtain ⟨rfl, rfl⟩ := hp
            obtain ⟨v0, v1⟩ := cost_in HVi.out hm.1 hm.2 hco
            have hs := HSS.out
            cases bl with
            | true =>
              have HS : SumOk ⟨xi, ah, ae⟩ ga ma (i + 1) true (q + pz) := by
                rw [SumOk, sumTo_some (hs.2 rfl) Hg.out Hm.out hco]; simp
              clear hs HSS hco HPR
              go_wp2_with fail
              go_roundw
              all_goals first | exact ⟨i + 1, q + pz, true, by omega, by go_num, by go_num, rfl, HS, by omega, by omega, hb7⟩ | exact ⟨⟨i + 1, q + pz, true, by omega, by go_num, by go_num, rfl, HS, by omega, by omega, hb7⟩, by simp [intOf]; omega⟩ | (simp [intOf]; omega)
            | false =>
              have HS : SumOk ⟨xi, ah, ae⟩ ga ma (i + 1) false (q + pz) := by
                have hn : sumTo ⟨xi, ah, ae⟩ ga ma i = none := by
                  cases hz : sumTo ⟨xi, ah, ae⟩ ga ma i with
                  | none => rfl
                  | some z => have := hs.1; rw [hz] at this; cases this
                rw [SumOk, sumTo_none hn 1]; simp
              clear hs HSS hco HPR
              go_wp2_with fail
              go_roundw
              all_goals first | exact ⟨i + 1, q + pz, false, by omega, by go_num, by go_num, rfl, HS, by omega, by omega, hb7⟩ | exact ⟨⟨i + 1, q + pz, false, by omega, by go_num, by go_num, rfl, HS, by omega, by omega, hb7⟩, by simp [intOf]; omega⟩ | (simp [intOf]; omega)
        · obtain rfl : i = ga.length := by omega
          cases bl with
          | true =>
            have hl := HBi.out.1 q (hs.2 rfl)
            have l3 : ¬ q < least := by omega
            have hq : best = (k : Int) → q = least := fun h => Option.some.inj ((hs.2 rfl).symm.trans (HBi.out.2 h))
            by_cases hkb : best = (k : Int)
            · have l4 := hq hkb
              subst l4
              have l5 : ((k : Int) == best) = true := by rw [beq_iff_eq]; exact hkb.symm
              clear hkb hq hs HBi HG HM HVi HXI hl
              go_wp2_with fail
              go_roundw
              all_goals first | exact ⟨k + 1, by omega, by go_num, hb3⟩ | exact ⟨⟨k + 1, by omega, by go_num, hb3⟩, by simp [intOf]; omega⟩ | (simp [intOf]; omega)
            · have l5 : ((k : Int) == best) = false := by rw [beq_eq_false_iff_ne]; exact fun h => hkb h.symm
              clear hkb hq hs HBi HG HM HVi HXI hl
              go_wp2_with fail
              go_roundw
              all_goals first | exact ⟨k + 1, by omega, by go_num, hb3⟩ | exact ⟨⟨k + 1, by omega, by go_num, hb3⟩, by simp [intOf]; omega⟩ | (simp [intOf]; omega)
          | false =>
            have hkb : ¬ best = (k : Int) := fun h => by
              have h1 := HBi.out.2 h
              have h2 := hs.1
              rw [h1] at h2
              cases h2
            have l5 : ((k : Int) == best) = false := by rw [beq_eq_false_iff_ne]; exact fun h => hkb h.symm
            clear hkb hs HBi HG HM HVi HXI
            go_wp2_with fail
            go_roundw
            all_goals first | exact ⟨k + 1, by omega, by go_num, hb3⟩ | exact ⟨⟨k + 1, by omega, by go_num, hb3⟩, by simp [intOf]; omega⟩ | (simp [intOf]; omega)
    · clear HV HB HG HM Xq Gq Mq
      go_wp2_with fail
      exact hb
end Go.Proofs.Ytbgpdaclaknapaa
